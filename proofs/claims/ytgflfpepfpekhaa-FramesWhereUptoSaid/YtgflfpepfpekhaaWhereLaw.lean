/- Plain law: which frame takes a value, and where, does not hang on the value. -/
import Derived.Test.YtgflfpepfpekhaaFrCatch
namespace Go.Proofs.Ytgflfpepfpekhaa
open Go.RowKit Go.Mm
theorem takes_st {G : Option Fn} {pc : Int} {m : Nat} {t : Int} {st : Nat} (h : takesG G pc m = some (t, st)) : st ≤ m := by
  unfold takesG at h
  split at h
  · cases h
  · rename_i g
    split at h
    · rename_i hl
      cases hf : g.hands.find? (hit pc g.locals m) with
      | none => rw [hf] at h; cases h
      | some x =>
        rw [hf] at h
        have hq := List.find?_some hf
        simp only [Option.map_some, Option.some.injEq, Prod.mk.injEq] at h
        obtain ⟨_, rfl⟩ := h
        simp only [hit, Bool.and_eq_true, decide_eq_true_eq] at hq
        omega
    · cases h
theorem where_law (p : Pg) (D : List FrD) : ∀ n, (∀ v, catchD p v D n = none) ∨ ∃ k t st, k < n ∧ st ≤ (D.getD k d0).2.2.length ∧ ∀ v, catchD p v D n = some (D.take k ++ [((D.getD k d0).1, t, (D.getD k d0).2.2.take st ++ [v])])
  | 0 => .inl fun _ => rfl
  | n + 1 => by
    cases h : takesG (fnAt p (D.getD n d0).1) (D.getD n d0).2.1 (D.getD n d0).2.2.length with
    | none =>
      have e : ∀ v, catchD p v D (n + 1) = catchD p v D n := fun v => by rw [catchD, h]
      rcases where_law p D n with h1 | ⟨k, t, st, h1, h2, h3⟩
      · exact .inl fun v => (e v).trans (h1 v)
      · exact .inr ⟨k, t, st, by omega, h2, fun v => (e v).trans (h3 v)⟩
    | some x =>
      obtain ⟨t, st⟩ := x
      exact .inr ⟨n, t, st, by omega, takes_st h, fun v => by rw [catchD, h]⟩
end Go.Proofs.Ytgflfpepfpekhaa
