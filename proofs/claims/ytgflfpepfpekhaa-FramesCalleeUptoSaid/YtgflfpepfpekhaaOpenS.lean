/- What came in, read as lists and structs, at any depth: from the form's own reading to the words of Mem. No program in sight. -/
import Derived.Test.YtgflfpepfpekhaaOpen
namespace Go.Mm
open Go.RowKit Go.Deep Go.WideShapes Go.ChangeShapes
section
variable {H : Type} {enc : TypeId × Value → H} {P : Program} {w : World}
/-- A slice at any depth, as a list: f: an element's cells; Good: what is known of an element and its datum. -/
theorem open_cells {α : Type} (f : α → List Value) (Good : DataW H → α → Prop) {t e : TypeId} (size : Nat) (hs0 : 0 < size) (ht : P.underlying t = some (.slice e)) (hc : P.cellsOf e = size) (hf : ∀ x, (f x).length = size ∧ One (f x))
    (hel : ∀ fuel cs d ps, DataW.trod enc P w 0 (fun _ => true) true fuel e cs = some (d, ps) → ∃ x, cs = f x ∧ Good d x) {fuel : Nat} {cs : List Value} {d : DataW H} {ps : List MemPlace}
    (hfu : DataW.trod enc P w 0 (fun _ => true) true fuel t cs = some (d, ps)) :
    ∃ (A : Option Addr) (n c : Nat) (xs : List α), cs = [.slice A n c] ∧ RdC w size (.slice A n c) (xs.flatMap f) ∧ xs.length = n ∧
      ((d = .nil ∧ xs = [] ∧ n = 0) ∨ ∃ (ds sp : List (DataW H)), d = .slice ds sp ∧ ds.length = n ∧ sp.length = c - n ∧ n ≤ c ∧ ∀ (i : Nat) (x : α), xs[i]? = some x → ∃ y, ds[i]? = some y ∧ Good y x) := by
  rcases open_slice ht hfu with ⟨hcs, hx⟩ | ⟨a, len, cap, m, k, D, Pl, hcs, _, hl, hm, hmm, hx, hi⟩
  · cases hx
    exact ⟨none, 0, 0, [], hcs, RdC.nil w size, rfl, .inl ⟨rfl, rfl, rfl⟩⟩
  · rw [if_pos rfl] at hmm
    subst hmm
    rw [hc] at hi
    obtain ⟨xs, hxl, hxs⟩ := choose_list (p := fun i x => w.cells? 0 (a.add (i * size)) size = some (f x) ∧ Good (D i) x) len (fun i hin => by
      obtain ⟨cs', h1, h2⟩ := hi i (by omega)
      obtain ⟨x, rfl, hg⟩ := hel _ _ _ _ h2
      exact ⟨x, h1, hg⟩)
    cases hx
    refine ⟨some a, len, m, xs, hcs, ⟨_, _, _, rfl, by rw [flatMap_length f size (fun x => (hf x).1), hxl], hl, hm, ?_, ?_⟩, hxl, .inr ⟨_, _, rfl, by simp, by simp, hl, ?_⟩⟩
    · intro u hu
      obtain ⟨x, _, hx⟩ := List.mem_flatMap.1 hu
      exact (hf x).2 u hx
    · intro j u hj
      refine ⟨a, rfl, ?_⟩
      have hj2 : (xs.flatMap f)[(j / size) * size + j % size]? = some u := by rw [Nat.mul_comm, Nat.div_add_mod]; exact hj
      rw [flatMap_at f size (fun x => (hf x).1) xs _ _ (Nat.mod_lt _ hs0)] at hj2
      cases hxi : xs[j / size]? with
      | none => rw [hxi] at hj2; simp at hj2
      | some x =>
        rw [hxi] at hj2
        have := (cells?_at (hxs _ _ hxi).1).2 _ _ (by simpa using hj2)
        rw [add_add, Nat.mul_comm, Nat.div_add_mod] at this
        exact this
    · intro i x hix
      have hin : i < len := by have := (List.getElem?_eq_some_iff.1 hix).1; omega
      exact ⟨D i, by simp [hin], (hxs i x hix).2⟩
/-- A struct's fields: types and offsets. -/
def fieldsOf (P : Program) (t : TypeId) : Option (List (TypeId × Nat)) :=
  match P.underlying t with
  | some (.struct fs) => some (fs.toList.map fun f => (f.type, f.offset))
  | _ => none
theorem open_struct {t : TypeId} {fl : List (TypeId × Nat)} (ht : fieldsOf P t = some fl) {fuel : Nat} {cs : List Value} {d : DataW H} {ps : List MemPlace}
    (h : DataW.trod enc P w 0 (fun _ => true) true fuel t cs = some (d, ps)) :
    ∃ (xs : List (DataW H × List MemPlace)) (n : Nat), d = .agg (xs.map (·.1)) ∧ cs.length = P.cellsOf t ∧ xs.length = fl.length ∧
      ∀ (i : Nat) (ty : TypeId) (off : Nat), fl[i]? = some (ty, off) → DataW.trod enc P w 0 (fun _ => true) true n ty ((cs.drop off).take (P.cellsOf ty)) = xs[i]? := by
  unfold fieldsOf at ht
  split at ht
  · rename_i fs hfs
    cases ht
    obtain ⟨xs, n, _, hx, hl, hxl, hi⟩ := DataW.trod_struct hfs h
    cases hx
    refine ⟨xs, n, rfl, hl, by simpa using hxl, fun i ty off hf => ?_⟩
    simp only [List.getElem?_map, Option.map_eq_some_iff] at hf
    obtain ⟨f, hf, he⟩ := hf
    cases he
    exact hi i f (by simpa using hf)
  · cases ht
theorem list4 {α : Type} {l : List α} (h : l.length = 4) : ∃ a b c d, l = [a, b, c, d] := by
  match l, h with | [a, b, c, d], _ => exact ⟨a, b, c, d, rfl⟩
theorem list5 {α : Type} {l : List α} (h : l.length = 5) : ∃ a b c d e, l = [a, b, c, d, e] := by
  match l, h with | [a, b, c, d, e], _ => exact ⟨a, b, c, d, e, rfl⟩
/-- A whole number. -/
theorem open_i {t : TypeId} {k : IntKind} (ht : P.underlying t = some (.int k)) {fuel : Nat} {v : Value} {d : DataW H} {ps : List MemPlace} (h : DataW.trod enc P w 0 (fun _ => true) true fuel t [v] = some (d, ps)) :
    ∃ n, v = .int k n ∧ d = .lit (.int k n) ∧ (Lit.int k n).wf = true := by
  obtain ⟨n, e, hx, hw⟩ := DataW.trod_int ht h
  cases e; cases hx
  exact ⟨n, rfl, rfl, hw⟩
end
end Go.Mm
