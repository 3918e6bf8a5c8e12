/- Plain laws of FramesRound: a function that is entered, and what returns. No program in sight. -/
import Derived.Test.YtgflfpepfpekhaaFrEnter
import Derived.Test.YtgflfpepfpekhaaFrRet
namespace Go.Proofs.Ytgflfpepfpekhaa
open Go.RowKit Go.Mm
set_option maxRecDepth 100000
theorem enterG_true {p : Pg} {w : World} (hp : PgOk w p) {fn : Int} {args : List V2} (h : enterG (fnAt p fn) args.length = true) :
    ∃ (j : Nat) (f : Fn) (b o : Nat), fn = (j : Int) ∧ j < p.fn ∧ p.fA = some ⟨b, o, none⟩ ∧ w.rangeAt b (o + j * 5) (cF f) ∧ f.params = (args.length : Int) ∧ (args.length : Int) ≤ f.locals ∧ f.locals ≤ 64 ∧ enterD (fnAt p fn) fn args = (fn, 0, args ++ List.replicate (f.locals.toNat - args.length) (0, 0)) := by
  have h0 := h
  by_cases hi : 0 ≤ fn ∧ fn < p.fn
  · have e : fnAt p fn = some (p.fns.getD fn.toNat fn0) := by unfold fnAt; rw [if_pos hi]
    have hj : fn.toNat < p.fn := by omega
    obtain ⟨b, o, ea, hc, _⟩ := rd_at cF_len (by omega) fn0 hp.fns fn.toNat hj
    rw [e] at h
    simp only [enterG, Bool.and_eq_true, decide_eq_true_eq] at h
    refine ⟨fn.toNat, p.fns.getD fn.toNat fn0, b, o, by omega, hj, ea, hc, h.1.1, h.1.2, h.2, ?_⟩
    unfold enterD
    rw [if_pos h0, e]
    rfl
  · rw [show fnAt p fn = none by unfold fnAt; rw [if_neg hi]] at h
    cases h
theorem enter_one {w w' : World} {e : Ending} {E : Bool} {D : FrD} (h : ∃ y : Fr, e = .returned (.tuple #[.agg (cR y).toArray, .bool E]) ∧ y.data = D ∧ New w w' (slot y)) :
    ∃ (yfn ypc : Int) (yA : Option Addr) (yn yc : Nat) (ysl : List V2) (b : Bool), e = .returned (.tuple #[.agg #[.int .i64 yfn, .int .i64 ypc, .slice yA yn yc], .bool b]) ∧ Fact (b = E) ∧ Fact ((yfn, ypc, ysl) = D) ∧ New w w' (slot ⟨yfn, ypc, yA, yn, yc, ysl⟩) := by
  obtain ⟨⟨yfn, ypc, yA, yn, yc, ysl⟩, rfl, hd, hn⟩ := h
  exact ⟨yfn, ypc, yA, yn, yc, ysl, E, rfl, ⟨rfl⟩, ⟨hd⟩, hn⟩
theorem ret_none {zs : List Fr} {d : FrD} (h : zs.map Fr.data = [] ++ [d]) (v : V2) : retD zs v = [] := by
  unfold retD
  rw [if_pos (by have := congrArg List.length h; simp at this; omega)]
theorem ret_some {xs zs : List Fr} {d : FrD} {q : Nat} (h : zs.map Fr.data = xs.map Fr.data ++ [d]) (hl : xs.length = q + 1) (v : V2) : retD zs v = (xs.take q).map Fr.data ++ [retF (xs.getD q fr0).data v] := by
  have hz : zs.length = q + 2 := by have := congrArg List.length h; simp at this; omega
  unfold retD
  rw [if_neg (by omega), hz, show q + 2 - 2 = q by omega]
  congr 1
  · rw [List.map_take, h, List.map_take, List.take_append_of_le_length (by simp; omega)]
  · congr 2
    have h1 : (zs.map Fr.data)[q]? = (xs.map Fr.data)[q]? := by rw [h, List.getElem?_append_left (by simp; omega)]
    rw [List.getElem?_map, List.getElem?_map, getD_some zs fr0 q (by omega), getD_some xs fr0 q (by omega)] at h1
    simpa using h1
end Go.Proofs.Ytgflfpepfpekhaa
