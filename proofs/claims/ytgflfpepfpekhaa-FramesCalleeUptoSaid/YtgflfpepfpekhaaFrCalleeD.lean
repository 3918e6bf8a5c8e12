/- Which function a value calls: as data. -/
import Derived.Test.YtgflfpepfpekhaaFramesEnter
import Derived.Test.YtgflfpepfpekhaaHpSb
namespace Go.Proofs.Ytgflfpepfpekhaa
open Go.RowKit Go.Mm
set_option maxHeartbeats 1000000
set_option maxRecDepth 100000
/-- The function's number and the values bound, whatever the program. -/
def calleeF (objs : List Ob) (v1 v2 : Int) : Option (Int × List V2) :=
  if v1 = 5 then some (v2, [])
  else if v1 = 8 ∧ 0 ≤ v2 ∧ v2 < objs.length ∧ (objs.getD v2.toNat ob0).kind = 8 then some ((objs.getD v2.toNat ob0).fn, (objs.getD v2.toNat ob0).items)
  else none
/-- Of a function and the values bound: number, values bound, trap. -/
def calleeG (G : Option Fn) (fn : Int) (l : List V2) (n : Int) : Int × List V2 × Int :=
  match G with
  | none => (0, [], 1)
  | some g => if n < 0 ∨ g.params < l.length ∨ wrap64 (g.params - l.length) ≠ n then (0, [], 5) else (fn, l, 0)
def calleeD (p : Pg) (objs : List Ob) (v1 v2 n : Int) : Int × List V2 × Int :=
  match calleeF objs v1 v2 with
  | none => (0, [], 1)
  | some x => calleeG (fnAt p x.1) x.1 x.2 n
/-- Handed out: number, list, trap. -/
def CalQ (w0 : World) (L : List Chunk) (D : Int × List V2 × Int) (e : Ending) (w : World) : Prop :=
  ∃ A c, e = .returned (.tuple #[.int .i64 D.1, .slice A D.2.1.length c, .int .i64 D.2.2]) ∧ Mem w0 w (Own 2 (.slice A D.2.1.length c) (fV D.2.1) :: L)
theorem CalQ.no {w0 w : World} {L : List Chunk} {t : Int} (h : Mem w0 w L) : CalQ w0 L (0, [], t) (.returned (.tuple #[.int .i64 0, .slice none 0 0, .int .i64 t])) w := ⟨none, 0, rfl, h.nil 2 none⟩
theorem calleeG_lent {w : World} {p : Pg} {KA : Option Addr} {kc : Nat} {FA : Option Addr} {fc : Nat} {hs : List Fn} (h : LentOk w p KA kc FA fc hs) (hp : PgOk w p) (fn : Int) (l : List V2) (n : Int) :
    calleeG (fnAt (lentP p KA kc FA fc hs) fn) fn l n = calleeG (fnAt p fn) fn l n := by
  have hfl : p.fns.length = p.fn := rd_len cF_len (by omega) hp.fns
  have hl := h.len
  unfold fnAt lentP
  by_cases hi : 0 ≤ fn ∧ fn < p.fn
  · simp only [if_pos hi]
    have e : (List.zipWith lentF p.fns hs).getD fn.toNat fn0 = lentF (p.fns.getD fn.toNat fn0) (hs.getD fn.toNat fn0) := by
      have h1 := getD_some p.fns fn0 fn.toNat (by omega)
      have h2 := getD_some hs fn0 fn.toNat (by omega)
      rw [List.getD_eq_getElem?_getD, List.getElem?_zipWith, h1, h2]
      rfl
    rw [e]
    rfl
  · simp only [if_neg hi]
theorem calleeD_lent {w : World} {p : Pg} {KA : Option Addr} {kc : Nat} {FA : Option Addr} {fc : Nat} {hs : List Fn} (h : LentOk w p KA kc FA fc hs) (hp : PgOk w p) (objs : List Ob) (v1 v2 n : Int) :
    calleeD (lentP p KA kc FA fc hs) objs v1 v2 n = calleeD p objs v1 v2 n := by
  unfold calleeD
  cases calleeF objs v1 v2 with
  | none => rfl
  | some x => exact calleeG_lent h hp x.1 x.2 n
end Go.Proofs.Ytgflfpepfpekhaa
