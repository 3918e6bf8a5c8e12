/- Calls through an interface's value whose dynamic type is told by a fact. No program in sight. -/
import Derived.Test.YtpibchjkmaghnaaCutw
import Derived.Test.YtpibchjkmaghnaaRng
import Derived.StillTail
import Derived.StillTailTactics
namespace Go.Mm
open Go.RowKit
section
variable {P : Program} {ops : Array Oper} {Q : Exit → Act → World → Prop}
/-- The method of a value, called. -/
def ICalls (P : Program) (v : Value) (name : String) (args : Array Value) (w : World) (R : Ending → World → Prop) : Prop :=
  ∃ f as, (callMethod v name args).run P w = .ok (.enter f as) w ∧ Calls P f as w R
theorem ICalls.mono {v : Value} {name : String} {args : Array Value} {w : World} {R R' : Ending → World → Prop} (h : ICalls P v name args w R) (hr : ∀ e w', R e w' → R' e w') : ICalls P v name args w R' :=
  let ⟨f, as, h1, h2⟩ := h
  ⟨f, as, h1, h2.mono hr⟩
theorem run_inv {o : Oper} {a : Act} {w : World} (x : Operand) (name : String) (xs : List Operand) (ts : Array TypeId) (ho : o.op = .call { callee := .invoke x name, args := xs.toArray, argTypes := ts }) (v : Value) (hx : a.eval x = v) (args : List Value) (ha : xs.map a.eval = args) :
    (execOp a.eval o).run P w = (callMethod v name args.toArray).run P w := by
  have he : (#[v] ++ args.toArray).extract 1 (#[v] ++ args.toArray).size = args.toArray := by
    apply Array.ext'
    simp
  have h0 : (#[v] ++ args.toArray)[0]? = some v := by rw [Array.getElem?_append_left (by simp)]; rfl
  unfold execOp
  simp only [ho, resolve, Sem.run_bind, Sem.run_pure, Result.andThen_ok, hx, List.map_toArray, ha, invoke, h0, he]
theorem step_inv {o : Oper} {a : Act} {w : World} {K : Act → World → Prop} {E : Prop} (hw : Region.wanted o (yielded ops a.tmps) = true) (x : Operand) (name : String) (xs : List Operand) (ts : Array TypeId) (ho : o.op = .call { callee := .invoke x name, args := xs.toArray, argTypes := ts }) (v : Value) (hx : a.eval x = v) (args : List Value) (ha : xs.map a.eval = args)
    (h : ICalls P v name args.toArray w fun e w' => ∃ r, e = .returned r ∧ K (a.put o.dst r) w') :
    if Region.wanted o (yielded ops a.tmps) = true then o.wp P a w K Q else E := by
  rw [if_pos hw]
  obtain ⟨f, as, h1, h2⟩ := h
  unfold Oper.wp
  rw [run_inv x name xs ts ho v hx args ha, h1]
  exact h2.mono fun e w' he => by obtain ⟨r, rfl, hK⟩ := he; exact hK
theorem wp_inv {o : Oper} {rest : List Oper} {a : Act} {w : World} (hw : Region.wanted o (yielded ops a.tmps) = true) (x : Operand) (name : String) (xs : List Operand) (ts : Array TypeId) (ho : o.op = .call { callee := .invoke x name, args := xs.toArray, argTypes := ts }) (v : Value) (hx : a.eval x = v) (args : List Value) (ha : xs.map a.eval = args)
    (h : ICalls P v name args.toArray w fun e w' => ∃ r, e = .returned r ∧ wpList P ops Q rest (a.put o.dst r) w') : wpList P ops Q (o :: rest) a w := by
  refine wpList_want hw fun K hK => ?_
  obtain ⟨f, as, h1, h2⟩ := h
  unfold Oper.wp
  rw [run_inv x name xs ts ho v hx args ha, h1]
  exact h2.mono fun e w' he => by obtain ⟨r, rfl, hr⟩ := he; exact hK _ _ hr
theorem quiet_inv {o : Oper} {a : Act} {K : Act → Prop} {w : World} (x : Operand) (name : String) (xs : List Operand) (ts : Array TypeId) (ho : o.op = .call { callee := .invoke x name, args := xs.toArray, argTypes := ts }) (v : Value) (hx : a.eval x = v) (args : List Value) (ha : xs.map a.eval = args)
    (r : Value) (hc : ∀ w', ICalls P v name args.toArray w' fun e w'' => e = .returned r ∧ w'' = w') (h : K (a.put o.dst r)) : o.quiet P a (fun w' => ∃ n, w' = w.drewN n) K :=
  ⟨r, fun w' hw' => by
    obtain ⟨f, as, h1, h2⟩ := hc w'
    unfold Oper.quietAt
    rw [run_inv x name xs ts ho v hx args ha, h1]
    exact ⟨rfl, h2.mono fun e w'' he => ⟨he.1, by rw [he.2]; exact hw'⟩⟩, h⟩
theorem still_inv {o : Oper} {a : Act} {rest : List Oper} {Q : Act → Prop} {w : World} (hw : Region.wanted o (yielded ops a.tmps) = true) (x : Operand) (name : String) (xs : List Operand) (ts : Array TypeId) (ho : o.op = .call { callee := .invoke x name, args := xs.toArray, argTypes := ts }) (v : Value) (hx : a.eval x = v) (args : List Value) (ha : xs.map a.eval = args)
    (r : Value) (hc : ∀ w', ICalls P v name args.toArray w' fun e w'' => e = .returned r ∧ w'' = w') (h : wpStill P ops w Q rest (a.put o.dst r)) : wpStill P ops w Q (o :: rest) a := by
  unfold wpStill
  rw [if_pos hw]
  obtain ⟨f, as, h1, h2⟩ := hc w
  unfold Oper.still
  rw [run_inv x name xs ts ho v hx args ha, h1]
  exact ⟨rfl, r, h2, h⟩
end
end Go.Mm
