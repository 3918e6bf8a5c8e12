/- A part of a known block written over. No program in sight. -/
import Derived.Test.YtpibchjkmaghnaaCutw
import Derived.Test.YtpibchjkmaghnaaMk
namespace Go.Mm
open Go.RowKit
/-- A row of cells stored over a part of a known block, the first chunk. -/
theorem wp_setat {P : Program} {ops : Array Oper} {rest : List Oper} {o : Oper} {a : Act} {Q : Exit → Act → World → Prop} {w0 w : World} {L : List Chunk} (hw : Region.wanted o (yielded ops a.tmps) = true) (ty : TypeId) (p x : Operand) (ho : o.op = .store ty p x) (g off : Nat) (hp : a.eval p = .pointer (some ⟨g, off, none⟩)) (t : TypeId) (cs us cs' : List Value) (v : Value) (hx : a.eval x = v) (hv : v.cells = us.toArray)
    (hm : Mem w0 w (Blk g (.cells cs.toArray t) :: L)) (hi : (P.info? ty).map (·.size) = some us.length) (hl : off + us.length ≤ cs.length) (h1 : One us) (he : cs.take off ++ us ++ cs.drop (off + us.length) = cs')
    (h : ∀ w', Mem w0 w' (Blk g (.cells cs'.toArray t) :: L) → wpList P ops Q rest (a.put o.dst undef) w') : wpList P ops Q (o :: rest) a w :=
  wpList_want hw fun K hK => by
    subst he
    obtain ⟨inf, hi1, hi2⟩ : ∃ inf, P.info? ty = some inf ∧ inf.size = us.length := by
      cases h : P.info? ty with
      | none => rw [h] at hi; simp at hi
      | some inf => rw [h] at hi; exact ⟨inf, rfl, by simpa using hi⟩
    have hg := hm.blk m0
    have hst := run_storeCells_at P g off t us 0 cs.toArray w hg (by simpa using hl) h1
    simp only [Nat.add_zero] at hst
    unfold Oper.wp execOp
    simp only [ho, hp, hx]
    simp [Instr.storeAt, Instr.sureAddr, storeVar, sizeOf, typeInfo, hi1, hi2, hv, hst]
    refine hK _ _ (h _ (hm.upd ⟨rfl, rfl, rfl, by simp, fun k _ hk => setRow_other w g k _ (fun e => hk e)⟩ ?_ (fun k hk => .inl hk)))
    show (w.setRow g _).heap[g]? = _
    simpa using setRow_heap w g cs.toArray (cs.take off ++ us ++ cs.drop (off + us.length)).toArray t _ hg
theorem step_setat {P : Program} {ops : Array Oper} {o : Oper} {a : Act} {Q : Exit → Act → World → Prop} {K : Act → World → Prop} {E : Prop} {w0 w : World} {L : List Chunk} (hw : Region.wanted o (yielded ops a.tmps) = true) (ty : TypeId) (p x : Operand) (ho : o.op = .store ty p x) (g off : Nat) (hp : a.eval p = .pointer (some ⟨g, off, none⟩)) (t : TypeId) (cs us cs' : List Value) (v : Value) (hx : a.eval x = v) (hv : v.cells = us.toArray)
    (hm : Mem w0 w (Blk g (.cells cs.toArray t) :: L)) (hi : (P.info? ty).map (·.size) = some us.length) (hl : off + us.length ≤ cs.length) (h1 : One us) (he : cs.take off ++ us ++ cs.drop (off + us.length) = cs')
    (h : ∀ w', Mem w0 w' (Blk g (.cells cs'.toArray t) :: L) → K (a.put o.dst undef) w') : if Region.wanted o (yielded ops a.tmps) = true then o.wp P a w K Q else E := by
  rw [if_pos hw]
  subst he
  obtain ⟨inf, hi1, hi2⟩ : ∃ inf, P.info? ty = some inf ∧ inf.size = us.length := by
    cases h : P.info? ty with
    | none => rw [h] at hi; simp at hi
    | some inf => rw [h] at hi; exact ⟨inf, rfl, by simpa using hi⟩
  have hg := hm.blk m0
  have hst := run_storeCells_at P g off t us 0 cs.toArray w hg (by simpa using hl) h1
  simp only [Nat.add_zero] at hst
  unfold Oper.wp execOp
  simp only [ho, hp, hx]
  simp [Instr.storeAt, Instr.sureAddr, storeVar, sizeOf, typeInfo, hi1, hi2, hv, hst]
  refine h _ (hm.upd ⟨rfl, rfl, rfl, by simp, fun k _ hk => setRow_other w g k _ (fun e => hk e)⟩ ?_ (fun k hk => .inl hk))
  show (w.setRow g _).heap[g]? = _
  simpa using setRow_heap w g cs.toArray (cs.take off ++ us ++ cs.drop (off + us.length)).toArray t _ hg
theorem one_one {v : Value} (h : v.oneCell' = true) : One [v] := fun u hu => by simp at hu; subst hu; exact h
end Go.Mm
