/- Own laws of arrays and of blocks known whole, over the words of Mem. No program in sight. -/
import Derived.Test.YtgflfpepfpekhaaMem
import Derived.ChangeKeysEq
namespace Go.Mm
open Go.RowKit

theorem run_eqItems {P : Program} (w : World) (d e : TypeId) (k : IntKind) (he : P.underlying e = some (.int k)) (xs ys : List Int) (hl : xs.length = ys.length) : ∀ (is : List Nat), (∀ i, i ∈ is → i < xs.length) →
    (Op.eqItems (d + 1) e 1 (nums k xs).toArray (nums k ys).toArray is).run P w = .ok (is.all fun i => xs.getD i 0 == ys.getD i 0) w
  | [], _ => by simp [Op.eqItems]
  | i :: is, h => by
    have hi : i < xs.length := h i (by simp)
    have ih := run_eqItems w d e k he xs ys hl is fun j hj => h j (by simp [hj])
    have px : (part e (nums k xs).toArray (i * 1)).run P w = .ok (.int k (xs.getD i 0)) w := by
      simp [part, isAgg, run_underlying he, nums, hi]
    have py : (part e (nums k ys).toArray (i * 1)).run P w = .ok (.int k (ys.getD i 0)) w := by
      simp [part, isAgg, run_underlying he, nums, show i < ys.length by omega]
    have pe : (Op.equalIn (d + 1) e (.int k (xs.getD i 0)) (.int k (ys.getD i 0))).run P w = .ok (xs.getD i 0 == ys.getD i 0) w := run_equalIn_int w d e k k _ _ he
    simp only [Op.eqItems, Sem.run_bind, px, py, pe, Result.andThen_ok, List.all_cons]
    cases hb : (xs.getD i 0 == ys.getD i 0)
    · simp
    · simpa using ih

theorem all_range_eq' (xs ys : List Int) (hl : xs.length = ys.length) : ((List.range xs.length).all fun i => xs.getD i 0 == ys.getD i 0) = (xs == ys) := by
  rw [Bool.eq_iff_iff, List.all_eq_true, beq_iff_eq]
  constructor
  · intro h
    apply List.ext_getElem hl
    intro i h1 h2
    have := h i (by simpa using h1)
    simpa [h1, h2] using this
  · rintro rfl i _
    simp

/-- Arrays of numbers are the same if the lists are. -/
theorem run_eq_nums {P : Program} (w : World) (T e n : TypeId) (k : IntKind) (hT : P.underlying T = some (.array n e)) (he : P.underlying e = some (.int k)) (hs : (P.info? e).map (·.size) = some 1) (xs ys : List Int) (hx : xs.length = n) (hy : ys.length = n) :
    (Op.equalIn 10000 T (.agg (nums k xs).toArray) (.agg (nums k ys).toArray)).run P w = .ok (xs == ys) w := by
  obtain ⟨inf, hi1, hi2⟩ : ∃ inf, P.info? e = some inf ∧ inf.size = 1 := by
    cases h : P.info? e with
    | none => rw [h] at hs; simp at hs
    | some inf => rw [h] at hs; exact ⟨inf, rfl, by simpa using hs⟩
  have hc : P.cellsOf e = 1 := by simp [Program.cellsOf, hi1, hi2]
  rw [show (10000 : Nat) = 9998 + 1 + 1 from rfl, run_equalIn_array w (9998 + 1) _ _ hT hi1, hc, run_eqItems w 9998 e k he xs ys (by omega) _ (by simp [hx]), ← all_range_eq' xs ys (by omega), hx]

section
variable {P : Program} {ops : Array Oper} {rest : List Oper} {o : Oper} {a : Act} {Q : Exit → Act → World → Prop} {w0 w : World} {L : List Chunk}

/-- A new variable. -/
theorem wp_alloc (hgd : o.guard = none) (e : TypeId) (ho : o.op = .alloc e) (cs : List Value) (hz : (P.info? e).map (fun i => i.zero.map (fun z => z.cells.toList)) = some (some cs)) (hm : Mem w0 w L)
    (h : ∀ g w', Mem w0 w' (Blk g (.cells cs.toArray e) :: L) → wpList P ops Q rest (a.put o.dst (.pointer (some ⟨g, 0, none⟩))) w') : wpList P ops Q (o :: rest) a w :=
  wpList_plain hgd fun K hK => by
    obtain ⟨inf, z, hi1, hi2, hi3⟩ : ∃ inf z, P.info? e = some inf ∧ inf.zero = some z ∧ z.cells.toList = cs := by
      cases h : P.info? e with
      | none => rw [h] at hz; simp at hz
      | some inf =>
        rw [h] at hz
        cases h2 : inf.zero with
        | none => simp [h2] at hz
        | some z => simp [h2] at hz; exact ⟨inf, z, rfl, h2, hz⟩
    subst hi3
    unfold Oper.wp execOp
    simp only [ho]
    simp [Instr.alloc, zeroValue, typeInfo, hi1, hi2, newVar, newRow]
    refine hK _ _ (h _ _ ?_)
    simpa using hm.alloc (.cells z.cells e)

/-- An operation that is wanted. -/
theorem wpList_want (hw : Region.wanted o (yielded ops a.tmps) = true) (h : ∀ K : Act → World → Prop, (∀ a w, wpList P ops Q rest a w → K a w) → o.wp P a w K Q) : wpList P ops Q (o :: rest) a w :=
  wpList_step fun K hK => by rw [if_pos hw]; exact h K hK

/-- A whole array or struct read out of its block. -/
theorem wp_row (hgd : Region.wanted o (yielded ops a.tmps) = true) (ty : TypeId) (x : Operand) (ho : o.op = .load ty x) (g : Nat) (hx : a.eval x = .pointer (some ⟨g, 0, none⟩)) (t : TypeId) (cs : List Value) (fr : Nat × Nat) (d : TypeDesc)
    (hm : Mem w0 w L) (hg : Blk g (.cells cs.toArray t fr) ∈ L) (hu : P.underlying ty = some d) (hd : (match d with | .struct _ | .array _ _ => true | _ => false) = true) (hi : (P.info? ty).map (·.size) = some cs.length)
    (h : wpList P ops Q rest (a.put o.dst (.agg cs.toArray)) w) : wpList P ops Q (o :: rest) a w :=
  wpList_want hgd fun K hK => wp_load_row ty x ho g hx t cs.toArray fr d (hm.blk hg) hu hd (by simpa using hi) (hK _ _ h)

/-- A whole array or struct stored over a known block, the first chunk. -/
theorem wp_setrow (hgd : o.guard = none) (ty : TypeId) (p x : Operand) (ho : o.op = .store ty p x) (g : Nat) (hp : a.eval p = .pointer (some ⟨g, 0, none⟩)) (t : TypeId) (cs us : List Value) (hx : a.eval x = .agg us.toArray)
    (hm : Mem w0 w (Blk g (.cells cs.toArray t) :: L)) (hi : (P.info? ty).map (·.size) = some us.length) (hl : cs.length = us.length) (h1 : One us)
    (h : ∀ w', Mem w0 w' (Blk g (.cells us.toArray t) :: L) → wpList P ops Q rest (a.put o.dst undef) w') : wpList P ops Q (o :: rest) a w :=
  wpList_plain hgd fun K hK => by
    obtain ⟨inf, hi1, hi2⟩ : ∃ inf, P.info? ty = some inf ∧ inf.size = us.length := by
      cases h : P.info? ty with
      | none => rw [h] at hi; simp at hi
      | some inf => rw [h] at hi; exact ⟨inf, rfl, by simpa using hi⟩
    have hg := hm.blk m0
    have hst := run_storeCells_at P g 0 t us 0 cs.toArray w hg (by simp [hl]) h1
    simp only [Nat.zero_add, List.take_zero, List.nil_append] at hst
    have e : cs.drop us.length = [] := by rw [List.drop_eq_nil_iff]; omega
    simp only [e, List.append_nil] at hst
    unfold Oper.wp execOp
    simp only [ho, hp, hx]
    simp [Instr.storeAt, Instr.sureAddr, storeVar, sizeOf, typeInfo, hi1, hi2, Value.cells, hst]
    refine hK _ _ (h _ (hm.upd ⟨rfl, rfl, rfl, by simp, fun k _ hk => setRow_other w g k _ (fun e => hk e)⟩ ?_ (fun k hk => .inl hk)))
    exact setRow_heap w g cs.toArray us.toArray t _ hg
/-- copy into a known block, the first chunk. -/
theorem wp_copy_blk (hgd : o.guard = none) (d s : Operand) (dT sT : TypeId) (ho : o.op = .call { callee := .builtin .copy, args := #[d, s], argTypes := #[dT, sT] })
    (elem : TypeId) (hu : P.underlying dT = some (.slice elem)) (size : Nat) (hsz : (P.info? elem).map (·.size) = some size) (g off D cap : Nat) (hd : a.eval d = .slice (some ⟨g, off, none⟩) D cap)
    (A : Option Addr) (m c : Nat) (ys : List Value) (hs : a.eval s = .slice A m c) (hr : RdC w size (.slice A m c) ys) (t : TypeId) (cs : List Value) (hm : Mem w0 w (Blk g (.cells cs.toArray t) :: L)) (hfit : off + D * size ≤ cs.length)
    (h : ∀ w', Mem w0 w' (Blk g (.cells (cs.take off ++ ys.take (min m D * size) ++ cs.drop (off + min m D * size)).toArray t) :: L) → wpList P ops Q rest (a.put o.dst (.int .i64 ((min m D : Nat) : Int))) w') : wpList P ops Q (o :: rest) a w :=
  wpList_plain hgd fun K hK => by
    obtain ⟨inf, hi1, hi2⟩ : ∃ inf, P.info? elem = some inf ∧ inf.size = size := by
      cases h : P.info? elem with
      | none => rw [h] at hsz; simp at hsz
      | some inf => rw [h] at hsz; exact ⟨inf, rfl, by simpa using hsz⟩
    obtain ⟨_, _, _, e, hl, _, _, h1, hrr⟩ := hr
    cases e
    have hle : min m D * size ≤ m * size := Nat.mul_le_mul_right _ (Nat.min_le_left _ _)
    have hle2 : min m D * size ≤ D * size := Nat.mul_le_mul_right _ (Nat.min_le_right _ _)
    have hyl : (ys.take (min m D * size)).length = min m D * size := by rw [List.length_take]; omega
    have hf := run_first (P := P) w size (min m D) A m c (ys.take (min m D * size)) hyl (fun j u hj => by
      rw [List.getElem?_take] at hj
      split at hj
      · exact hrr j u hj
      · cases hj)
    have hg := hm.blk m0
    have hst := run_storeCells_at P g off t (ys.take (min m D * size)) 0 cs.toArray w hg (by rw [hyl]; simp; omega) (h1.take _)
    simp only [Nat.add_zero, hyl] at hst
    unfold Oper.wp execOp
    simp only [ho, resolve, invoke, builtin, Sem.run_bind, Sem.run_pure, Result.andThen_ok, List.map_toArray, List.map_cons, List.map_nil, hd, hs]
    have hmin : Nat.min m D = min m D := rfl
    simp [Builtin.copy_, run_underlying hu, Builtin.lenOf, sizeOf, typeInfo, hi1, hi2, hmin, hf, hst, goInt]
    have := h (w.setRow g (cs.take off ++ ys.take (min m D * size) ++ cs.drop (off + min m D * size)).toArray) (hm.upd ⟨rfl, rfl, rfl, by simp, fun k _ hk => setRow_other w g k _ (fun e => hk e)⟩ (setRow_heap w g cs.toArray _ t _ hg) (fun k hk => .inl hk))
    refine hK _ _ ?_
    simpa using this

/-- A result in a cell, and one in a slot. -/
theorem results_cell_tmp {fn : Func} {p q : Tmp} {ty : TypeId} (h : fn.results = #[.cell p ty, .tmp q]) (tmps : Array Value) (g : Nat) (t : TypeId) (cs : List Value) (fr : Nat × Nat) (d : TypeDesc)
    (hp : tmps.getD p undef = .pointer (some ⟨g, 0, none⟩)) (hm : Mem w0 w L) (hg : Blk g (.cells cs.toArray t fr) ∈ L) (hu : P.underlying ty = some d) (hd : (match d with | .struct _ | .array _ _ => true | _ => false) = true) (hi : (P.info? ty).map (·.size) = some cs.length) :
    (results fn tmps).run P w = .ok (.tuple #[.agg cs.toArray, tmps.getD q undef]) w := by
  have hp' : tmps[p]?.getD undef = .pointer (some ⟨g, 0, none⟩) := by simpa using hp
  have hv := run_loadVar_row (P := P) w g t ty cs.toArray fr d (hm.blk hg) hu hd (by simpa using hi)
  simp [results, h, hp', asAddr, hv]
end
end Go.Mm
