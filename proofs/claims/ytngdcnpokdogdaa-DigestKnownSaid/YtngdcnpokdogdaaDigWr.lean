/- Bytes laid behind those that are there, in the program. -/
import Derived.Test.YtngdcnpokdogdaaDigBlk
import Derived.Test.YtngdcnpokdogdaaBytes
namespace Go.Mm
open Go.RowKit
/-- A row of cells stored over a part of a known block, the first chunk. -/
theorem wp_setmid {P : Program} {ops : Array Oper} {rest : List Oper} {o : Oper} {a : Act} {Q : Exit → Act → World → Prop} {w0 w : World} {L : List Chunk} (hgd : o.guard = none) (ty : TypeId) (p x : Operand) (ho : o.op = .store ty p x) (g off : Nat) (hp : a.eval p = .pointer (some ⟨g, off, none⟩)) (t : TypeId) (cs us : List Value) (hx : a.eval x = .agg us.toArray)
    (hm : Mem w0 w (Blk g (.cells cs.toArray t) :: L)) (hi : (P.info? ty).map (·.size) = some us.length) (hl : off + us.length ≤ cs.length) (h1 : One us)
    (h : ∀ w', Mem w0 w' (Blk g (.cells (cs.take off ++ us ++ cs.drop (off + us.length)).toArray t) :: L) → wpList P ops Q rest (a.put o.dst undef) w') : wpList P ops Q (o :: rest) a w :=
  wpList_plain hgd fun K hK => by
    obtain ⟨inf, hi1, hi2⟩ : ∃ inf, P.info? ty = some inf ∧ inf.size = us.length := by
      cases h : P.info? ty with
      | none => rw [h] at hi; simp at hi
      | some inf => rw [h] at hi; exact ⟨inf, rfl, by simpa using hi⟩
    have hg := hm.blk m0
    have hst := run_storeCells_at P g off t us 0 cs.toArray w hg (by simpa using hl) h1
    simp only [Nat.add_zero] at hst
    unfold Oper.wp execOp
    simp only [ho, hp, hx]
    simp [Instr.storeAt, Instr.sureAddr, storeVar, sizeOf, typeInfo, hi1, hi2, Value.cells, hst]
    refine hK _ _ (h _ (hm.upd ⟨rfl, rfl, rfl, by simp, fun k _ hk => setRow_other w g k _ (fun e => hk e)⟩ ?_ (fun k hk => .inl hk)))
    show (w.setRow g _).heap[g]? = _
    simpa using setRow_heap w g cs.toArray (cs.take off ++ us ++ cs.drop (off + us.length)).toArray t _ hg
theorem step_setmid {P : Program} {ops : Array Oper} {o : Oper} {a : Act} {Q : Exit → Act → World → Prop} {K : Act → World → Prop} {E : Prop} {w0 w : World} {L : List Chunk} (hw : Region.wanted o (yielded ops a.tmps) = true) (ty : TypeId) (p x : Operand) (ho : o.op = .store ty p x) (g off : Nat) (hp : a.eval p = .pointer (some ⟨g, off, none⟩)) (t : TypeId) (cs us : List Value) (hx : a.eval x = .agg us.toArray)
    (hm : Mem w0 w (Blk g (.cells cs.toArray t) :: L)) (hi : (P.info? ty).map (·.size) = some us.length) (hl : off + us.length ≤ cs.length) (h1 : One us)
    (h : ∀ w', Mem w0 w' (Blk g (.cells (cs.take off ++ us ++ cs.drop (off + us.length)).toArray t) :: L) → K (a.put o.dst undef) w') : if Region.wanted o (yielded ops a.tmps) = true then o.wp P a w K Q else E := by
  rw [if_pos hw]
  obtain ⟨inf, hi1, hi2⟩ : ∃ inf, P.info? ty = some inf ∧ inf.size = us.length := by
    cases h : P.info? ty with
    | none => rw [h] at hi; simp at hi
    | some inf => rw [h] at hi; exact ⟨inf, rfl, by simpa using hi⟩
  have hg := hm.blk m0
  have hst := run_storeCells_at P g off t us 0 cs.toArray w hg (by simpa using hl) h1
  simp only [Nat.add_zero] at hst
  unfold Oper.wp execOp
  simp only [ho, hp, hx]
  simp [Instr.storeAt, Instr.sureAddr, storeVar, sizeOf, typeInfo, hi1, hi2, Value.cells, hst]
  refine h _ (hm.upd ⟨rfl, rfl, rfl, by simp, fun k _ hk => setRow_other w g k _ (fun e => hk e)⟩ ?_ (fun k hk => .inl hk))
  show (w.setRow g _).heap[g]? = _
  simpa using setRow_heap w g cs.toArray (cs.take off ++ us ++ cs.drop (off + us.length)).toArray t _ hg
/-- The upper part of an array that lies somewhere. -/
theorem run_slice_arr {P : Program} (W : World) (T e : TypeId) (n : Nat) (hT : P.underlying T = some (.array n e)) (hs : (P.info? e).map (·.size) = some 1) (g off p : Nat) (h : p < n) :
    (Instr.sliceAt T (.pointer (some ⟨g, off, none⟩)) (some (.int .i64 p)) none none).run P W = .ok (.slice (some ⟨g, off + p, none⟩) (n - p) (n - p)) W := by
  obtain ⟨inf, hi1, hi2⟩ : ∃ inf, P.info? e = some inf ∧ inf.size = 1 := by
    cases h : P.info? e with
    | none => rw [h] at hs; simp at hs
    | some inf => rw [h] at hs; exact ⟨inf, rfl, by simpa using hs⟩
  have h2 : ¬ n = p := by omega
  have hb : ∀ c, (Instr.sliceBound (.int .i64 (p : Int)) n c).run P W = .ok p W := fun c => by
    simp [run_sliceBound, (by omega : (p : Int) ≤ n)]
  simp [Instr.sliceAt, Instr.sureAddr, run_underlying hT, Instr.sliceBounds, hb, sizeOf, typeInfo, hi1, hi2, h2, add_lit]
/-- What lies behind the first n of a slice of one-cell elements. -/
theorem slice_from {P : Program} (T e : TypeId) (hT : P.underlying T = some (.slice e)) (hs : (P.info? e).map (·.size) = some 1) (b o r c n : Nat) (hn : n ≤ r) (hc : r ≤ c) :
    ∃ A2, (∀ W, (Instr.slice T (.slice (some ⟨b, o, none⟩) r c) (some (.int .i64 n)) none none).run P W = .ok (.slice A2 (r - n) (c - n)) W) ∧ ∀ W cs, RdC W 1 (.slice (some ⟨b, o, none⟩) r c) cs → RdC W 1 (.slice A2 (r - n) (c - n)) (cs.drop n) := by
  obtain ⟨inf, hi1, hi2⟩ : ∃ inf, P.info? e = some inf ∧ inf.size = 1 := by
    cases h : P.info? e with
    | none => rw [h] at hs; simp at hs
    | some inf => rw [h] at hs; exact ⟨inf, rfl, by simpa using hs⟩
  have hb : ∀ W k, (Instr.sliceBound (.int .i64 (n : Int)) r k).run P W = .ok n W := fun W k => by
    simp [run_sliceBound, (by omega : (n : Int) ≤ r)]
  by_cases hcn : c = n
  · refine ⟨some ⟨b, o, none⟩, fun W => ?_, fun W cs h => ?_⟩
    · simp [Instr.slice, run_underlying hT, Instr.sliceBounds, hb, sizeOf, typeInfo, hi1, hi2, hcn]
    · have hl := h.len
      rw [List.drop_eq_nil_of_le (by omega), show r - n = 0 by omega]
      exact RdC.empty _ _ _ _ (by obtain ⟨_, _, _, e, _, _, h3, _⟩ := h; cases e; omega)
  · refine ⟨some ⟨b, o + n, none⟩, fun W => ?_, fun W cs h => ?_⟩
    · simp [Instr.slice, run_underlying hT, Instr.sliceBounds, hb, sizeOf, typeInfo, hi1, hi2, hcn, add_lit]
    · simpa using h.behind n hn
/-- A part of a known block read whole. -/
theorem load_part {P : Program} {W : World} {g : Nat} {cs : List Value} {t ty : TypeId} {fr : Nat × Nat} (hg : W.heap[g]? = some (.cells cs.toArray t fr)) (off : Nat) (us pre post : List Value) (hcs : cs = pre ++ (us ++ post)) (hoff : pre.length = off) (hd : (P.underlying ty).map (·.isRow) = some true) (hi : (P.info? ty).map (·.size) = some us.length) :
    (Instr.loadAt ty (.pointer (some ⟨g, off, none⟩))).run P W = .ok (.agg us.toArray) W := by
  obtain ⟨d, hu, hr⟩ := row_desc hd
  refine run_loadAt_mid W g off ty us d (fun j v hv => ?_) hu hr hi
  rw [cell_of_row W g _ cs.toArray t fr hg]
  subst hcs; subst hoff
  have hj : j < us.length := (List.getElem?_eq_some_iff.1 hv).1
  simp only [List.getElem?_toArray]
  rw [List.getElem?_append_right (by omega), Nat.add_sub_cancel_left, List.getElem?_append_left hj]
  exact hv
theorem yields_part {P : Program} {ops : Array Oper} {oi : Oper} {a : Act} {g : Nat} {cs : List Value} {t : TypeId} {fr : Nat × Nat} (hw : Region.wanted oi (yielded ops a.tmps) = true) (ty : TypeId) (x : Operand) (ho : oi.op = .load ty x) (off : Nat) (hx : a.eval x = .pointer (some ⟨g, off, none⟩)) (us pre post : List Value) (hcs : cs = pre ++ (us ++ post)) (hoff : pre.length = off) (hd : (P.underlying ty).map (·.isRow) = some true) (hi : (P.info? ty).map (·.size) = some us.length) :
    YieldsIf P ops (fun W => W.heap[g]? = some (.cells cs.toArray t fr)) oi (.agg us.toArray) a :=
  .inl ⟨hw, fun W hW => by
    unfold execOp
    simp only [ho, hx, Sem.run_bind, load_part hW off us pre post hcs hoff hd hi, Result.andThen_ok, Sem.run_pure]⟩
end Go.Mm
namespace Go.Proofs.Ytngdcnpokdogdaa
open Go.RowKit Go.Mm Go.Sh
set_option maxHeartbeats 4000000
set_option maxRecDepth 100000
theorem tyMk : (Try.prog.underlying 50).map (·.isRow) = some true := by kernel_rfl
theorem tyW8d : (Try.prog.underlying 46).map (·.isRow) = some true := by kernel_rfl
theorem tyB64' : Try.prog.underlying 40 = some (.array 64 5) := by kernel_rfl
theorem szB : (Try.prog.info? 5).map (·.size) = some 1 := by kernel_rfl
/-- The cells of a hash's place: words, rest, total; and what lies behind. -/
def mk3 (ws rs : List Int) (tot : Int) (post : List Value) : List Value := nums .u32 ws ++ (nums .u8 rs ++ (.int .u64 tot :: post))
theorem mk3_length (ws rs : List Int) (hw : ws.length = 8) (hr : rs.length = 64) (tot : Int) (post : List Value) : (mk3 ws rs tot post).length = 73 + post.length := by
  simp [mk3, hw, hr]; omega
theorem mk3_tot (ws rs : List Int) (hw : ws.length = 8) (hr : rs.length = 64) (tot : Int) (post : List Value) : (mk3 ws rs tot post)[72]? = some (.int .u64 tot) := by
  simp [mk3, List.getElem?_append, hw, hr]
theorem mk3_settot (ws rs : List Int) (hw : ws.length = 8) (hr : rs.length = 64) (tot tot2 : Int) (post : List Value) : (mk3 ws rs tot post).set 72 (.int .u64 tot2) = mk3 ws rs tot2 post := by
  simp [mk3, hw, hr]
theorem mk3_words (ws rs : List Int) (hw : ws.length = 8) (ws2 : List Int) (hw2 : ws2.length = 8) (tot : Int) (post : List Value) : (mk3 ws rs tot post).take 0 ++ nums .u32 ws2 ++ (mk3 ws rs tot post).drop (0 + (nums .u32 ws2).length) = mk3 ws2 rs tot post := by
  simp [mk3, hw2, hw]
theorem mk3_rest (ws rs : List Int) (hw : ws.length = 8) (hr : rs.length = 64) (rs2 : List Int) (hr2 : rs2.length = 64) (tot : Int) (post : List Value) : (mk3 ws rs tot post).take 8 ++ nums .u8 rs2 ++ (mk3 ws rs tot post).drop (8 + (nums .u8 rs2).length) = mk3 ws rs2 tot post := by
  simp [mk3, hw, hr, hr2, List.drop_append]
theorem mk3_copy (ws rs : List Int) (hw : ws.length = 8) (hr : rs.length = 64) (ys : List Int) (at_ n : Nat) (ha : at_ + n ≤ 64) (tot : Int) (post : List Value) :
    (mk3 ws rs tot post).take (8 + at_) ++ (nums .u8 ys).take (n * 1) ++ (mk3 ws rs tot post).drop (8 + at_ + n * 1) = mk3 ws (rs.take at_ ++ ys.take n ++ rs.drop (at_ + n)) tot post := by
  have e1 : (mk3 ws rs tot post).take (8 + at_) = nums .u32 ws ++ nums .u8 (rs.take at_) := by
    simp only [mk3]
    rw [List.take_append, List.take_of_length_le (by simp [hw]), length_nums, hw, Nat.add_sub_cancel_left, List.take_append_of_le_length (by simp [hr]; omega), nums_take]
  have e2 : (mk3 ws rs tot post).drop (8 + at_ + n * 1) = nums .u8 (rs.drop (at_ + n)) ++ (.int .u64 tot :: post) := by
    simp only [mk3]
    rw [List.drop_append, List.drop_eq_nil_of_le (by simp [hw]; omega), List.nil_append, length_nums, hw, show 8 + at_ + n * 1 - 8 = at_ + n by omega, List.drop_append_of_le_length (by simp [hr]; omega)]
    simp [nums]
  rw [e1, e2, Nat.mul_one, ← nums_take]
  simp [mk3, nums_append]
theorem byt_rest {bs : List Int} (h : Byt bs) : Byt (restOf bs) := fun x hx => by
  rcases List.mem_append.1 hx with hx | hx
  · exact h x (List.mem_of_mem_drop hx)
  · rw [List.eq_of_mem_replicate hx]; omega
theorem Byt.app {xs ys : List Int} (h : Byt xs) (k : Byt ys) : Byt (xs ++ ys) := fun x hx => (List.mem_append.1 hx).elim (h x) (k x)
theorem Byt.take {xs : List Int} (h : Byt xs) (n : Nat) : Byt (xs.take n) := fun x hx => h x (List.mem_of_mem_take hx)
theorem Byt.drop {xs : List Int} (h : Byt xs) (n : Nat) : Byt (xs.drop n) := fun x hx => h x (List.mem_of_mem_drop hx)
theorem write_ok (w0 w : World) (L : List Chunk) (g : Nat) (t : TypeId) (bs ys : List Int) (post : List Value) (A : Option Addr) (m c : Nat) (hm : Mem w0 w (Blk g (.cells (mk3 (wordsOf bs) (restOf bs) bs.length post).toArray t) :: L))
    (hr : Fact (∀ W cs, Mem w0 W (Blk g (.cells cs t) :: L) → RdC W 1 (.slice A m c) (nums .u8 ys))) (hbs : Fact (Byt bs)) (hys : Fact (Byt ys)) (hn : bs.length + m ≤ 1152921504606846976) :
    Calls Try.prog 29 #[.pointer (some ⟨g, 0, none⟩), .slice A m c] w fun E w' => E = .returned (.tuple #[]) ∧ Mem w0 w' (Blk g (.cells (mk3 (wordsOf (bs ++ ys)) (restOf (bs ++ ys)) (bs ++ ys).length post).toArray t) :: L) := by
  have hyl : Fact (ys.length = m) := ⟨(hr.out _ _ hm).nlen⟩
  have c0 := hm.cell m0 72 (mk3_tot _ _ (wordsOf_length _) (restOf_length _) _ _)
  have f0 := hm.free m0 72
  obtain ⟨B, hB⟩ : ∃ B, Fact (B = bs.length) := ⟨_, ⟨rfl⟩⟩
  rw [← hB.out] at hm c0 hn
  have e1 : ((B : Int) % 64).toNat = B % 64 := by omega
  have HM := hm.set 72 (.int .u64 ((B : Int) + m))
  rw [mk3_settot _ _ (wordsOf_length _) (restOf_length _)] at HM
  clear hm
  have hcap : m ≤ c := by
    obtain ⟨_, _, _, e, _, h, _⟩ := hr.out _ _ HM
    cases e
    exact h
  have e2 : IntKind.u64.wrap (m : Int) = m := IntWalk.u64_in _ (by omega)
  have e3 : IntKind.u64.wrap ((B : Int) + m) = B + m := IntWalk.u64_in _ (by omega)
  go_enter Try.func29, Try.ntmps29
  go_wp2
  clear e1 e2 e3 c0 f0
  obtain ⟨w1, hw1⟩ : ∃ w1, w1 = w.setCell ⟨g, 72, none⟩ (.int .u64 ((B : Int) + m)) := ⟨_, rfl⟩
  rw [← hw1] at HM ⊢
  clear hw1
  go_loopw [1, 4] (fun s v W => ∃ (j r : Nat) (A' : Option Addr) (c' : Nat), s = .slice A' r c' ∧ v = .int .i64 (((B + j) % 64 : Nat) : Int) ∧ Fact (j + r = m) ∧ r ≤ c' ∧ Fact (∀ W cs, Mem w0 W (Blk g (.cells cs t) :: L) → RdC W 1 (.slice A' r c') (nums .u8 (ys.drop j))) ∧ Mem w0 W (Blk g (.cells (mk3 (wordsOf (bs ++ ys.take j)) (restOf (bs ++ ys.take j)) ((B : Int) + m) post).toArray t) :: L)) (fun s _ _ => match s with | .slice _ n _ => n | _ => 0)
  case atStart => exact ⟨0, m, A, c, rfl, by simp, ⟨by omega⟩, hcap, ⟨by simpa using hr.out⟩, by simpa using HM⟩
  case round =>
    clear HM hr
    obtain ⟨j, r, A', c', rfl, rfl, hj, hc', hr, hm⟩ := hrel
    by_cases h0 : 0 < r
    · have hrd := hr.out _ _ hm
      obtain ⟨b, o, _, rfl, _⟩ := hrd.at1 0 h0
      have hcl : Fact ((bs ++ ys.take j).length = B + j) := ⟨by rw [List.length_append, List.length_take, ← hB.out]; have := hyl.out; have := hj.out; omega⟩
      have hcb : Fact (Byt (bs ++ ys.take j)) := ⟨hbs.out.app (hys.out.take j)⟩
      have hnx : ∀ n, ys.take (j + n) = ys.take j ++ (ys.drop j).take n := fun n => List.take_add ..
      generalize hcd : bs ++ ys.take j = cur at *
      replace hcd := Fact.mk hcd
      obtain ⟨p, hp⟩ : ∃ p, Fact (p = (B + j) % 64) := ⟨_, ⟨rfl⟩⟩
      have hp64 : p < 64 := by have := hp.out; omega
      rw [← hp.out]
      have hyl2 : Fact ((ys.drop j).length = r) := ⟨by rw [List.length_drop]; have := hyl.out; have := hj.out; omega⟩
      have hsl := fun W => run_slice_arr (P := Try.prog) W 40 5 64 tyB64' szB g 8 p hp64
      go_upto_region 4 with (refine wp_copy_blk rfl _ _ _ _ rfl 5 tyBs 1 szB g (8 + p) (64 - p) (64 - p) rfl _ r c' _ rfl hrd t _ hm (by rw [mk3_length _ _ (wordsOf_length _) (restOf_length _)]; omega) ?_; intro w2 hm2)
      rw [mk3_copy _ _ (wordsOf_length _) (restOf_length _) _ p (min r (64 - p)) (by omega)] at hm2
      obtain ⟨n, hn1⟩ : ∃ n, Fact (n = min r (64 - p)) := ⟨_, ⟨rfl⟩⟩
      rw [← hn1.out] at hm2 ⊢
      obtain ⟨A2, hs2, hrd2⟩ := slice_from (P := Try.prog) 25 5 tyBs szB b o r c' n (by have := hn1.out; omega) hc'
      have hr2 : Fact (∀ W cs, Mem w0 W (Blk g (.cells cs t) :: L) → RdC W 1 (.slice A2 (r - n) (c' - n)) (nums .u8 (ys.drop (j + n)))) := ⟨fun W cs h => by
        have := hrd2 W _ (hr.out W cs h)
        rwa [show (nums .u8 (ys.drop j)).drop n = nums .u8 (ys.drop (j + n)) by simp [nums, List.drop_drop]] at this⟩
      have hnx2 : Fact (bs ++ ys.take (j + n) = cur ++ (ys.drop j).take n) := ⟨by rw [hnx n, ← List.append_assoc, hcd.out]⟩
      have hyn : Fact (((ys.drop j).take n).length = n) := ⟨by rw [List.length_take, hyl2.out]; have := hn1.out; omega⟩
      have hyb : Fact (Byt ((ys.drop j).take n)) := ⟨(hys.out.drop j).take n⟩
      clear hrd2 hsl hrd hm hr hnx
      generalize (ys.drop j).take n = y at *
      have hpl : Fact (cur.length % 64 = p) := ⟨by rw [hcl.out, hp.out]⟩
      by_cases hlt : p + n < 64
      · have hst := step_part cur y (by rw [hpl.out, hyn.out]; exact hlt)
        rw [hpl.out, hyn.out] at hst
        rw [← hst.1, ← hst.2, ← hnx2.out] at hm2
        clear hst
        have e1 : ((p : Int) + n == 64) = false := by rw [beq_eq_false_iff_ne]; omega
        go_wp2
        go_roundw
        case rel => exact ⟨j + n, r - n, A2, c' - n, rfl, by rw [show (B + (j + n)) % 64 = p + n by have := hp.out; omega]; go_num, ⟨by have := hj.out; have := hn1.out; omega⟩, by omega, hr2, hm2⟩
        case measure => simp; have := hn1.out; omega
      · have hst := step_full cur y (by rw [hpl.out, hyn.out]; have := hn1.out; omega)
        rw [hpl.out, hyn.out] at hst
        obtain ⟨q1, q2⟩ := hst
        have hrl : Fact (((restOf cur).take p ++ y ++ (restOf cur).drop (p + n)).length = 64) := ⟨by simp only [List.length_append, List.length_take, List.length_drop, restOf_length]; rw [hyn.out]; have := hn1.out; omega⟩
        have hrb : Fact (Byt ((restOf cur).take p ++ y ++ (restOf cur).drop (p + n))) := ⟨(((byt_rest hcb.out).take p).app hyb.out).app ((byt_rest hcb.out).drop _)⟩
        generalize (restOf cur).take p ++ y ++ (restOf cur).drop (p + n) = rs at *
        have hwl := Fact.mk (wordsOf_length cur)
        have hcl8 := Fact.mk (cmp_length (wordsOf cur) rs hwl.out)
        rw [← hnx2.out] at q1 q2
        generalize wordsOf cur = ws at *
        replace q1 := Fact.mk q1
        replace q2 := Fact.mk q2
        have e1 : ((p : Int) + n == 64) = true := by rw [beq_iff_eq]; have := hn1.out; omega
        have hnb : n ≤ 64 := by have := hn1.out; omega
        go_upto_region 7 with (fail)
        refine wp_region_until (S := fun W => W.heap[g]? = some (.cells (mk3 ws rs ((B : Int) + m) post).toArray t (0, 0))) 10 (by kernel_rfl) ?_
        have hmd := hm2.drew
        have hS := hmd.blk m0
        clear hm2
        generalize w2.drew = w3 at hmd hS ⊢
        refine wpAnyU_take 0 (v := ?v0) rfl (by kernel_rfl) (by kernel_rfl) (fun _ _ _ h => h) hS (Or.inl ⟨rfl, ?y0⟩) ?r0
        case y0 =>
          intro W hW
          go_simp
          try with_reducible rfl
        try simp only [Act.put, List.getElem_toArray, List.getElem_cons_succ, List.getElem_cons_zero, List.setIfInBounds_toArray, List.set_cons_zero, List.set_cons_succ]
        refine wpAnyU_take 1 (v := ?v1) rfl (by kernel_rfl) (by kernel_rfl) (fun _ _ _ h => h) hS (Or.inl ⟨rfl, ?y1⟩) ?r1
        case y1 =>
          intro W hW
          go_simp
          try with_reducible rfl
        try simp only [Act.put, List.getElem_toArray, List.getElem_cons_succ, List.getElem_cons_zero, List.setIfInBounds_toArray, List.set_cons_zero, List.set_cons_succ]
        refine wpAnyU_take 2 (v := ?v2) rfl (by kernel_rfl) (by kernel_rfl) (fun _ _ _ h => h) hS (Or.inl ⟨rfl, ?y2⟩) ?r2
        case y2 =>
          intro W hW
          go_simp
          try with_reducible rfl
        try simp only [Act.put, List.getElem_toArray, List.getElem_cons_succ, List.getElem_cons_zero, List.setIfInBounds_toArray, List.set_cons_zero, List.set_cons_succ]
        refine wpAnyU_take 3 (v := ?v3) rfl (by kernel_rfl) (by kernel_rfl) (fun _ _ _ h => h) hS (Or.inl ⟨rfl, ?y3⟩) ?r3
        case y3 =>
          intro W hW
          go_simp
          try with_reducible rfl
        try simp only [Act.put, List.getElem_toArray, List.getElem_cons_succ, List.getElem_cons_zero, List.setIfInBounds_toArray, List.set_cons_zero, List.set_cons_succ]
        refine wpAnyU_take 4 (v := .agg (nums .u32 ws).toArray) rfl (by kernel_rfl) (by kernel_rfl) (fun _ _ _ h => h) hS (yields_part rfl 46 _ rfl 0 rfl (nums .u32 ws) [] _ rfl rfl tyW8d (by rw [length_nums, hwl.out]; exact szW8)) ?_
        try simp only [Act.put, List.getElem_toArray, List.getElem_cons_succ, List.getElem_cons_zero, List.setIfInBounds_toArray, List.set_cons_zero, List.set_cons_succ]
        refine wpAnyU_take 5 (v := ?v5) rfl (by kernel_rfl) (by kernel_rfl) (fun _ _ _ h => h) hS (Or.inl ⟨rfl, ?y5⟩) ?r5
        case y5 =>
          intro W hW
          go_simp
          try with_reducible rfl
        try simp only [Act.put, List.getElem_toArray, List.getElem_cons_succ, List.getElem_cons_zero, List.setIfInBounds_toArray, List.set_cons_zero, List.set_cons_succ]
        refine wpAnyU_take 6 (v := ?v6) rfl (by kernel_rfl) (by kernel_rfl) (fun _ _ _ h => h) hS (Or.inl ⟨rfl, ?y6⟩) ?r6
        case y6 =>
          intro W hW
          go_simp
          try with_reducible rfl
        try simp only [Act.put, List.getElem_toArray, List.getElem_cons_succ, List.getElem_cons_zero, List.setIfInBounds_toArray, List.set_cons_zero, List.set_cons_succ]
        refine wpAnyU_take 7 (v := ?v7) rfl (by kernel_rfl) (by kernel_rfl) (fun _ _ _ h => h) hS (Or.inl ⟨rfl, ?y7⟩) ?r7
        case y7 =>
          intro W hW
          go_simp
          try with_reducible rfl
        try simp only [Act.put, List.getElem_toArray, List.getElem_cons_succ, List.getElem_cons_zero, List.setIfInBounds_toArray, List.set_cons_zero, List.set_cons_succ]
        refine wpAnyU_take 8 (v := .agg (nums .u8 rs).toArray) rfl (by kernel_rfl) (by kernel_rfl) (fun _ _ _ h => h) hS (yields_part rfl 40 _ rfl 8 rfl (nums .u8 rs) (nums .u32 ws) _ rfl (by rw [length_nums, hwl.out]) tyB64 (by rw [length_nums, hrl.out]; exact szB64)) ?_
        try simp only [Act.put, List.getElem_toArray, List.getElem_cons_succ, List.getElem_cons_zero, List.setIfInBounds_toArray, List.set_cons_zero, List.set_cons_succ]
        refine wpAnyU_one 9 (by kernel_rfl) rfl (fun K hK => ?_)
        refine step_callw rfl 34 Try.f34 Try.func34 (by kernel_rfl) (by kernel_rfl) _ _ rfl #[.agg (nums .u32 ws).toArray, .agg (nums .u8 rs).toArray] (by simp [Act.eval]) ?_
        refine (behind_ok w3 ws rs hwl hrl hrb).mono ?_
        rintro E w4 ⟨rfl, hg4⟩
        have hm4 := hmd.gr hg4
        have hS4 := hm4.blk m0
        clear hmd hS hg4
        refine ⟨_, rfl, hK _ _ (fun _ => hS4) ?_⟩
        clear hK K
        try simp only [Act.put, List.getElem_toArray, List.getElem_cons_succ, List.getElem_cons_zero, List.setIfInBounds_toArray, List.set_cons_zero, List.set_cons_succ]
        refine wpAnyU_one 10 (by kernel_rfl) rfl (fun K hK => ?_)
        go_simp
        refine hK _ _ (fun h => absurd h (by decide)) ?_
        clear hK K
        refine wpAnyU_one 11 (by kernel_rfl) rfl (fun K hK => ?_)
        go_simp
        refine hK _ _ (fun h => absurd h (by decide)) ?_
        clear hK K
        refine wpAnyU_one 12 (by kernel_rfl) rfl (fun K hK => ?_)
        refine step_setmid rfl 46 _ _ rfl g 0 rfl t _ (nums .u32 (cmp ws rs)) rfl hm4 (by rw [length_nums, hcl8.out]; exact szW8) (by rw [length_nums, hcl8.out, mk3_length _ _ hwl.out hrl.out]; omega) (One.nums _ _) ?_
        intro w5 hm5
        rw [mk3_words _ _ hwl.out _ hcl8.out] at hm5
        refine hK _ _ (fun h => absurd h (by decide)) ?_
        clear hK K hm4 hS4
        refine wpAnyU_done (by kernel_rfl) ?_ _
        try simp only [Act.put, List.getElem_toArray, List.getElem_cons_succ, List.getElem_cons_zero, List.setIfInBounds_toArray, List.set_cons_zero, List.set_cons_succ]
        go_wp2_with (refine wp_setmid rfl 40 _ _ rfl g 8 rfl t _ (nums .u8 (List.replicate 64 0)) rfl hm5 szB64 (by rw [mk3_length _ _ hcl8.out hrl.out]; show 8 + 64 ≤ _; omega) (One.nums _ _) ?_; intro w6 hm6)
        rw [mk3_rest _ _ hcl8.out hrl.out _ rfl, ← q1.out, ← q2.out] at hm6
        go_roundw
        case rel => exact ⟨j + n, r - n, A2, c' - n, rfl, by rw [show (B + (j + n)) % 64 = 0 by have := hp.out; have := hn1.out; omega]; rfl, ⟨by have := hj.out; have := hn1.out; omega⟩, by omega, hr2, hm6⟩
        case measure => simp; have := hn1.out; omega
    · obtain rfl : r = 0 := by omega
      obtain rfl : j = m := by have := hj.out; omega
      rw [List.take_of_length_le (by have := hyl.out; omega)] at hm
      go_wp2
      go_end0
      exact ⟨rfl, by rw [show ((bs ++ ys).length : Int) = (B : Int) + j by rw [List.length_append, ← hB.out, hyl.out]; omega]; exact hm⟩
end Go.Proofs.Ytngdcnpokdogdaa
