/- Hashes: New, Write, Sum. -/
import Derived.Test.YtngdcnpokdogdaaDigRefS
namespace Go.Mm
open Go.RowKit
theorem quiet_part {P : Program} {o : Oper} {a : Act} {K : Act → Prop} {w : World} {g : Nat} {cs : List Value} {t : TypeId} {fr : Nat × Nat} (hg : w.heap[g]? = some (.cells cs.toArray t fr)) (ty : TypeId) (x : Operand) (ho : o.op = .load ty x) (off : Nat) (hx : a.eval x = .pointer (some ⟨g, off, none⟩)) (us pre post : List Value) (hcs : cs = pre ++ (us ++ post)) (hoff : pre.length = off) (hd : (P.underlying ty).map (·.isRow) = some true) (hi : (P.info? ty).map (·.size) = some us.length)
    (h : K (a.put o.dst (.agg us.toArray))) : o.quiet P a (fun w' => ∃ n, w' = w.drewN n) K :=
  ⟨_, fun w' hw' => by
    obtain ⟨n, rfl⟩ := hw'
    have hg' : (w.drewN n).heap[g]? = some (.cells cs.toArray t fr) := hg
    unfold Oper.quietAt execOp
    simp only [ho, hx, Sem.run_bind, load_part hg' off us pre post hcs hoff hd hi, Result.andThen_ok, Sem.run_pure]
    exact ⟨rfl, rfl⟩, h⟩
theorem rng_part {W : World} {g : Nat} {cs : List Value} {t : TypeId} {fr : Nat × Nat} (hg : W.heap[g]? = some (.cells cs.toArray t fr)) (off : Nat) (us pre post : List Value) (hcs : cs = pre ++ (us ++ post)) (hoff : pre.length = off) : W.rangeAt g off us := fun j v hv => by
  rw [cell_of_row W g _ cs.toArray t fr hg]
  subst hcs; subst hoff
  have hj : j < us.length := (List.getElem?_eq_some_iff.1 hv).1
  simp only [List.getElem?_toArray]
  rw [List.getElem?_append_right (by omega), Nat.add_sub_cancel_left, List.getElem?_append_left hj]
  exact hv
end Go.Mm
namespace Go.Sh
theorem fold_add (v p : List Int) (n : Nat) : ∀ m, fold v p (n + m) = fold (fold v p n) (p.drop (64 * n)) m
  | 0 => rfl
  | m + 1 => by
    show cmp (fold v p (n + m)) _ = cmp (fold (fold v p n) (p.drop (64 * n)) m) _
    rw [fold_add v p n m, List.drop_drop, ← Nat.mul_add]
    rfl
theorem words_tail (a q : List Int) : wordsOf (a ++ q) = fold (wordsOf a) (a.drop (64 * (a.length / 64)) ++ q) ((a.length % 64 + q.length) / 64) := by
  have hd : (a ++ q).drop (64 * (a.length / 64)) = a.drop (64 * (a.length / 64)) ++ q := List.drop_append_of_le_length (by omega)
  have hl : (a ++ q).length / 64 = a.length / 64 + (a.length % 64 + q.length) / 64 := by rw [List.length_append]; omega
  have hf : fold iv (a ++ q) (a.length / 64) = wordsOf a := fold_congr _ _ _ _ (List.take_append_of_le_length (by omega))
  show fold iv (a ++ q) ((a ++ q).length / 64) = _
  rw [hl, fold_add, hf, hd]
/-- The digest hangs on what is kept alone. -/
theorem sum_kept {a b : List Int} (hw : wordsOf a = wordsOf b) (hr : restOf a = restOf b) (hl : a.length = b.length) : sum a = sum b := by
  rw [sum_eq, sum_eq]
  unfold padded
  rw [words_tail, words_tail, hw, ← restOf_take a, ← restOf_take b, hr, hl]
end Go.Sh
namespace Go.Proofs.Ytngdcnpokdogdaa
open Go.RowKit Go.Mm Go.Sh
set_option maxHeartbeats 4000000
set_option maxRecDepth 100000
/-- What was told at the last Sum, if there was one. -/
structure Told where
  tw : List Int
  tr : List Int
  tt : Int
  last : List Int
  sums : Bool
def Told.ok (T : Told) : Prop := T.tw.length = 8 ∧ T.tr.length = 64 ∧ T.last.length = 32 ∧ (T.sums = true → ∃ b, Byt b ∧ T.tw = wordsOf b ∧ T.tr = restOf b ∧ T.tt = b.length ∧ T.last = Sh.sum b)
def Told.cells (T : Told) : List Value := mk3 T.tw T.tr T.tt (nums .u8 T.last ++ [.bool T.sums])
def told0 : Told := ⟨List.replicate 8 0, List.replicate 64 0, 0, List.replicate 32 0, false⟩
theorem told0_ok : told0.ok := ⟨rfl, rfl, rfl, fun h => by cases h⟩
/-- A hash of these bytes. -/
def hsh (bs : List Int) (T : Told) : List Value := mk3 (wordsOf bs) (restOf bs) bs.length T.cells
theorem run_zeroHs (W : World) : (zeroValue 53).run Try.prog W = .ok (.agg #[.int .u32 0, .int .u32 0, .int .u32 0, .int .u32 0, .int .u32 0, .int .u32 0, .int .u32 0, .int .u32 0, .int .u8 0, .int .u8 0, .int .u8 0, .int .u8 0, .int .u8 0, .int .u8 0, .int .u8 0, .int .u8 0, .int .u8 0, .int .u8 0, .int .u8 0, .int .u8 0, .int .u8 0, .int .u8 0, .int .u8 0, .int .u8 0, .int .u8 0, .int .u8 0, .int .u8 0, .int .u8 0, .int .u8 0, .int .u8 0, .int .u8 0, .int .u8 0, .int .u8 0, .int .u8 0, .int .u8 0, .int .u8 0, .int .u8 0, .int .u8 0, .int .u8 0, .int .u8 0, .int .u8 0, .int .u8 0, .int .u8 0, .int .u8 0, .int .u8 0, .int .u8 0, .int .u8 0, .int .u8 0, .int .u8 0, .int .u8 0, .int .u8 0, .int .u8 0, .int .u8 0, .int .u8 0, .int .u8 0, .int .u8 0, .int .u8 0, .int .u8 0, .int .u8 0, .int .u8 0, .int .u8 0, .int .u8 0, .int .u8 0, .int .u8 0, .int .u8 0, .int .u8 0, .int .u8 0, .int .u8 0, .int .u8 0, .int .u8 0, .int .u8 0, .int .u8 0, .int .u64 0, .int .u32 0, .int .u32 0, .int .u32 0, .int .u32 0, .int .u32 0, .int .u32 0, .int .u32 0, .int .u32 0, .int .u8 0, .int .u8 0, .int .u8 0, .int .u8 0, .int .u8 0, .int .u8 0, .int .u8 0, .int .u8 0, .int .u8 0, .int .u8 0, .int .u8 0, .int .u8 0, .int .u8 0, .int .u8 0, .int .u8 0, .int .u8 0, .int .u8 0, .int .u8 0, .int .u8 0, .int .u8 0, .int .u8 0, .int .u8 0, .int .u8 0, .int .u8 0, .int .u8 0, .int .u8 0, .int .u8 0, .int .u8 0, .int .u8 0, .int .u8 0, .int .u8 0, .int .u8 0, .int .u8 0, .int .u8 0, .int .u8 0, .int .u8 0, .int .u8 0, .int .u8 0, .int .u8 0, .int .u8 0, .int .u8 0, .int .u8 0, .int .u8 0, .int .u8 0, .int .u8 0, .int .u8 0, .int .u8 0, .int .u8 0, .int .u8 0, .int .u8 0, .int .u8 0, .int .u8 0, .int .u8 0, .int .u8 0, .int .u8 0, .int .u8 0, .int .u8 0, .int .u8 0, .int .u8 0, .int .u8 0, .int .u8 0, .int .u8 0, .int .u8 0, .int .u8 0, .int .u64 0, .int .u8 0, .int .u8 0, .int .u8 0, .int .u8 0, .int .u8 0, .int .u8 0, .int .u8 0, .int .u8 0, .int .u8 0, .int .u8 0, .int .u8 0, .int .u8 0, .int .u8 0, .int .u8 0, .int .u8 0, .int .u8 0, .int .u8 0, .int .u8 0, .int .u8 0, .int .u8 0, .int .u8 0, .int .u8 0, .int .u8 0, .int .u8 0, .int .u8 0, .int .u8 0, .int .u8 0, .int .u8 0, .int .u8 0, .int .u8 0, .int .u8 0, .int .u8 0, .bool false]) W := by kernel_rfl
theorem szHs : (Try.prog.info? 53).map (·.size) = some 179 := by kernel_rfl
theorem new_ok (w : World) : Calls Try.prog 22 #[] w fun E w' => ∃ g, E = .returned (.pointer (some ⟨g, 0, none⟩)) ∧ Mem w w' [Blk g (.cells (hsh [] told0).toArray 53)] := by
  go_enter Try.func22, Try.ntmps22
  go_wp2_with fail
  refine (first_ok w).mono ?_
  rintro E w2 ⟨rfl, hg2⟩
  rw [ivL]
  have hz := run_zeroMk
  have hz2 := run_zeroHs
  have hm := (((Mem.start w).gr hg2).alloc (.cells (hsh [] told0).toArray 53))
  go_wp2
  go_ret
  exact ⟨w2.heap.size, rfl, hm⟩
theorem hwrite_ok (w0 w : World) (L : List Chunk) (g : Nat) (bs ys : List Int) (T : Told) (A : Option Addr) (m c : Nat) (hm : Mem w0 w (Blk g (.cells (hsh bs T).toArray 53) :: L))
    (hr : Fact (∀ W cs, Mem w0 W (Blk g (.cells cs 53) :: L) → RdC W 1 (.slice A m c) (nums .u8 ys))) (hbs : Fact (Byt bs)) (hys : Fact (Byt ys)) (hn : bs.length + m ≤ 1152921504606846976) :
    Calls Try.prog 23 #[.pointer (some ⟨g, 0, none⟩), .slice A m c] w fun E w' => E = .returned (.tuple #[]) ∧ Mem w0 w' (Blk g (.cells (hsh (bs ++ ys) T).toArray 53) :: L) := by
  go_enter Try.func23, Try.ntmps23
  go_wp2_with fail
  refine (write_ok w0 w L g 53 bs ys T.cells A m c hm hr hbs hys hn).mono ?_
  rintro E w2 ⟨rfl, hm2⟩
  go_wp2
  go_end0
  exact ⟨rfl, hm2⟩
theorem hsh_now (bs : List Int) (T : Told) : hsh bs T = [] ++ (mk3 (wordsOf bs) (restOf bs) bs.length [] ++ T.cells) := by simp [hsh, mk3]
theorem hsh_length (bs : List Int) (T : Told) (h : T.ok) : (hsh bs T).length = 179 := by
  rw [hsh, mk3_length _ _ (wordsOf_length _) (restOf_length _), Told.cells, mk3_length _ _ h.1 h.2.1]; simp [h.2.2.1]
theorem mk3_len73 (bs : List Int) : (mk3 (wordsOf bs) (restOf bs) bs.length []).length = 73 := by rw [mk3_length _ _ (wordsOf_length _) (restOf_length _)]; rfl
theorem hsh_tw (bs : List Int) (T : Told) : hsh bs T = mk3 (wordsOf bs) (restOf bs) bs.length [] ++ (nums .u32 T.tw ++ (nums .u8 T.tr ++ (.int .u64 T.tt :: (nums .u8 T.last ++ [.bool T.sums])))) := by simp [hsh, Told.cells, mk3]
theorem hsh_tr (bs : List Int) (T : Told) : hsh bs T = (mk3 (wordsOf bs) (restOf bs) bs.length [] ++ nums .u32 T.tw) ++ (nums .u8 T.tr ++ (.int .u64 T.tt :: (nums .u8 T.last ++ [.bool T.sums]))) := by simp [hsh, Told.cells, mk3]
theorem hsh_sums (bs : List Int) (T : Told) (h : T.ok) : (hsh bs T)[178]? = some (.bool T.sums) := by
  rw [hsh_tr, List.getElem?_append_right (by simp [mk3_len73, h.1])]
  simp [mk3_len73, h.1, h.2.1, h.2.2.1, List.getElem?_append]
theorem hsh_tt (bs : List Int) (T : Told) (h : T.ok) : (hsh bs T)[145]? = some (.int .u64 T.tt) := by
  rw [hsh_tr, List.getElem?_append_right (by simp [mk3_len73, h.1])]
  simp [mk3_len73, h.1, h.2.1, List.getElem?_append]
theorem hsh_last (bs : List Int) (T : Told) : hsh bs T = (mk3 (wordsOf bs) (restOf bs) bs.length [] ++ (nums .u32 T.tw ++ (nums .u8 T.tr ++ [Value.int .u64 T.tt]))) ++ (nums .u8 T.last ++ [.bool T.sums]) := by simp [hsh, Told.cells, mk3]
theorem hsh_pre146 (bs : List Int) (T : Told) (h : T.ok) : (mk3 (wordsOf bs) (restOf bs) bs.length [] ++ (nums .u32 T.tw ++ (nums .u8 T.tr ++ [Value.int .u64 T.tt]))).length = 146 := by simp [mk3_len73, h.1, h.2.1]
/-- The cells of a hash whose told is its now. -/
def hsh3 (bs last : List Int) (sums : Bool) : List Value := hsh bs ⟨wordsOf bs, restOf bs, bs.length, last, sums⟩
theorem hsh3_pre (bs last : List Int) (sums : Bool) : hsh3 bs last sums = (mk3 (wordsOf bs) (restOf bs) bs.length [] ++ mk3 (wordsOf bs) (restOf bs) bs.length []) ++ (nums .u8 last ++ [.bool sums]) := by simp [hsh3, hsh, Told.cells, mk3]
theorem hsh3_len (bs : List Int) : (mk3 (wordsOf bs) (restOf bs) bs.length [] ++ mk3 (wordsOf bs) (restOf bs) bs.length []).length = 146 := by simp [mk3_len73]
theorem hsh_set73 (bs : List Int) (T : Told) (h : T.ok) : (hsh bs T).take 73 ++ mk3 (wordsOf bs) (restOf bs) bs.length [] ++ (hsh bs T).drop (73 + (mk3 (wordsOf bs) (restOf bs) bs.length []).length) = hsh3 bs T.last T.sums := by
  rw [hsh3_pre, mk3_len73]
  have e1 : (hsh bs T).take 73 = mk3 (wordsOf bs) (restOf bs) bs.length [] := by rw [hsh_tw, List.take_append_of_le_length (by rw [mk3_len73]; omega), List.take_of_length_le (by rw [mk3_len73]; omega)]
  have e2 : (hsh bs T).drop (73 + 73) = nums .u8 T.last ++ [.bool T.sums] := by rw [hsh_last, List.drop_append_of_le_length (by rw [hsh_pre146 _ _ h]; omega), List.drop_eq_nil_of_le (by rw [hsh_pre146 _ _ h]; omega), List.nil_append]
  rw [e1, e2]
theorem hsh_len3 (bs : List Int) (T : Told) (h : T.ok) : (hsh3 bs T.last T.sums).length = 179 := by
  rw [hsh3_pre, List.length_append, hsh3_len]; simp [h.2.2.1]
theorem hsh_set146 (bs last : List Int) (sums : Bool) (ls : List Int) (h : last.length = 32) (h2 : ls.length = 32) : (hsh3 bs last sums).take 146 ++ nums .u8 ls ++ (hsh3 bs last sums).drop (146 + (nums .u8 ls).length) = hsh3 bs ls sums := by
  rw [hsh3_pre, hsh3_pre, List.take_append_of_le_length (by rw [hsh3_len]; omega), List.take_of_length_le (by rw [hsh3_len]; omega), List.append_assoc]
  congr 2
  rw [List.drop_append, List.drop_eq_nil_of_le (by rw [hsh3_len]; omega), List.nil_append, hsh3_len, Nat.add_sub_cancel_left]
  simp [h, h2]
theorem hsh_at178 (bs ls : List Int) (sums : Bool) (h : ls.length = 32) : (hsh3 bs ls sums)[178]? = some (.bool sums) := by
  rw [hsh3_pre, List.getElem?_append_right (by rw [hsh3_len]; omega), hsh3_len]
  simp [h, List.getElem?_append]
theorem hsh_set178 (bs ls : List Int) (sums : Bool) (h : ls.length = 32) : (hsh3 bs ls sums).set 178 (.bool true) = hsh3 bs ls true := by
  rw [hsh3_pre, hsh3_pre, List.set_append_right _ _ (by rw [hsh3_len]; omega), hsh3_len]
  simp [h, List.set_append]
theorem _root_.Go.Mm.Mem.drop2 {w0 w : World} {a b : Chunk} {L : List Chunk} (h : Mem w0 w (a :: b :: L)) : Mem w0 w (a :: L) := h.sub (List.Sublist.cons_cons _ (List.sublist_cons_self _ _))
theorem tyU32 : Try.prog.underlying 42 = some (.int .u32) := by kernel_rfl
theorem szU32 : (Try.prog.info? 42).map (·.size) = some 1 := by kernel_rfl
theorem tyHs : (Try.prog.underlying 53).map (·.isRow) = some true := by kernel_rfl
theorem hsum_ok (w0 w : World) (L : List Chunk) (g : Nat) (bs : List Int) (T : Told) (hm : Mem w0 w (Blk g (.cells (hsh bs T).toArray 53) :: L)) (hT : Fact T.ok) (hbs : Fact (Byt bs)) (hn : bs.length ≤ 1125899906842624) :
    Calls Try.prog 24 #[.pointer (some ⟨g, 0, none⟩)] w fun E w' => E = .returned (.agg (nums .u8 (Sh.sum bs)).toArray) ∧ ∃ T', Told.ok T' ∧ Mem w0 w' (Blk g (.cells (hsh bs T').toArray 53) :: L) := by
  have hN := Fact.mk (mk3_len73 bs)
  go_enter Try.func24, Try.ntmps24
  go_upto_region 1 with (refine Mm.wp_alloc rfl 22 rfl _ zero22' hm ?_; intro g2 w1 hm1)
  go_upto_region 2 with (first | (refine wp_rng rfl 50 _ rfl g 0 rfl (mk3 (wordsOf bs) (restOf bs) bs.length []) (rng_part (hm1.blk m1) 0 _ [] _ (hsh_now bs T) rfl) tyMk (by rw [hN.out]; exact szMk) ?_) | (refine Mm.wp_alloc rfl 50 rfl _ zeroMk hm1 ?_; intro g3 w3 hm3) | (refine wp_setrow rfl 50 _ _ rfl g3 rfl 50 (mk3 (List.replicate 8 0) (List.replicate 64 0) 0 []) (mk3 (wordsOf bs) (restOf bs) bs.length []) rfl hm3 (by rw [hN.out]; exact szMk) (by rw [hN.out]; rfl) (mk3_one _ _ _ One.nil) ?_; intro w4 hm4))
  clear hm hm1 hm3
  obtain ⟨tw, tr, tt, last, sums⟩ := T
  have hH : Fact (w4.heap[g]? = some (.cells (hsh bs ⟨tw, tr, tt, last, sums⟩).toArray 53 (0, 0))) := ⟨hm4.blk m2⟩
  have hG : Fact (w4.heap[g3]? = some (.cells (mk3 (wordsOf bs) (restOf bs) bs.length []).toArray 50 (0, 0))) := ⟨hm4.blk m0⟩
  have cs := hm4.cell m2 178 (hsh_sums bs _ hT.out)
  have ct := hm4.cell m2 145 (hsh_tt bs _ hT.out)
  have cn := hm4.cell m0 72 (mk3_tot _ _ (wordsOf_length _) (restOf_length _) _ _)
  dsimp only at cs ct
  have qw : ∀ W, (Op.equalIn 10000 46 (.agg (nums .u32 tw).toArray) (.agg (nums .u32 (wordsOf bs)).toArray)).run Try.prog W = .ok (tw == wordsOf bs) W := fun W => run_eq_nums (P := Try.prog) W 46 42 8 .u32 tyW8' tyU32 szU32 _ _ hT.out.1 (wordsOf_length _)
  have qr : ∀ W, (Op.equalIn 10000 40 (.agg (nums .u8 tr).toArray) (.agg (nums .u8 (restOf bs)).toArray)).run Try.prog W = .ok (tr == restOf bs) W := fun W => run_eq_nums (P := Try.prog) W 40 5 64 .u8 tyB64' ty5 sz5 _ _ hT.out.2.1 (restOf_length _)
  simp only [Act.put, List.setIfInBounds_toArray, List.set_cons_zero, List.set_cons_succ]
  go_cut [41] (fun v W => ∃ b m, v = .bool b ∧ W = w4.drewN m ∧ (b = true → Fact (sums = true ∧ tw = wordsOf bs ∧ tr = restOf bs ∧ tt = bs.length)))
  case first =>
    by_cases hs : sums = false
    · skip
      rw [hs] at cs
      refine wp_region_quiet_lit (by kernel_rfl) (by kernel_rfl) ?_
      repeat (first | go_big_quiet_skip | (go_big_quiet_want; (first | (refine quiet_part hH.out 46 _ rfl 73 rfl (nums .u32 tw) (mk3 (wordsOf bs) (restOf bs) bs.length []) _ (hsh_tw _ _) (mk3_len73 bs) tyW8d (by rw [length_nums, hT.out.1]; exact szW8) ?_; simp only [Act.put, List.setIfInBounds_toArray, List.set_cons_zero, List.set_cons_succ]; go_big_quiet_on) | (refine quiet_part hH.out 40 _ rfl 81 rfl (nums .u8 tr) (mk3 (wordsOf bs) (restOf bs) bs.length [] ++ nums .u32 tw) _ (hsh_tr _ _) (by rw [List.length_append, mk3_len73, length_nums, hT.out.1]) tyB64 (by rw [length_nums, hT.out.2.1]; exact szB64) ?_; simp only [Act.put, List.setIfInBounds_toArray, List.set_cons_zero, List.set_cons_succ]; go_big_quiet_on) | (refine quiet_part hG.out 46 _ rfl 0 rfl (nums .u32 (wordsOf bs)) [] _ rfl rfl tyW8d (by rw [length_nums, wordsOf_length]; exact szW8) ?_; simp only [Act.put, List.setIfInBounds_toArray, List.set_cons_zero, List.set_cons_succ]; go_big_quiet_on) | (refine quiet_part hG.out 40 _ rfl 8 rfl (nums .u8 (restOf bs)) (nums .u32 (wordsOf bs)) _ rfl (by rw [length_nums, wordsOf_length]) tyB64 (by rw [length_nums, restOf_length]; exact szB64) ?_; simp only [Act.put, List.setIfInBounds_toArray, List.set_cons_zero, List.set_cons_succ]; go_big_quiet_on) | (go_big_quiet_op; go_big_quiet_on))))
      refine wpQuiet_nil ?_
      rintro _ ⟨nq, rfl⟩
      clear qw qr cs ct cn
      go_wp2
      try simp only [Act.put, List.setIfInBounds_toArray, List.set_cons_zero, List.set_cons_succ]
      go_meet
      case rel => exact ⟨false, nq, rfl, rfl, fun h => by cases h⟩
    replace hs : sums = true := by simpa using hs
    by_cases hw : tw = wordsOf bs
    case neg =>
      have e1 : (tw == wordsOf bs) = false := by simpa using hw
      rw [hs] at cs
      simp only [e1] at qw
      refine wp_region_quiet_lit (by kernel_rfl) (by kernel_rfl) ?_
      repeat (first | go_big_quiet_skip | (go_big_quiet_want; (first | (refine quiet_part hH.out 46 _ rfl 73 rfl (nums .u32 tw) (mk3 (wordsOf bs) (restOf bs) bs.length []) _ (hsh_tw _ _) (mk3_len73 bs) tyW8d (by rw [length_nums, hT.out.1]; exact szW8) ?_; simp only [Act.put, List.setIfInBounds_toArray, List.set_cons_zero, List.set_cons_succ]; go_big_quiet_on) | (refine quiet_part hH.out 40 _ rfl 81 rfl (nums .u8 tr) (mk3 (wordsOf bs) (restOf bs) bs.length [] ++ nums .u32 tw) _ (hsh_tr _ _) (by rw [List.length_append, mk3_len73, length_nums, hT.out.1]) tyB64 (by rw [length_nums, hT.out.2.1]; exact szB64) ?_; simp only [Act.put, List.setIfInBounds_toArray, List.set_cons_zero, List.set_cons_succ]; go_big_quiet_on) | (refine quiet_part hG.out 46 _ rfl 0 rfl (nums .u32 (wordsOf bs)) [] _ rfl rfl tyW8d (by rw [length_nums, wordsOf_length]; exact szW8) ?_; simp only [Act.put, List.setIfInBounds_toArray, List.set_cons_zero, List.set_cons_succ]; go_big_quiet_on) | (refine quiet_part hG.out 40 _ rfl 8 rfl (nums .u8 (restOf bs)) (nums .u32 (wordsOf bs)) _ rfl (by rw [length_nums, wordsOf_length]) tyB64 (by rw [length_nums, restOf_length]; exact szB64) ?_; simp only [Act.put, List.setIfInBounds_toArray, List.set_cons_zero, List.set_cons_succ]; go_big_quiet_on) | (go_big_quiet_op; go_big_quiet_on))))
      refine wpQuiet_nil ?_
      rintro _ ⟨nq, rfl⟩
      clear qw qr cs ct cn
      go_wp2
      try simp only [Act.put, List.setIfInBounds_toArray, List.set_cons_zero, List.set_cons_succ]
      go_meet
      case rel => exact ⟨false, nq, rfl, rfl, fun h => by cases h⟩
    by_cases hr : tr = restOf bs
    case neg =>
      have e1 : (tw == wordsOf bs) = true := by simpa using hw
      have e2 : (tr == restOf bs) = false := by simpa using hr
      rw [hs] at cs
      simp only [e1] at qw
      simp only [e2] at qr
      clear hw
      refine wp_region_quiet_lit (by kernel_rfl) (by kernel_rfl) ?_
      repeat (first | go_big_quiet_skip | (go_big_quiet_want; (first | (refine quiet_part hH.out 46 _ rfl 73 rfl (nums .u32 tw) (mk3 (wordsOf bs) (restOf bs) bs.length []) _ (hsh_tw _ _) (mk3_len73 bs) tyW8d (by rw [length_nums, hT.out.1]; exact szW8) ?_; simp only [Act.put, List.setIfInBounds_toArray, List.set_cons_zero, List.set_cons_succ]; go_big_quiet_on) | (refine quiet_part hH.out 40 _ rfl 81 rfl (nums .u8 tr) (mk3 (wordsOf bs) (restOf bs) bs.length [] ++ nums .u32 tw) _ (hsh_tr _ _) (by rw [List.length_append, mk3_len73, length_nums, hT.out.1]) tyB64 (by rw [length_nums, hT.out.2.1]; exact szB64) ?_; simp only [Act.put, List.setIfInBounds_toArray, List.set_cons_zero, List.set_cons_succ]; go_big_quiet_on) | (refine quiet_part hG.out 46 _ rfl 0 rfl (nums .u32 (wordsOf bs)) [] _ rfl rfl tyW8d (by rw [length_nums, wordsOf_length]; exact szW8) ?_; simp only [Act.put, List.setIfInBounds_toArray, List.set_cons_zero, List.set_cons_succ]; go_big_quiet_on) | (refine quiet_part hG.out 40 _ rfl 8 rfl (nums .u8 (restOf bs)) (nums .u32 (wordsOf bs)) _ rfl (by rw [length_nums, wordsOf_length]) tyB64 (by rw [length_nums, restOf_length]; exact szB64) ?_; simp only [Act.put, List.setIfInBounds_toArray, List.set_cons_zero, List.set_cons_succ]; go_big_quiet_on) | (go_big_quiet_op; go_big_quiet_on))))
      refine wpQuiet_nil ?_
      rintro _ ⟨nq, rfl⟩
      clear qw qr cs ct cn
      go_wp2
      try simp only [Act.put, List.setIfInBounds_toArray, List.set_cons_zero, List.set_cons_succ]
      go_meet
      case rel => exact ⟨false, nq, rfl, rfl, fun h => by cases h⟩
    by_cases ht : tt = bs.length
    case neg =>
      have e1 : (tw == wordsOf bs) = true := by simpa using hw
      have e2 : (tr == restOf bs) = true := by simpa using hr
      have e3 : (tt == (bs.length : Int)) = false := by simpa using ht
      rw [hs] at cs
      simp only [e1] at qw
      simp only [e2] at qr
      clear hw hr
      refine wp_region_quiet_lit (by kernel_rfl) (by kernel_rfl) ?_
      repeat (first | go_big_quiet_skip | (go_big_quiet_want; (first | (refine quiet_part hH.out 46 _ rfl 73 rfl (nums .u32 tw) (mk3 (wordsOf bs) (restOf bs) bs.length []) _ (hsh_tw _ _) (mk3_len73 bs) tyW8d (by rw [length_nums, hT.out.1]; exact szW8) ?_; simp only [Act.put, List.setIfInBounds_toArray, List.set_cons_zero, List.set_cons_succ]; go_big_quiet_on) | (refine quiet_part hH.out 40 _ rfl 81 rfl (nums .u8 tr) (mk3 (wordsOf bs) (restOf bs) bs.length [] ++ nums .u32 tw) _ (hsh_tr _ _) (by rw [List.length_append, mk3_len73, length_nums, hT.out.1]) tyB64 (by rw [length_nums, hT.out.2.1]; exact szB64) ?_; simp only [Act.put, List.setIfInBounds_toArray, List.set_cons_zero, List.set_cons_succ]; go_big_quiet_on) | (refine quiet_part hG.out 46 _ rfl 0 rfl (nums .u32 (wordsOf bs)) [] _ rfl rfl tyW8d (by rw [length_nums, wordsOf_length]; exact szW8) ?_; simp only [Act.put, List.setIfInBounds_toArray, List.set_cons_zero, List.set_cons_succ]; go_big_quiet_on) | (refine quiet_part hG.out 40 _ rfl 8 rfl (nums .u8 (restOf bs)) (nums .u32 (wordsOf bs)) _ rfl (by rw [length_nums, wordsOf_length]) tyB64 (by rw [length_nums, restOf_length]; exact szB64) ?_; simp only [Act.put, List.setIfInBounds_toArray, List.set_cons_zero, List.set_cons_succ]; go_big_quiet_on) | (go_big_quiet_op; go_big_quiet_on))))
      refine wpQuiet_nil ?_
      rintro _ ⟨nq, rfl⟩
      clear qw qr cs ct cn
      go_wp2
      try simp only [Act.put, List.setIfInBounds_toArray, List.set_cons_zero, List.set_cons_succ]
      go_meet
      case rel => exact ⟨false, nq, rfl, rfl, fun h => by cases h⟩
    case pos =>
      have e1 : (tw == wordsOf bs) = true := by simpa using hw
      have e2 : (tr == restOf bs) = true := by simpa using hr
      have e3 : (tt == (bs.length : Int)) = true := by simpa using ht
      have hall := Fact.mk (And.intro hs (And.intro hw (And.intro hr ht)))
      rw [hs] at cs
      simp only [e1] at qw
      simp only [e2] at qr
      clear hw hr hs ht
      refine wp_region_quiet_lit (by kernel_rfl) (by kernel_rfl) ?_
      repeat (first | go_big_quiet_skip | (go_big_quiet_want; (first | (refine quiet_part hH.out 46 _ rfl 73 rfl (nums .u32 tw) (mk3 (wordsOf bs) (restOf bs) bs.length []) _ (hsh_tw _ _) (mk3_len73 bs) tyW8d (by rw [length_nums, hT.out.1]; exact szW8) ?_; simp only [Act.put, List.setIfInBounds_toArray, List.set_cons_zero, List.set_cons_succ]; go_big_quiet_on) | (refine quiet_part hH.out 40 _ rfl 81 rfl (nums .u8 tr) (mk3 (wordsOf bs) (restOf bs) bs.length [] ++ nums .u32 tw) _ (hsh_tr _ _) (by rw [List.length_append, mk3_len73, length_nums, hT.out.1]) tyB64 (by rw [length_nums, hT.out.2.1]; exact szB64) ?_; simp only [Act.put, List.setIfInBounds_toArray, List.set_cons_zero, List.set_cons_succ]; go_big_quiet_on) | (refine quiet_part hG.out 46 _ rfl 0 rfl (nums .u32 (wordsOf bs)) [] _ rfl rfl tyW8d (by rw [length_nums, wordsOf_length]; exact szW8) ?_; simp only [Act.put, List.setIfInBounds_toArray, List.set_cons_zero, List.set_cons_succ]; go_big_quiet_on) | (refine quiet_part hG.out 40 _ rfl 8 rfl (nums .u8 (restOf bs)) (nums .u32 (wordsOf bs)) _ rfl (by rw [length_nums, wordsOf_length]) tyB64 (by rw [length_nums, restOf_length]; exact szB64) ?_; simp only [Act.put, List.setIfInBounds_toArray, List.set_cons_zero, List.set_cons_succ]; go_big_quiet_on) | (go_big_quiet_op; go_big_quiet_on))))
      refine wpQuiet_nil ?_
      rintro _ ⟨nq, rfl⟩
      clear qw qr cs ct cn
      go_wp2
      try simp only [Act.put, List.setIfInBounds_toArray, List.set_cons_zero, List.set_cons_succ]
      go_meet
      case rel => exact ⟨true, nq, rfl, rfl, fun _ => hall⟩
  case rest =>
    clear cs ct cn qw qr hH hG
    obtain ⟨b, m, rfl, rfl, hb⟩ := hcut
    have hm5 := hm4.drewN m
    generalize w4.drewN m = w5 at hm5 ⊢
    clear hm4
    cases b with
    | true =>
      obtain ⟨q0, q1, q2, q3⟩ := (hb rfl).out
      have hlast : Fact (last = Sh.sum bs) := ⟨by
        obtain ⟨b, _, h1, h2, h3, h4⟩ := hT.out.2.2.2 q0
        dsimp only at h1 h2 h3 h4
        rw [h4]
        exact sum_kept (by rw [← h1, q1]) (by rw [← h2, q2]) (by omega)⟩
      clear q0 q1 q2 q3 hb
      have hll : Fact ((nums .u8 last).length = 32) := ⟨by rw [length_nums]; exact hT.out.2.2.1⟩
      have rg := Fact.mk (rng_part (hm5.blk m2) 146 _ _ _ (hsh_last bs ⟨tw, tr, tt, last, sums⟩) (by rw [hsh_pre146 _ _ hT.out]))
      go_wp2_with (first | (refine wp_rng rfl 22 _ rfl g 146 rfl (nums .u8 last) rg.out tyD (by rw [hll.out]; exact sz22) ?_) | (refine wp_setrow rfl 22 _ _ rfl g2 rfl 22 (nums .u8 (List.replicate 32 0)) (nums .u8 last) rfl hm5.swap (by rw [hll.out]; exact sz22) (by rw [hll.out]; rfl) (One.nums _ _) ?_; intro w6 hm6))
      refine bodyPost_ret (Mm.res_cell rfl _ g2 22 (nums .u8 last) (0, 0) rfl hm6 m0 tyD (by rw [hll.out]; exact sz22)) rfl ⟨by rw [hlast.out], ⟨tw, tr, tt, last, sums⟩, hT.out, hm6.tail.tail⟩
    | false =>
      clear hb
      have hSl : Fact ((nums .u8 (Sh.sum bs)).length = 32) := ⟨by rw [length_nums, sum_length]⟩
      go_upto_region 4 with (fail)
      refine wp_region_until (S := fun W => W.heap[g3]? = some (.cells (mk3 (wordsOf bs) (restOf bs) bs.length []).toArray 50 (0, 0))) 12 (by kernel_rfl) ?_
      have hm6 := hm5.drew
      clear hm5
      generalize w5.drew = w6 at hm6 ⊢
      have hS := hm6.blk m0
      refine wpAnyU_take 0 (v := ?v0) rfl (by kernel_rfl) (by kernel_rfl) (fun _ _ _ h => h) hS (Or.inl ⟨rfl, ?y0⟩) ?r0
      case y0 =>
        intro W hW
        go_simp
        try with_reducible rfl
      try simp only [Act.put, List.getElem_toArray, List.getElem_cons_succ, List.getElem_cons_zero, List.setIfInBounds_toArray, List.set_cons_zero, List.set_cons_succ]
      refine wpAnyU_take 1 (v := ?v1) rfl (by kernel_rfl) (by kernel_rfl) (fun _ _ _ h => h) hS (Or.inl ⟨rfl, ?y1⟩) ?r1
      case y1 =>
        intro W hW
        go_simp
        try with_reducible rfl
      try simp only [Act.put, List.getElem_toArray, List.getElem_cons_succ, List.getElem_cons_zero, List.setIfInBounds_toArray, List.set_cons_zero, List.set_cons_succ]
      refine wpAnyU_take 2 (v := ?v2) rfl (by kernel_rfl) (by kernel_rfl) (fun _ _ _ h => h) hS (Or.inl ⟨rfl, ?y2⟩) ?r2
      case y2 =>
        intro W hW
        go_simp
        try with_reducible rfl
      try simp only [Act.put, List.getElem_toArray, List.getElem_cons_succ, List.getElem_cons_zero, List.setIfInBounds_toArray, List.set_cons_zero, List.set_cons_succ]
      refine wpAnyU_take 3 (v := .agg (mk3 (wordsOf bs) (restOf bs) bs.length []).toArray) rfl (by kernel_rfl) (by kernel_rfl) (fun _ _ _ h => h) hS (yields_part rfl 50 _ rfl 0 rfl _ [] [] (by simp) rfl tyMk (by rw [hN.out]; exact szMk)) ?_
      try simp only [Act.put, List.getElem_toArray, List.getElem_cons_succ, List.getElem_cons_zero, List.setIfInBounds_toArray, List.set_cons_zero, List.set_cons_succ]
      refine wpAnyU_take 4 (v := .agg (mk3 (wordsOf bs) (restOf bs) bs.length []).toArray) rfl (by kernel_rfl) (by kernel_rfl) (fun _ _ _ h => h) hS (yields_part rfl 50 _ rfl 0 rfl _ [] [] (by simp) rfl tyMk (by rw [hN.out]; exact szMk)) ?_
      try simp only [Act.put, List.getElem_toArray, List.getElem_cons_succ, List.getElem_cons_zero, List.setIfInBounds_toArray, List.set_cons_zero, List.set_cons_succ]
      refine wpAnyU_one 5 (by kernel_rfl) rfl (fun K hK => ?_)
      refine step_callw rfl 30 Try.f30 Try.func30 (by kernel_rfl) (by kernel_rfl) _ _ rfl #[.agg (mk3 (wordsOf bs) (restOf bs) bs.length []).toArray] (by simp [Act.eval]) ?_
      refine (end_ok w6 bs hbs bs.length ⟨rfl⟩ hn).mono ?_
      rintro E w7 ⟨rfl, hg7⟩
      have hm7 : Mem w0 w7 (Blk g (.cells (hsh bs ⟨tw, tr, tt, last, sums⟩).toArray 53) :: Blk g3 (.cells (mk3 (wordsOf bs) (restOf bs) bs.length []).toArray 50) :: Blk g2 (.cells (nums .u8 (List.replicate 32 0)).toArray 22) :: L) := (hm6.gr hg7).pull2
      clear hm6 hS hg7
      have hS := hm7.blk m1
      refine ⟨_, rfl, hK _ _ (fun _ => hS) ?_⟩
      clear hK K
      try simp only [Act.put, List.getElem_toArray, List.getElem_cons_succ, List.getElem_cons_zero, List.setIfInBounds_toArray, List.set_cons_zero, List.set_cons_succ]
      refine wpAnyU_one 6 (by kernel_rfl) rfl (fun K hK => ?_)
      go_simp
      refine hK _ _ (fun h => hS) ?_
      clear hK K
      refine wpAnyU_one 7 (by kernel_rfl) rfl (fun K hK => ?_)
      go_simp
      refine hK _ _ (fun h => hS) ?_
      clear hK K
      refine wpAnyU_one 8 (by kernel_rfl) rfl (fun K hK => ?_)
      refine step_setmid rfl 50 _ _ rfl g 73 rfl 53 _ (mk3 (wordsOf bs) (restOf bs) bs.length []) rfl hm7 (by rw [hN.out]; exact szMk) (by rw [hN.out, hsh_length _ _ hT.out]; omega) (mk3_one _ _ _ One.nil) ?_
      intro w8 hm8
      rw [hsh_set73 _ _ hT.out] at hm8
      clear hm7 hS
      have hS := hm8.blk m1
      refine hK _ _ (fun h => hS) ?_
      clear hK K
      refine wpAnyU_one 9 (by kernel_rfl) rfl (fun K hK => ?_)
      go_simp
      refine hK _ _ (fun h => hS) ?_
      clear hK K
      refine wpAnyU_one 10 (by kernel_rfl) rfl (fun K hK => ?_)
      go_simp
      refine hK _ _ (fun h => hS) ?_
      clear hK K
      refine wpAnyU_one 11 (by kernel_rfl) rfl (fun K hK => ?_)
      refine step_setmid rfl 22 _ _ rfl g 146 rfl 53 _ (nums .u8 (Sh.sum bs)) rfl hm8 (by rw [hSl.out]; exact sz22) (by rw [hSl.out, hsh_len3 _ _ hT.out]; omega) (One.nums _ _) ?_
      intro w9 hm9
      rw [hsh_set146 _ _ _ _ hT.out.2.2.1 (sum_length _)] at hm9
      clear hm8 hS
      have hS := hm9.blk m1
      refine hK _ _ (fun h => hS) ?_
      clear hK K
      refine wpAnyU_one 12 (by kernel_rfl) rfl (fun K hK => ?_)
      go_simp
      refine hK _ _ (fun h => absurd h (by decide)) ?_
      clear hK K
      refine wpAnyU_one 13 (by kernel_rfl) rfl (fun K hK => ?_)
      go_simp
      refine hK _ _ (fun h => absurd h (by decide)) ?_
      clear hK K
      have c178 := hm9.cell m0 178 (hsh_at178 bs (Sh.sum bs) sums (sum_length _))
      have f178 := hm9.free m0 178
      have hm10 := hm9.set 178 (.bool true)
      rw [hsh_set178 _ _ _ (sum_length _)] at hm10
      refine wpAnyU_one 14 (by kernel_rfl) rfl (fun K hK => ?_)
      go_simp
      refine hK _ _ (fun h => absurd h (by decide)) ?_
      clear hK K hm9 hS c178 f178
      refine wpAnyU_done (by kernel_rfl) ?_ _
      try simp only [Act.put, List.getElem_toArray, List.getElem_cons_succ, List.getElem_cons_zero, List.setIfInBounds_toArray, List.set_cons_zero, List.set_cons_succ]
      have hT3 : Told.ok ⟨wordsOf bs, restOf bs, bs.length, Sh.sum bs, true⟩ := ⟨wordsOf_length _, restOf_length _, sum_length _, fun _ => ⟨bs, hbs.out, rfl, rfl, rfl, rfl⟩⟩
      have rg := Fact.mk (rng_part (hm10.blk m0) 146 _ _ _ (hsh3_pre bs (Sh.sum bs) true) (hsh3_len bs))
      go_wp2_with (first | (refine wp_rng rfl 22 _ rfl g 146 rfl (nums .u8 (Sh.sum bs)) rg.out tyD (by rw [hSl.out]; exact sz22) ?_) | (refine wp_setrow rfl 22 _ _ rfl g2 rfl 22 (nums .u8 (List.replicate 32 0)) (nums .u8 (Sh.sum bs)) rfl hm10.pull2 (by rw [hSl.out]; exact sz22) (by rw [hSl.out]; rfl) (One.nums _ _) ?_; intro w11 hm11))
      refine bodyPost_ret (Mm.res_cell rfl _ g2 22 (nums .u8 (Sh.sum bs)) (0, 0) rfl hm11 m0 tyD (by rw [hSl.out]; exact sz22)) rfl ⟨rfl, _, hT3, hm11.tail.drop2⟩
end Go.Proofs.Ytngdcnpokdogdaa
