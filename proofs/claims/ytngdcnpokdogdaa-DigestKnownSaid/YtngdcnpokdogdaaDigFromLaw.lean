import Derived.Test.YtngdcnpokdogdaaDigFrom
import Derived.Test.YtngdcnpokdogdaaBytes
import Derived.Test.YtngdcnpokdogdaaOpen
namespace Go.Proofs.Ytngdcnpokdogdaa
open Go.RowKit Go.Mm
theorem zero22 : (Try.prog.info? 22).map (fun i => i.zero.map (fun z => z.cells.toList)) = some (some (nums .u8 (List.replicate 32 0))) := by kernel_rfl
theorem len32 (bs : List Int) : (nums .u8 (fromArr bs)).length = 32 := by rw [length_nums, fromArr_length]
/-- One more, as a byte. -/
def inc (x : Int) : Int := (x + 1) % 256
def incs (k : Nat) (bs : List Int) : List Int := (bs.take k).map inc ++ bs.drop k
theorem incs_length (k : Nat) (bs : List Int) : (incs k bs).length = bs.length := by simp [incs]; omega
theorem incs_all (bs : List Int) : incs bs.length bs = bs.map inc := by simp [incs]
theorem incs_at (k : Nat) (bs : List Int) (h : k < bs.length) : (incs k bs ++ marksB 64).getD k 0 = bs.getD k 0 := by
  simp [incs, List.getD_eq_getElem?_getD, List.getElem?_append, h, show ¬ k < min k bs.length by omega, show k - min k bs.length = 0 by omega, show 0 < bs.length - k by omega]
theorem incs_set (k : Nat) (bs : List Int) (h : k < bs.length) : (incs k bs ++ marksB 64).set k ((bs.getD k 0 + 1) % 256) = incs (k + 1) bs ++ marksB 64 := by
  have hl : ((bs.take k).map inc).length = k := by simp; omega
  rw [List.set_append_left _ _ (by rw [incs_length]; exact h)]
  congr 1
  unfold incs
  rw [List.set_append_right _ _ (by omega), hl, Nat.sub_self, List.drop_eq_getElem_cons h, List.set_cons_zero, take_snoc _ 0 _ h, List.map_append]
  simp [inc, h]
set_option maxHeartbeats 1000000 in
set_option maxRecDepth 100000 in
theorem digestFrom_walk (w : World) (A : Option Addr) (n c : Nat) (bs : List Int) (hr : Fact (RdC w 1 (.slice A n c) (nums .u8 bs))) (hn : n ≤ 140737488351232) (hby : Fact (Byt bs)) :
    Calls Try.prog 4 #[.slice A n c] w fun e w' => e = .returned (.bool true) ∧ Gr w w' := by
  go_enter Try.func4, Try.ntmps4
  go_wp2_with fail
  refine (lent_ok w A n c bs hr hn).mono ?_
  rintro e w1 ⟨A1, c1, rfl, hnew⟩
  have hm := (Mem.start w).new hnew
  have hcap := (hnew.ok).cap
  obtain ⟨g, off, rfl⟩ := (hnew.ok).addr (by have := hcap.1; omega)
  have hg1 := hnew.gr
  clear hnew
  go_wp2_with fail
  have hl := hr.out.nlen
  refine (refFrom_ok w1 A n c bs ⟨hr.out.gr hg1⟩ (by omega)).mono ?_
  rintro e w2 ⟨rfl, hg2⟩
  have hm := hm.gr hg2
  have hg2 := hg1.trans hg2
  go_upto_region 4 with (first | (refine Mm.wp_alloc rfl 22 rfl (nums .u8 (List.replicate 32 0)) zero22 hm ?_; intro g5 w3 hm5) | (refine wp_setrow rfl 22 _ _ rfl g5 rfl 22 _ _ rfl hm5 (by rw [len32]; exact sz22) (by rw [len32]; rfl) (One.nums _ _) ?_; intro w4 hm6))
  clear hm5 hm hg1
  subst hl
  have hrd := ((hm6.rd m1).npre (by omega))
  go_wp2_with fail
  refine (from_ok w4 (some ⟨g, off, none⟩) bs.length c1 bs ⟨hrd⟩ (by omega)).mono ?_
  rintro e w5 ⟨rfl, hg5⟩
  have hm := hm6.gr hg5
  clear hm6 hrd
  go_upto_region 5 with (first | (refine Mm.wp_alloc rfl 22 rfl (nums .u8 (List.replicate 32 0)) zero22 hm ?_; intro g7 w6 hm7) | (refine wp_setrow rfl 22 _ _ rfl g7 rfl 22 _ _ rfl hm7 (by rw [len32]; exact sz22) (by rw [len32]; rfl) (One.nums _ _) ?_; intro w7 hm8))
  clear hm hm7
  have hf := hm8.rd m2
  go_wp2_with fail
  refine (kept_ok w7 _ bs.length c1 A c bs ⟨hf⟩ ⟨hr.out.gr hm8.below⟩ (by omega)).mono ?_
  rintro e w8 ⟨rfl, hg8⟩
  have hm := hm8.gr hg8
  have hm : Mem w w8 [Own 1 (.slice (some ⟨g, off, none⟩) (bs.length + 64) c1) (nums .u8 (bs ++ marksB 64)), Blk g7 (.cells (nums .u8 (fromArr bs)).toArray 22), Blk g5 (.cells (nums .u8 (fromArr bs)).toArray 22)] := hm.perm (by simpa using perm3 _ _ _)
  clear hm8 hf
  go_upto_region 7 with (fail)
  go_loopw [10] (fun v w' => ∃ (k : Nat), v = .int .i64 k ∧ k ≤ bs.length ∧ Mem w w' [Own 1 (.slice (some ⟨g, off, none⟩) (bs.length + 64) c1) (nums .u8 (incs k bs ++ marksB 64)), Blk g7 (.cells (nums .u8 (fromArr bs)).toArray 22), Blk g5 (.cells (nums .u8 (fromArr bs)).toArray 22)]) (fun v _ => bs.length - (intOf v).toNat)
  case atStart => exact ⟨0, rfl, by omega, by simpa [incs] using hm⟩
  case round =>
    clear hm
    obtain ⟨k, rfl, hk, hm⟩ := hrel
    by_cases hlt : k < bs.length
    · have hc := hm.own_cell m0 k (nums_getD .u8 _ k (by rw [List.length_append, incs_length]; omega))
      rw [incs_at k bs hlt] at hc
      obtain ⟨hc, hf⟩ := hc
      have hset := hm.own_set k (by rw [length_nums, List.length_append, incs_length]; omega) (.int .u8 ((bs.getD k 0 + 1) % 256)) rfl
      rw [nums_set, incs_set k bs hlt] at hset
      have hb := hby.out.at k
      generalize bs.getD k 0 = x at hc hset hb
      obtain ⟨hb0, hb1⟩ := hb
      go_wp2
      go_roundw
      case rel => exact ⟨k + 1, by go_num, by omega, by simpa using hset⟩
      case measure => simp [intOf]; omega
    · obtain rfl : k = bs.length := by omega
      rw [incs_all] at hm
      have hil : (bs.map inc).length = bs.length := by simp
      have hil2 := Fact.mk hil
      have hrd : RdC wr 1 (.slice (some ⟨g, off, none⟩) bs.length c1) (nums .u8 (bs.map inc)) := by
        have := (hm.rd m0).npre (by rw [hil]; omega)
        rwa [hil] at this
      clear hil
      go_wp2_with fail
      refine (copyBytes_ok wr (some ⟨g, off, none⟩) bs.length c1 (bs.map inc) ⟨hrd⟩ (by omega)).mono ?_
      rintro e w9 ⟨A9, c9, rfl, hnew⟩
      have hm9 := hm.new hnew
      have hg9 := hnew.gr
      clear hnew
      go_wp2_with fail
      refine (refFrom_ok w9 A9 bs.length c9 (bs.map inc) ⟨hm9.rd m0⟩ (by omega)).mono ?_
      rintro e w10 ⟨rfl, hg10⟩
      have hm10 := hm9.gr hg10
      clear hm9
      go_upto_region 11 with (first | (refine Mm.wp_alloc rfl 22 rfl (nums .u8 (List.replicate 32 0)) zero22 hm10 ?_; intro g11 w11 hm11) | (refine wp_setrow rfl 22 _ _ rfl g11 rfl 22 _ _ rfl hm11 (by rw [len32]; exact sz22) (by rw [len32]; rfl) (One.nums _ _) ?_; intro w12 hm12))
      clear hm10 hm11
      have hrd2 : RdC w12 1 (.slice (some ⟨g, off, none⟩) bs.length c1) (nums .u8 (bs.map inc)) := by
        have := (hm12.rd m2).npre (by rw [hil2.out]; omega)
        rwa [hil2.out] at this
      clear hrd
      go_wp2_with fail
      refine (from_ok w12 (some ⟨g, off, none⟩) bs.length c1 (bs.map inc) ⟨hrd2⟩ (by omega)).mono ?_
      rintro e w13 ⟨rfl, hg13⟩
      have hm13 := hm12.gr hg13
      clear hm12 hrd2
      go_upto_region 12 with (first | (refine Mm.wp_alloc rfl 22 rfl (nums .u8 (List.replicate 32 0)) zero22 hm13 ?_; intro g13 w14 hm14) | (refine wp_setrow rfl 22 _ _ rfl g13 rfl 22 _ _ rfl hm14 (by rw [len32]; exact sz22) (by rw [len32]; rfl) (One.nums _ _) ?_; intro w15 hm15))
      clear hm13 hm14 hm
      have q1 := fun W => run_eq_nums (P := Try.prog) W 22 5 32 .u8 ty22 ty5 sz5 (fromArr bs) (fromArr bs) (fromArr_length _) (fromArr_length _)
      have q2 := fun W => run_eq_nums (P := Try.prog) W 22 5 32 .u8 ty22 ty5 sz5 (fromArr (bs.map inc)) (fromArr (bs.map inc)) (fromArr_length _) (fromArr_length _)
      simp only [beq_self_eq_true] at q1 q2
      have z1 := Fact.mk (len32 bs)
      have z2 := Fact.mk (len32 (bs.map inc))
      generalize (nums .u8 (fromArr bs)) = Z1 at *
      generalize (nums .u8 (fromArr (bs.map inc))) = Z2 at *
      go_wp2_with (first | (refine Mm.wp_row rfl 22 _ rfl g7 rfl 22 Z1 _ _ hm15 m4 ty22 rfl (by rw [z1.out]; exact sz22) ?_) | (refine Mm.wp_row rfl 22 _ rfl g5 rfl 22 Z1 _ _ hm15 m5 ty22 rfl (by rw [z1.out]; exact sz22) ?_) | (refine Mm.wp_row rfl 22 _ rfl g13 rfl 22 Z2 _ _ hm15 m0 ty22 rfl (by rw [z2.out]; exact sz22) ?_) | (refine Mm.wp_row rfl 22 _ rfl g11 rfl 22 Z2 _ _ hm15 m1 ty22 rfl (by rw [z2.out]; exact sz22) ?_))
      go_ret
      exact ⟨rfl, hm15.below⟩
theorem byt_of_wf {xs : List Int} (h : ∀ x, x ∈ xs → (Lit.int .u8 x).wf = true) : Byt xs := fun x hx => by
  have : 0 ≤ x ∧ x ≤ 255 := by simpa [Lit.wf, IntKind.min, IntKind.max, IntKind.signed, IntKind.bits] using h x hx
  omega
theorem bytesOf5 : Try.prog.bytesOf 5 = 1 := by kernel_rfl
theorem digestFrom_ok (H : Type) (enc : TypeId × Value → H) (W : World) (base : Nat) (v : Value) (d : DataW H) (p : List MemPlace) (h : DataW.Trod enc Try.prog W 0 (fun _ => true) true 25 v d p) (ok : Value.okWide Try.prog W .any base 25 v)
    (hsz : (DataW.weightsEach Try.prog [25] [d]).all (· ≤ reachBytes) = true) :
    Calls Try.prog 4 #[v] W fun e w' => e = .returned (.bool true) ∧ Gr W w' := by
  obtain ⟨A, n, c, xs, rfl, hr, hl, hw, hd⟩ := open_nums ty25 ty5 (by kernel_rfl) h ok
  have hn : n ≤ 140737488351232 := by
    rcases hd with ⟨_, _, rfl⟩ | ⟨ds, sp, rfl, h1, h2, h3⟩
    · omega
    · have := sized_slice hsz (j := 0) (t := 25) (e := 5) rfl rfl ty25
      rw [bytesOf5] at this
      simp only [reachBytes] at this
      omega
  exact digestFrom_walk W A n c xs ⟨hr⟩ hn ⟨byt_of_wf hw⟩
end Go.Proofs.Ytngdcnpokdogdaa
