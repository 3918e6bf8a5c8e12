import Derived.Test.YtngdcnpokdogdaaHex
import Derived.Test.YtngdcnpokdogdaaArr
namespace Go.Proofs.Ytngdcnpokdogdaa
open Go.RowKit Go.Mm
theorem sz22 : (Try.prog.info? 22).map (·.size) = some 32 := by kernel_rfl
theorem copy32 (bs : List Int) (hl : bs.length = 32) : List.take 0 (nums .u8 (List.replicate 32 0)) ++ List.take (min 32 32 * 1) (nums .u8 bs) ++ List.drop (0 + min 32 32 * 1) (nums .u8 (List.replicate 32 0)) = nums .u8 bs := by
  have h1 : List.take (min 32 32 * 1) (nums .u8 bs) = nums .u8 bs := List.take_of_length_le (by rw [length_nums, hl]; decide)
  rw [h1, List.drop_eq_nil_of_le (by rw [length_nums, List.length_replicate]; decide)]
  simp
theorem fill_step (bs : List Int) (k n : Nat) (hk : k < bs.length) (hn : k < n) : (bs.take k ++ List.replicate (n - k) 0).set k (bs.getD k 0) = bs.take (k + 1) ++ List.replicate (n - (k + 1)) 0 := by
  have hl : (bs.take k).length = k := by rw [List.length_take]; omega
  rw [List.set_append_right _ _ (by omega), hl, Nat.sub_self, show n - k = (n - (k + 1)) + 1 by omega, List.replicate_succ, List.set_cons_zero, take_snoc _ 0 _ hk]
  simp
/-- The 32 bytes that a digest has, if these are so many. -/
def fromArr (bs : List Int) : List Int := if bs.length = 32 then bs else List.replicate 32 0
theorem fromArr_length (bs : List Int) : (fromArr bs).length = 32 := by unfold fromArr; split <;> simp_all
set_option maxHeartbeats 400000 in
set_option maxRecDepth 100000 in
theorem refFrom_ok (w : World) (A : Option Addr) (n c : Nat) (bs : List Int) (hr : Fact (RdC w 1 (.slice A n c) (nums .u8 bs))) (hn : n ≤ 4611686018427387904) :
    Calls Try.prog 12 #[.slice A n c] w fun e w' => e = .returned (.tuple #[.agg (nums .u8 (fromArr bs)).toArray, .bool (n == 32)]) ∧ Gr w w' := by
  have hl : Fact (bs.length = n) := ⟨by have := hr.out.len; simpa using this⟩
  by_cases h32 : n = 32
  · subst h32
    have hfa : Fact (fromArr bs = bs) := ⟨by unfold fromArr; rw [if_pos hl.out]⟩
    go_enter Try.func12, Try.ntmps12
    go_upto_region 2 with (fail)
    have hm := ((Mem.start w).alloc (.cells (nums .u8 (List.replicate 32 0)).toArray 22)).alloc (.cells (nums .u8 (List.replicate 32 0)).toArray 22)
    simp only [World.size_alloc] at hm
    generalize hg1 : w.heap.size = g1 at hm ⊢
    generalize hw1 : (w.alloc (.cells (nums .u8 (List.replicate 32 0)).toArray 22)).alloc (.cells (nums .u8 (List.replicate 32 0)).toArray 22) = w1 at hm
    refine wp_world hw1 ?_
    clear hw1 hg1
    go_wp2
    go_loopw [5] (fun v w' => ∃ (k : Nat) (out : List Int), v = .int .i64 k ∧ k ≤ 32 ∧ Fact (out = bs.take k ++ List.replicate (32 - k) 0) ∧ Mem w w' [Blk (g1 + 1) (.cells (nums .u8 out).toArray 22), Blk g1 (.cells (nums .u8 (List.replicate 32 0)).toArray 22)]) (fun v _ => 32 - (intOf v).toNat)
    case atStart => exact ⟨0, _, rfl, by omega, ⟨by simp⟩, hm⟩
    case round =>
      clear hm
      obtain ⟨k, out, rfl, hk, ho, hm⟩ := hrel
      have hol : Fact (out.length = 32) := ⟨by rw [ho.out, List.length_append, List.length_take, List.length_replicate]; have := hl.out; omega⟩
      by_cases hlt : k < 32
      · obtain ⟨b, o, c0, rfl, g, g2, _, _⟩ := hr.out.at1 k hlt
        rw [nums_getD .u8 bs k (by have := hl.out; omega)] at g2
        cases g2
        have g := Gr.cell hm.below g
        have c1 := hm.cell m0 k (nums_getD .u8 out k (by have := hol.out; omega))
        have f1 := hm.free m0 k
        go_wp2
        clear c1 f1 g
        have hm2 := hm.set k (.int .u8 (bs.getD k 0))
        rw [nums_set] at hm2
        go_roundw
        case rel => exact ⟨k + 1, out.set k (bs.getD k 0), by go_num, by omega, ⟨by rw [ho.out]; exact fill_step bs k 32 (by have := hl.out; omega) (by omega)⟩, by simpa using hm2⟩
        case measure => simp [intOf]; omega
      · obtain rfl : k = 32 := by omega
        have ho2 : out = bs := by rw [ho.out, List.take_of_length_le (by have := hl.out; omega)]; simp
        subst ho2
        clear ho
        go_upto_region 8 with (fail)
        go_wp2_with (first | (refine wp_row rfl 22 _ rfl (g1 + 1) rfl 22 _ _ _ hm m0 ty22 rfl (by rw [length_nums, hl.out]; exact sz22) ?_) | (refine wp_setrow rfl 22 _ _ rfl g1 rfl 22 _ _ rfl hm.swap (by rw [length_nums, hl.out]; exact sz22) (by rw [length_nums, length_nums, hl.out]; rfl) (One.nums _ _) ?_; intro w2 hm2))
        refine bodyPost_ret (Mm.results_cell_tmp rfl _ g1 22 _ (0, 0) _ rfl hm2 m0 ty22 rfl (by rw [length_nums, hl.out]; exact sz22)) rfl ⟨by rw [hfa.out]; rfl, hm2.below⟩
  · have hfa : Fact (fromArr bs = List.replicate 32 0) := ⟨by unfold fromArr; rw [if_neg (by rw [hl.out]; exact h32)]⟩
    have hb : Fact ((n == 32) = false) := ⟨by simpa using h32⟩
    have hne : ((n : Int) != 32) = true := by simp; omega
    have hne2 : ((n : Int) == 32) = false := by simp; omega
    go_enter Try.func12, Try.ntmps12
    go_upto_region 2 with (fail)
    have hm := ((Mem.start w).alloc (.cells (nums .u8 (List.replicate 32 0)).toArray 22)).alloc (.cells (nums .u8 (List.replicate 32 0)).toArray 22)
    simp only [World.size_alloc] at hm
    generalize hg1 : w.heap.size = g1 at hm ⊢
    generalize hw1 : (w.alloc (.cells (nums .u8 (List.replicate 32 0)).toArray 22)).alloc (.cells (nums .u8 (List.replicate 32 0)).toArray 22) = w1 at hm
    refine wp_world hw1 ?_
    clear hw1 hg1
    go_wp2_with (first | (refine wp_row rfl 22 _ rfl (g1 + 1) rfl 22 _ _ _ hm m0 ty22 rfl (by rw [length_nums, List.length_replicate]; exact sz22) ?_) | (refine wp_setrow rfl 22 _ _ rfl g1 rfl 22 _ _ rfl hm.swap (by rw [length_nums, List.length_replicate]; exact sz22) rfl (One.nums _ _) ?_; intro w2 hm2))
    refine bodyPost_ret (Mm.results_cell_tmp rfl _ g1 22 _ (0, 0) _ rfl hm2 m0 ty22 rfl (by rw [length_nums, List.length_replicate]; exact sz22)) rfl ⟨by rw [hfa.out, hb.out]; rfl, hm2.below⟩
set_option maxHeartbeats 400000 in
set_option maxRecDepth 100000 in
theorem from_ok (w : World) (A : Option Addr) (n c : Nat) (bs : List Int) (hr : Fact (RdC w 1 (.slice A n c) (nums .u8 bs))) (hn : n ≤ 4611686018427387904) :
    Calls Try.prog 13 #[.slice A n c] w fun e w' => e = .returned (.tuple #[.agg (nums .u8 (fromArr bs)).toArray, .bool (n == 32)]) ∧ Gr w w' := by
  have hl : Fact (bs.length = n) := ⟨by have := hr.out.len; simpa using this⟩
  have hZ : Fact ((nums .u8 (List.replicate 32 0)).length = 32) := ⟨by rw [length_nums, List.length_replicate]⟩
  by_cases h32 : n = 32
  · subst h32
    have hfa : Fact (fromArr bs = bs) := ⟨by unfold fromArr; rw [if_pos hl.out]⟩
    have hB : Fact ((nums .u8 bs).length = 32) := ⟨by rw [length_nums, hl.out]⟩
    go_enter Try.func13, Try.ntmps13
    go_upto_region 2 with (fail)
    have hm := ((Mem.start w).alloc (.cells (nums .u8 (List.replicate 32 0)).toArray 22)).alloc (.cells (nums .u8 (List.replicate 32 0)).toArray 22)
    simp only [World.size_alloc] at hm
    have hb := hm.below
    generalize hg1 : w.heap.size = g1 at hm ⊢
    generalize hw1 : (w.alloc (.cells (nums .u8 (List.replicate 32 0)).toArray 22)).alloc (.cells (nums .u8 (List.replicate 32 0)).toArray 22) = w1 at hm hb
    refine wp_world hw1 ?_
    clear hw1 hg1
    have hr1 := Fact.mk (hr.out.gr hb)
    go_wp2_with (first | (refine wp_copy_blk rfl _ _ _ _ rfl 5 ty25 1 sz5 (g1 + 1) 0 32 32 rfl A 32 c _ rfl hr1.out 22 _ hm (by rw [hZ.out]; decide) ?_; intro w2 hm2; rw [show List.take 0 (nums .u8 (List.replicate 32 0)) ++ List.take (min 32 32 * 1) (nums .u8 bs) ++ List.drop (0 + min 32 32 * 1) (nums .u8 (List.replicate 32 0)) = nums .u8 bs from copy32 bs hl.out] at hm2) | (refine wp_row rfl 22 _ rfl (g1 + 1) rfl 22 _ _ _ hm2 m0 ty22 rfl (by rw [hB.out]; exact sz22) ?_) | (refine wp_setrow rfl 22 _ _ rfl g1 rfl 22 _ _ rfl hm2.swap (by rw [hB.out]; exact sz22) (by rw [hB.out, hZ.out]) (One.nums _ _) ?_; intro w3 hm3))
    refine bodyPost_ret (Mm.results_cell_tmp rfl _ g1 22 _ (0, 0) _ rfl hm3 m0 ty22 rfl (by rw [hB.out]; exact sz22)) rfl ⟨by rw [hfa.out]; rfl, hm3.below⟩
  · have hfa : Fact (fromArr bs = List.replicate 32 0) := ⟨by unfold fromArr; rw [if_neg (by rw [hl.out]; exact h32)]⟩
    have hb : Fact ((n == 32) = false) := ⟨by simpa using h32⟩
    have hne : ((n : Int) != 32) = true := by simp; omega
    have hne2 : ((n : Int) == 32) = false := by simp; omega
    go_enter Try.func13, Try.ntmps13
    go_upto_region 2 with (fail)
    have hm := ((Mem.start w).alloc (.cells (nums .u8 (List.replicate 32 0)).toArray 22)).alloc (.cells (nums .u8 (List.replicate 32 0)).toArray 22)
    simp only [World.size_alloc] at hm
    generalize hg1 : w.heap.size = g1 at hm ⊢
    generalize hw1 : (w.alloc (.cells (nums .u8 (List.replicate 32 0)).toArray 22)).alloc (.cells (nums .u8 (List.replicate 32 0)).toArray 22) = w1 at hm
    refine wp_world hw1 ?_
    clear hw1 hg1
    go_wp2_with (first | (refine wp_row rfl 22 _ rfl (g1 + 1) rfl 22 _ _ _ hm m0 ty22 rfl (by rw [hZ.out]; exact sz22) ?_) | (refine wp_setrow rfl 22 _ _ rfl g1 rfl 22 _ _ rfl hm.swap (by rw [hZ.out]; exact sz22) rfl (One.nums _ _) ?_; intro w2 hm2))
    refine bodyPost_ret (Mm.results_cell_tmp rfl _ g1 22 _ (0, 0) _ rfl hm2 m0 ty22 rfl (by rw [hZ.out]; exact sz22)) rfl ⟨by rw [hfa.out, hb.out]; rfl, hm2.below⟩
end Go.Proofs.Ytngdcnpokdogdaa
