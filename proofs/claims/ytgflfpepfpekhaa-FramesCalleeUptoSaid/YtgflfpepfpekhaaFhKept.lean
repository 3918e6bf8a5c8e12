import Derived.Test.YtgflfpepfpekhaaFhFam
import Derived.Test.YtgflfpepfpekhaaRng
namespace Go.Proofs.Ytgflfpepfpekhaa
open Go.RowKit Go.Mm
set_option maxHeartbeats 400000
set_option maxRecDepth 100000
theorem row_V : (Try.prog.underlying 41).map (·.isRow) = some true := by kernel_rfl
theorem marksV_at (xs : List V2) (n j : Nat) (hn : xs.length = n) (hj : j < 64) : (xs ++ marksV 64).getD (n + j) (0, 0) = (-9, (j : Int)) := by
  rw [List.getD_eq_getElem?_getD, List.getElem?_append_right (by omega), hn, Nat.add_sub_cancel_left]
  simp [marksV, hj, markV]
/-- What is asked is so: a list, and the same with the marks behind it. -/
theorem keptValues_ok (w : World) (A : Option Addr) (n c : Nat) (B : Option Addr) (d : Nat) (xs : List V2) (hx : Fact (RdC w 2 (.slice A (n + 64) c) (fV (xs ++ marksV 64)))) (hy : Fact (RdC w 2 (.slice B n d) (fV xs))) (hn : n ≤ 4194304) :
    Calls Try.prog 19 #[.slice A (n + 64) c, .slice B n d] w fun e w' => e = .returned (.bool true) ∧ Gr w w' := by
  have hl := Fact.mk (rdV_len hy.out)
  have hne : (((n + 64 : Nat) : Int) != (n : Int) + 64) = false := by simp
  go_enter Try.func19, Try.ntmps19
  go_wp2
  go_loopw [5] (fun v w' => ∃ (k : Nat), v = .int .i64 k ∧ k ≤ n + 64 ∧ Gr w w') (fun v _ => n + 64 - (intOf v).toNat)
  case atStart => exact ⟨0, rfl, by omega, Gr.refl _⟩
  case round =>
    clear hne
    obtain ⟨k, rfl, hk, hg⟩ := hrel
    by_cases hlt : k < n + 64
    · obtain ⟨b, o, rfl, r1, _, _⟩ := rd_at cV_len (by omega) (0, 0) hx.out k hlt
      have r1 := rng_gr r1 hg
      by_cases hin : k < n
      · obtain ⟨bb, ob, rfl, r2, _, _⟩ := rd_at cV_len (by omega) (0, 0) hy.out k hin
        have r2 := rng_gr r2 hg
        have e1 : (xs ++ marksV 64).getD k (0, 0) = xs.getD k (0, 0) := by simp [List.getD_eq_getElem?_getD, List.getElem?_append, show k < xs.length by have := hl.out; omega]
        rw [e1] at r1
        clear e1
        generalize xs.getD k (0, 0) = x at r1 r2
        go_upto_region 8 with (fail)
        have hm := (Mem.start wr).alloc (.cells [.int .i64 (-9), .int .i64 ((k : Int) - (n : Int))].toArray 41)
        generalize hg1 : wr.heap.size = g0 at hm ⊢
        generalize hw1 : wr.alloc (.cells [.int .i64 (-9), .int .i64 ((k : Int) - (n : Int))].toArray 41) = w1 at hm
        clear hw1 hg1
        have r1 := Fact.mk r1
        have r2 := Fact.mk (rng_gr r2 hm.below)
        go_upto_region 9 with (first | (refine wp_rng rfl 41 _ rfl bb _ rfl (cV x) r2.out row_V sz_V ?_) | (refine wp_setrow rfl 41 _ _ rfl g0 rfl 41 _ (cV x) rfl hm sz_V rfl (cV_one x) ?_; intro w2 hm2))
        have g1 := Gr.cell hm2.below (r1.out 0 _ rfl)
        have g1b := hm2.cell m0 0 rfl
        have g2 := Gr.cell hm2.below (r1.out 1 _ rfl)
        have g2b := hm2.cell m0 1 rfl
        simp only [Nat.add_zero] at g1
        have hgr := hg.trans hm2.below
        clear r1 r2 hm hm2
        go_quiet (fail)
        go_wp2
        go_roundw
        case rel => exact ⟨k + 1, by go_num, by omega, Gr.drewN hgr _⟩
        case measure => simp [intOf]; omega
      · obtain ⟨j, rfl⟩ : ∃ j, k = n + j := ⟨k - n, by omega⟩
        rw [marksV_at xs n j hl.out (by omega)] at r1
        have e4 : ((n + j : Nat) : Int) - (n : Int) = (j : Int) := by omega
        have e5 : (n : Int) + (j : Int) - (n : Int) = (j : Int) := by omega
        go_upto_region 9 with (fail)
        have hm := (Mem.start wr).alloc (.cells [.int .i64 (-9), .int .i64 (j : Int)].toArray 41)
        generalize hg1 : wr.heap.size = g0 at hm ⊢
        generalize hw1 : wr.alloc (.cells [.int .i64 (-9), .int .i64 (j : Int)].toArray 41) = w1 at hm
        try refine wp_world hw1 ?_
        clear hw1 hg1
        have g1 := Gr.cell hm.below (r1 0 _ rfl)
        have g1b := hm.cell m0 0 rfl
        have g2 := Gr.cell hm.below (r1 1 _ rfl)
        have g2b := hm.cell m0 1 rfl
        simp only [Nat.add_zero] at g1
        have hgr := hg.trans hm.below
        clear r1 hm
        go_quiet (fail)
        go_wp2
        go_roundw
        case rel => exact ⟨n + j + 1, by go_num, by omega, Gr.drewN hgr _⟩
        case measure => simp [intOf]; omega
    · go_wp2
      go_ret
      exact ⟨rfl, hg⟩
theorem row_I : (Try.prog.underlying 171).map (·.isRow) = some true := by kernel_rfl
theorem szi : (Try.prog.info? 171).map (·.size) = some 2 := by kernel_rfl
theorem row_H : (Try.prog.underlying 145).map (·.isRow) = some true := by kernel_rfl
theorem szh : (Try.prog.info? 145).map (·.size) = some 4 := by kernel_rfl
theorem marksI_at (xs : List V2) (n j : Nat) (hn : xs.length = n) (hj : j < 64) : (xs ++ marksI 64).getD (n + j) (0, 0) = (-7, (j : Int)) := by
  rw [List.getD_eq_getElem?_getD, List.getElem?_append_right (by omega), hn, Nat.add_sub_cancel_left]
  simp [marksI, hj, markV]
/-- What is asked is so: a list, and the same with the marks behind it. -/
theorem keptInstrs_ok (w : World) (A : Option Addr) (n c : Nat) (B : Option Addr) (d : Nat) (xs : List V2) (hx : Fact (RdC w 2 (.slice A (n + 64) c) (fV (xs ++ marksI 64)))) (hy : Fact (RdC w 2 (.slice B n d) (fV xs))) (hn : n ≤ 4194304) :
    Calls Try.prog 78 #[.slice A (n + 64) c, .slice B n d] w fun e w' => e = .returned (.bool true) ∧ Gr w w' := by
  have hl := Fact.mk (rdV_len hy.out)
  have hne : (((n + 64 : Nat) : Int) != (n : Int) + 64) = false := by simp
  go_enter Try.func78, Try.ntmps78
  go_wp2
  go_loopw [5] (fun v w' => ∃ (k : Nat), v = .int .i64 k ∧ k ≤ n + 64 ∧ Gr w w') (fun v _ => n + 64 - (intOf v).toNat)
  case atStart => exact ⟨0, rfl, by omega, Gr.refl _⟩
  case round =>
    clear hne
    obtain ⟨k, rfl, hk, hg⟩ := hrel
    by_cases hlt : k < n + 64
    · obtain ⟨b, o, rfl, r1, _, _⟩ := rd_at cV_len (by omega) (0, 0) hx.out k hlt
      have r1 := rng_gr r1 hg
      by_cases hin : k < n
      · obtain ⟨bb, ob, rfl, r2, _, _⟩ := rd_at cV_len (by omega) (0, 0) hy.out k hin
        have r2 := rng_gr r2 hg
        have e1 : (xs ++ marksI 64).getD k (0, 0) = xs.getD k (0, 0) := by simp [List.getD_eq_getElem?_getD, List.getElem?_append, show k < xs.length by have := hl.out; omega]
        rw [e1] at r1
        clear e1
        generalize xs.getD k (0, 0) = x at r1 r2
        go_upto_region 8 with (fail)
        have hm := (Mem.start wr).alloc (.cells [.int .i64 (-7), .int .i64 ((k : Int) - (n : Int))].toArray 171)
        generalize hg1 : wr.heap.size = g0 at hm ⊢
        generalize hw1 : wr.alloc (.cells [.int .i64 (-7), .int .i64 ((k : Int) - (n : Int))].toArray 171) = w1 at hm
        clear hw1 hg1
        have r1 := Fact.mk r1
        have r2 := Fact.mk (rng_gr r2 hm.below)
        go_upto_region 9 with (first | (refine wp_rng rfl 171 _ rfl bb _ rfl (cV x) r2.out row_I szi ?_) | (refine wp_setrow rfl 171 _ _ rfl g0 rfl 171 _ (cV x) rfl hm szi rfl (cV_one x) ?_; intro w2 hm2))
        have g1 := Gr.cell hm2.below (r1.out 0 _ rfl)
        have g1b := hm2.cell m0 0 rfl
        have g2 := Gr.cell hm2.below (r1.out 1 _ rfl)
        have g2b := hm2.cell m0 1 rfl
        simp only [Nat.add_zero] at g1
        have hgr := hg.trans hm2.below
        clear r1 r2 hm hm2
        go_quiet (fail)
        go_wp2
        go_roundw
        case rel => exact ⟨k + 1, by go_num, by omega, Gr.drewN hgr _⟩
        case measure => simp [intOf]; omega
      · obtain ⟨j, rfl⟩ : ∃ j, k = n + j := ⟨k - n, by omega⟩
        rw [marksI_at xs n j hl.out (by omega)] at r1
        have e4 : ((n + j : Nat) : Int) - (n : Int) = (j : Int) := by omega
        have e5 : (n : Int) + (j : Int) - (n : Int) = (j : Int) := by omega
        go_upto_region 9 with (fail)
        have hm := (Mem.start wr).alloc (.cells [.int .i64 (-7), .int .i64 (j : Int)].toArray 171)
        generalize hg1 : wr.heap.size = g0 at hm ⊢
        generalize hw1 : wr.alloc (.cells [.int .i64 (-7), .int .i64 (j : Int)].toArray 171) = w1 at hm
        try refine wp_world hw1 ?_
        clear hw1 hg1
        have g1 := Gr.cell hm.below (r1 0 _ rfl)
        have g1b := hm.cell m0 0 rfl
        have g2 := Gr.cell hm.below (r1 1 _ rfl)
        have g2b := hm.cell m0 1 rfl
        simp only [Nat.add_zero] at g1
        have hgr := hg.trans hm.below
        clear r1 hm
        go_quiet (fail)
        go_wp2
        go_roundw
        case rel => exact ⟨n + j + 1, by go_num, by omega, Gr.drewN hgr _⟩
        case measure => simp [intOf]; omega
    · go_wp2
      go_ret
      exact ⟨rfl, hg⟩
theorem marksH_at (xs : List H4) (n j : Nat) (hn : xs.length = n) (hj : j < 64) : (xs ++ marksH 64).getD (n + j) (0, 0, 0, 0) = (-7, (j : Int), 0, 0) := by
  rw [List.getD_eq_getElem?_getD, List.getElem?_append_right (by omega), hn, Nat.add_sub_cancel_left]
  simp [marksH, hj, markV]
/-- What is asked is so: a list, and the same with the marks behind it. -/
theorem keptHandlers_ok (w : World) (A : Option Addr) (n c : Nat) (B : Option Addr) (d : Nat) (xs : List H4) (hx : Fact (RdC w 4 (.slice A (n + 64) c) (fH (xs ++ marksH 64)))) (hy : Fact (RdC w 4 (.slice B n d) (fH xs))) (hn : n ≤ 4194304) :
    Calls Try.prog 79 #[.slice A (n + 64) c, .slice B n d] w fun e w' => e = .returned (.bool true) ∧ Gr w w' := by
  have hl := Fact.mk (rdH_len hy.out)
  have hne : (((n + 64 : Nat) : Int) != (n : Int) + 64) = false := by simp
  go_enter Try.func79, Try.ntmps79
  go_wp2
  go_loopw [5] (fun v w' => ∃ (k : Nat), v = .int .i64 k ∧ k ≤ n + 64 ∧ Gr w w') (fun v _ => n + 64 - (intOf v).toNat)
  case atStart => exact ⟨0, rfl, by omega, Gr.refl _⟩
  case round =>
    clear hne
    obtain ⟨k, rfl, hk, hg⟩ := hrel
    by_cases hlt : k < n + 64
    · obtain ⟨b, o, rfl, r1, _, _⟩ := rd_at cH_len (by omega) (0, 0, 0, 0) hx.out k hlt
      have r1 := rng_gr r1 hg
      by_cases hin : k < n
      · obtain ⟨bb, ob, rfl, r2, _, _⟩ := rd_at cH_len (by omega) (0, 0, 0, 0) hy.out k hin
        have r2 := rng_gr r2 hg
        have e1 : (xs ++ marksH 64).getD k (0, 0, 0, 0) = xs.getD k (0, 0, 0, 0) := by simp [List.getD_eq_getElem?_getD, List.getElem?_append, show k < xs.length by have := hl.out; omega]
        rw [e1] at r1
        clear e1
        generalize xs.getD k (0, 0, 0, 0) = x at r1 r2
        go_upto_region 8 with (fail)
        have hm := (Mem.start wr).alloc (.cells [.int .i64 (-7), .int .i64 ((k : Int) - (n : Int)), .int .i64 0, .int .i64 0].toArray 145)
        generalize hg1 : wr.heap.size = g0 at hm ⊢
        generalize hw1 : wr.alloc (.cells [.int .i64 (-7), .int .i64 ((k : Int) - (n : Int)), .int .i64 0, .int .i64 0].toArray 145) = w1 at hm
        clear hw1 hg1
        have r1 := Fact.mk r1
        have r2 := Fact.mk (rng_gr r2 hm.below)
        go_upto_region 9 with (first | (refine wp_rng rfl 145 _ rfl bb _ rfl (cH x) r2.out row_H szh ?_) | (refine wp_setrow rfl 145 _ _ rfl g0 rfl 145 _ (cH x) rfl hm szh rfl (cH_one x) ?_; intro w2 hm2))
        have g1 := Gr.cell hm2.below (r1.out 0 _ rfl)
        have g1b := hm2.cell m0 0 rfl
        have g2 := Gr.cell hm2.below (r1.out 1 _ rfl)
        have g2b := hm2.cell m0 1 rfl
        have g3 := Gr.cell hm2.below (r1.out 2 _ rfl)
        have g3b := hm2.cell m0 2 rfl
        have g4 := Gr.cell hm2.below (r1.out 3 _ rfl)
        have g4b := hm2.cell m0 3 rfl
        simp only [Nat.add_zero] at g1
        have hgr := hg.trans hm2.below
        clear r1 r2 hm hm2
        go_quiet (fail)
        go_wp2
        go_roundw
        case rel => exact ⟨k + 1, by go_num, by omega, Gr.drewN hgr _⟩
        case measure => simp [intOf]; omega
      · obtain ⟨j, rfl⟩ : ∃ j, k = n + j := ⟨k - n, by omega⟩
        rw [marksH_at xs n j hl.out (by omega)] at r1
        have e4 : ((n + j : Nat) : Int) - (n : Int) = (j : Int) := by omega
        have e5 : (n : Int) + (j : Int) - (n : Int) = (j : Int) := by omega
        go_upto_region 9 with (fail)
        have hm := (Mem.start wr).alloc (.cells [.int .i64 (-7), .int .i64 (j : Int), .int .i64 0, .int .i64 0].toArray 145)
        generalize hg1 : wr.heap.size = g0 at hm ⊢
        generalize hw1 : wr.alloc (.cells [.int .i64 (-7), .int .i64 (j : Int), .int .i64 0, .int .i64 0].toArray 145) = w1 at hm
        try refine wp_world hw1 ?_
        clear hw1 hg1
        have g1 := Gr.cell hm.below (r1 0 _ rfl)
        have g1b := hm.cell m0 0 rfl
        have g2 := Gr.cell hm.below (r1 1 _ rfl)
        have g2b := hm.cell m0 1 rfl
        have g3 := Gr.cell hm.below (r1 2 _ rfl)
        have g3b := hm.cell m0 2 rfl
        have g4 := Gr.cell hm.below (r1 3 _ rfl)
        have g4b := hm.cell m0 3 rfl
        simp only [Nat.add_zero] at g1
        have hgr := hg.trans hm.below
        clear r1 hm
        go_quiet (fail)
        go_wp2
        go_roundw
        case rel => exact ⟨n + j + 1, by go_num, by omega, Gr.drewN hgr _⟩
        case measure => simp [intOf]; omega
    · go_wp2
      go_ret
      exact ⟨rfl, hg⟩
end Go.Proofs.Ytgflfpepfpekhaa
