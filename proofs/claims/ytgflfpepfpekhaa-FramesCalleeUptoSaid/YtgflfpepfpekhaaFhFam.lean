import Derived.Test.YtgflfpepfpekhaaFh
namespace Go.Proofs.Ytgflfpepfpekhaa
open Go.RowKit Go.Mm
set_option maxHeartbeats 400000
set_option maxRecDepth 100000
theorem ty_Is : Try.prog.underlying 84 = some (.slice 171) := by kernel_rfl
theorem inf_I : (Try.prog.info? 171).map (fun i => (i.zero, i.size, i.bytes)) = some (some (.agg #[.int .i64 0, .int .i64 0]), 2, 16) := by kernel_rfl
theorem sz_I : (Try.prog.info? 171).map (·.size) = some 2 := by kernel_rfl
theorem ty_Hs : Try.prog.underlying 85 = some (.slice 145) := by kernel_rfl
theorem inf_H : (Try.prog.info? 145).map (fun i => (i.zero, i.size, i.bytes)) = some (some (.agg #[.int .i64 0, .int .i64 0, .int .i64 0, .int .i64 0]), 4, 32) := by kernel_rfl
theorem sz_H : (Try.prog.info? 145).map (·.size) = some 4 := by kernel_rfl
/-- Two lists that are the same. -/
theorem sameValues_ok (w : World) (A B : Option Addr) (n c d : Nat) (xs : List V2) (hx : Fact (RdC w 2 (.slice A n c) (fV xs))) (hy : Fact (RdC w 2 (.slice B n d) (fV xs))) (hn : n ≤ 16777216) :
    Calls Try.prog 48 #[.slice A n c, .slice B n d] w fun e w' => e = .returned (.bool true) ∧ Gr w w' := by
  have hl := Fact.mk (rdV_len hx.out)
  go_enter Try.func48, Try.ntmps48
  go_wp2
  go_loopw [5] (fun v w' => ∃ (k : Nat), v = .int .i64 k ∧ k ≤ n ∧ ∃ m, w' = w.drewN m) (fun v _ => n - (intOf v).toNat)
  case atStart => exact ⟨0, rfl, by omega, 0, rfl⟩
  case round =>
    obtain ⟨k, rfl, hk, m, rfl⟩ := hrel
    by_cases hlt : k < n
    · obtain ⟨b, o, rfl, g1, g2, ht, _⟩ := rdV_at hx.out k hlt
      obtain ⟨bb, ob, rfl, g1b, g2b, htb, _⟩ := rdV_at hy.out k hlt
      generalize xs.getD k (0, 0) = x at g1 g2 g1b g2b ht htb
      clear ht htb
      go_upto_region 6 with (fail)
      go_quiet (fail)
      go_wp2
      go_roundw
      case rel => exact ⟨k + 1, by go_num, by omega, _, rfl⟩
      case measure => simp [intOf]; omega
    · go_wp2
      go_ret
      exact ⟨rfl, (Gr.refl _).drewN _⟩
/-- Two lists that are the same. -/
theorem sameInstrs_ok (w : World) (A B : Option Addr) (n c d : Nat) (xs : List V2) (hx : Fact (RdC w 2 (.slice A n c) (fV xs))) (hy : Fact (RdC w 2 (.slice B n d) (fV xs))) (hn : n ≤ 16777216) :
    Calls Try.prog 76 #[.slice A n c, .slice B n d] w fun e w' => e = .returned (.bool true) ∧ Gr w w' := by
  have hl := Fact.mk (rdV_len hx.out)
  go_enter Try.func76, Try.ntmps76
  go_wp2
  go_loopw [5] (fun v w' => ∃ (k : Nat), v = .int .i64 k ∧ k ≤ n ∧ ∃ m, w' = w.drewN m) (fun v _ => n - (intOf v).toNat)
  case atStart => exact ⟨0, rfl, by omega, 0, rfl⟩
  case round =>
    obtain ⟨k, rfl, hk, m, rfl⟩ := hrel
    by_cases hlt : k < n
    · obtain ⟨b, o, rfl, g1, g2, ht, _⟩ := rdV_at hx.out k hlt
      obtain ⟨bb, ob, rfl, g1b, g2b, htb, _⟩ := rdV_at hy.out k hlt
      generalize xs.getD k (0, 0) = x at g1 g2 g1b g2b ht htb
      clear ht htb
      go_upto_region 6 with (fail)
      go_quiet (fail)
      go_wp2
      go_roundw
      case rel => exact ⟨k + 1, by go_num, by omega, _, rfl⟩
      case measure => simp [intOf]; omega
    · go_wp2
      go_ret
      exact ⟨rfl, (Gr.refl _).drewN _⟩
/-- Two lists that are the same. -/
theorem sameHandlers_ok (w : World) (A B : Option Addr) (n c d : Nat) (xs : List H4) (hx : Fact (RdC w 4 (.slice A n c) (fH xs))) (hy : Fact (RdC w 4 (.slice B n d) (fH xs))) (hn : n ≤ 16777216) :
    Calls Try.prog 77 #[.slice A n c, .slice B n d] w fun e w' => e = .returned (.bool true) ∧ Gr w w' := by
  have hl := Fact.mk (rdH_len hx.out)
  go_enter Try.func77, Try.ntmps77
  go_wp2
  go_loopw [5] (fun v w' => ∃ (k : Nat), v = .int .i64 k ∧ k ≤ n ∧ ∃ m, w' = w.drewN m) (fun v _ => n - (intOf v).toNat)
  case atStart => exact ⟨0, rfl, by omega, 0, rfl⟩
  case round =>
    obtain ⟨k, rfl, hk, m, rfl⟩ := hrel
    by_cases hlt : k < n
    · obtain ⟨b, o, rfl, g1, g2, g3, g4, ht, _⟩ := rdH_at hx.out k hlt
      obtain ⟨bb, ob, rfl, g1b, g2b, g3b, g4b, htb, _⟩ := rdH_at hy.out k hlt
      generalize xs.getD k (0, 0, 0, 0) = x at g1 g2 g3 g4 g1b g2b g3b g4b ht htb
      clear ht htb
      go_upto_region 6 with (fail)
      go_quiet (fail)
      go_wp2
      go_roundw
      case rel => exact ⟨k + 1, by go_num, by omega, _, rfl⟩
      case measure => simp [intOf]; omega
    · go_wp2
      go_ret
      exact ⟨rfl, (Gr.refl _).drewN _⟩
def marksI (k : Nat) : List V2 := (List.range k).map fun (i : Nat) => (-7, (i : Int))
theorem marksI_succ (k : Nat) : marksI (k + 1) = marksI k ++ [(-7, (k : Int))] := by simp [marksI, List.range_succ]
theorem marksI_length (k : Nat) : (marksI k).length = k := by simp [marksI]
/-- The same list in memory of its own, with marks behind it. -/
theorem fullInstrs_ok (w : World) (A : Option Addr) (n c : Nat) (xs : List V2) (hx : Fact (RdC w 2 (.slice A n c) (fV xs))) (hn : n ≤ 4194304) :
    Calls Try.prog 72 #[.slice A n c] w fun e w' => ∃ A' c', e = .returned (.slice A' (n + 64) c') ∧ New w w' (Own 2 (.slice A' (n + 64) c') (fV (xs ++ marksI 64))) := by
  obtain ⟨iV, hi, hz0, hz1, hz2⟩ := info_parts inf_I
  go_enter Try.func72, Try.ntmps72
  go_wp2
  go_loopw [3, 4] (fun l v w' => ∃ (k : Nat) (A' : Option Addr) (c' : Nat), v = .int .i64 k ∧ k ≤ n ∧ l = .slice A' k c' ∧ Mem w w' [Own 2 (.slice A' k c') (fV (xs.take k))]) (fun _ v _ => n - (intOf v).toNat)
  case atStart => exact ⟨0, none, 0, rfl, by omega, rfl, (Mem.start w).nil 2 none⟩
  case round =>
    obtain ⟨k, A', c', rfl, hk, rfl, hm⟩ := hrel
    by_cases hlt : k < n
    · obtain ⟨b, o, rfl, g1, g2, ht, _⟩ := rdV_at hx.out k hlt
      have g1 := Gr.cell hm.below g1
      have g2 := Gr.cell hm.below g2
      have ht := Fact.mk ht
      generalize xs.getD k (0, 0) = x at g1 g2 ht
      go_wp2_with (at_builtin; refine wp_app rfl _ _ _ rfl 171 iV _ 2 16 ty_Is hi hz0 hz1 hz2 rfl A' k c' _ rfl (L := [Blk _ _]) (hm.alloc _).swap _ 1 1 (cV x) rfl (RdC.lit _ _ _ _ _ rfl (by simp [maxLen]) (cV_one x)) (by unfold maxLen; omega) (by omega) ?_; intro A1 c1 w1 HM1)
      go_roundw
      case rel => exact ⟨k + 1, A1, c1, by go_num, by omega, rfl, by rw [ht.out, fV_app]; exact HM1.only⟩
      case measure => simp [intOf]; omega
    · obtain rfl : k = n := by omega
      have hl := rdV_len hx.out
      rw [List.take_of_length_le (by omega)] at hm
      go_wp2
      go_loopw [3, 5] (fun l v w' => ∃ (j : Nat) (A' : Option Addr) (c' : Nat), v = .int .i64 j ∧ j ≤ 64 ∧ l = .slice A' (k + j) c' ∧ Mem w w' [Own 2 (.slice A' (k + j) c') (fV (xs ++ marksI j))]) (fun _ v _ => 64 - (intOf v).toNat)
      case atStart => exact ⟨0, A', c', rfl, by omega, rfl, by simpa [marksI] using hm⟩
      case round =>
        clear hm hl
        obtain ⟨j, A', c', rfl, hj, rfl, hm⟩ := hrel
        by_cases hlt2 : j < 64
        · go_wp2_with (at_builtin; refine wp_app rfl _ _ _ rfl 171 iV _ 2 16 ty_Is hi hz0 hz1 hz2 rfl A' (k + j) c' _ rfl (L := [Blk _ _]) (hm.alloc _).swap _ 1 1 [.int .i64 (-7), .int .i64 (j : Int)] rfl (RdC.lit _ _ _ _ _ rfl (by simp [maxLen]) (cV_one (-7, (j : Int)))) (by unfold maxLen; omega) (by omega) ?_; intro A1 c1 w1 HM1)
          go_roundw
          case rel => exact ⟨j + 1, A1, c1, by go_num, by omega, rfl, by rw [marksI_succ, ← List.append_assoc, fV_app]; exact HM1.only⟩
          case measure => simp [intOf]; omega
        · go_wp2
          go_ret
          obtain rfl : j = 64 := by omega
          exact ⟨A', c', rfl, hm.new_of⟩
def marksH (k : Nat) : List H4 := (List.range k).map fun (i : Nat) => (-7, (i : Int), 0, 0)
theorem marksH_succ (k : Nat) : marksH (k + 1) = marksH k ++ [(-7, (k : Int), 0, 0)] := by simp [marksH, List.range_succ]
theorem marksH_length (k : Nat) : (marksH k).length = k := by simp [marksH]
/-- The same list in memory of its own, with marks behind it. -/
theorem fullHandlers_ok (w : World) (A : Option Addr) (n c : Nat) (xs : List H4) (hx : Fact (RdC w 4 (.slice A n c) (fH xs))) (hn : n ≤ 4194304) :
    Calls Try.prog 73 #[.slice A n c] w fun e w' => ∃ A' c', e = .returned (.slice A' (n + 64) c') ∧ New w w' (Own 4 (.slice A' (n + 64) c') (fH (xs ++ marksH 64))) := by
  obtain ⟨iV, hi, hz0, hz1, hz2⟩ := info_parts inf_H
  go_enter Try.func73, Try.ntmps73
  go_wp2
  go_loopw [3, 4] (fun l v w' => ∃ (k : Nat) (A' : Option Addr) (c' : Nat), v = .int .i64 k ∧ k ≤ n ∧ l = .slice A' k c' ∧ Mem w w' [Own 4 (.slice A' k c') (fH (xs.take k))]) (fun _ v _ => n - (intOf v).toNat)
  case atStart => exact ⟨0, none, 0, rfl, by omega, rfl, (Mem.start w).nil 4 none⟩
  case round =>
    obtain ⟨k, A', c', rfl, hk, rfl, hm⟩ := hrel
    by_cases hlt : k < n
    · obtain ⟨b, o, rfl, g1, g2, g3, g4, ht, _⟩ := rdH_at hx.out k hlt
      have g1 := Gr.cell hm.below g1
      have g2 := Gr.cell hm.below g2
      have g3 := Gr.cell hm.below g3
      have g4 := Gr.cell hm.below g4
      have ht := Fact.mk ht
      generalize xs.getD k (0, 0, 0, 0) = x at g1 g2 g3 g4 ht
      go_wp2_with (at_builtin; refine wp_app rfl _ _ _ rfl 145 iV _ 4 32 ty_Hs hi hz0 hz1 hz2 rfl A' k c' _ rfl (L := [Blk _ _]) (hm.alloc _).swap _ 1 1 (cH x) rfl (RdC.lit _ _ _ _ _ rfl (by simp [maxLen]) (cH_one x)) (by unfold maxLen; omega) (by omega) ?_; intro A1 c1 w1 HM1)
      go_roundw
      case rel => exact ⟨k + 1, A1, c1, by go_num, by omega, rfl, by rw [ht.out, fH_app]; exact HM1.only⟩
      case measure => simp [intOf]; omega
    · obtain rfl : k = n := by omega
      have hl := rdH_len hx.out
      rw [List.take_of_length_le (by omega)] at hm
      go_wp2
      go_loopw [3, 5] (fun l v w' => ∃ (j : Nat) (A' : Option Addr) (c' : Nat), v = .int .i64 j ∧ j ≤ 64 ∧ l = .slice A' (k + j) c' ∧ Mem w w' [Own 4 (.slice A' (k + j) c') (fH (xs ++ marksH j))]) (fun _ v _ => 64 - (intOf v).toNat)
      case atStart => exact ⟨0, A', c', rfl, by omega, rfl, by simpa [marksH] using hm⟩
      case round =>
        clear hm hl
        obtain ⟨j, A', c', rfl, hj, rfl, hm⟩ := hrel
        by_cases hlt2 : j < 64
        · go_wp2_with (at_builtin; refine wp_app rfl _ _ _ rfl 145 iV _ 4 32 ty_Hs hi hz0 hz1 hz2 rfl A' (k + j) c' _ rfl (L := [Blk _ _]) (hm.alloc _).swap _ 1 1 [.int .i64 (-7), .int .i64 (j : Int), .int .i64 0, .int .i64 0] rfl (RdC.lit _ _ _ _ _ rfl (by simp [maxLen]) (cH_one (-7, (j : Int), 0, 0))) (by unfold maxLen; omega) (by omega) ?_; intro A1 c1 w1 HM1)
          go_roundw
          case rel => exact ⟨j + 1, A1, c1, by go_num, by omega, rfl, by rw [marksH_succ, ← List.append_assoc, fH_app]; exact HM1.only⟩
          case measure => simp [intOf]; omega
        · go_wp2
          go_ret
          obtain rfl : j = 64 := by omega
          exact ⟨A', c', rfl, hm.new_of⟩
end Go.Proofs.Ytgflfpepfpekhaa
