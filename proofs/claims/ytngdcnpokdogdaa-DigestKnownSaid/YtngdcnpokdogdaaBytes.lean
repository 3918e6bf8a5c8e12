import Derived.Test.YtngdcnpokdogdaaProg
import Derived.Test.YtngdcnpokdogdaaMem
namespace Go.Proofs.Ytngdcnpokdogdaa
open Go.RowKit Go.Mm
theorem tyB : Try.prog.underlying 5 = some (.int .u8) := by kernel_rfl
theorem infB : (Try.prog.info? 5).map (fun i => (i.zero, i.size, i.bytes)) = some (some (.int .u8 0), 1, 1) := by kernel_rfl
theorem tyBs : Try.prog.underlying 25 = some (.slice 5) := by kernel_rfl
set_option maxHeartbeats 400000 in
set_option maxRecDepth 100000 in
theorem copyBytes_ok (w : World) (A : Option Addr) (n c : Nat) (bs : List Int) (hx : Fact (RdC w 1 (.slice A n c) (nums .u8 bs))) (hn : n ≤ 140737488351232) :
    Calls Try.prog 15 #[.slice A n c] w fun e w' => ∃ A' c', e = .returned (.slice A' n c') ∧ New w w' (Own 1 (.slice A' n c') (nums .u8 bs)) := by
  obtain ⟨i5, hi, hz0, hz1, hz2⟩ := info_parts infB
  go_enter Try.func15, Try.ntmps15
  go_wp2
  go_loopw [3, 4] (fun l v w' => ∃ (k : Nat) (A' : Option Addr) (c' : Nat), v = .int .i64 k ∧ k ≤ n ∧ l = .slice A' k c' ∧ Mem w w' [Own 1 (.slice A' k c') (nums .u8 (bs.take k))]) (fun _ v _ => n - (intOf v).toNat)
  case atStart => exact ⟨0, none, 0, rfl, by omega, rfl, (Mem.start w).nil 1 none⟩
  case round =>
    obtain ⟨k, A', c', rfl, hk, rfl, hm⟩ := hrel
    by_cases hlt : k < n
    · obtain ⟨b, o, rfl, g1, ht⟩ := hx.out.num k hlt
      have g1 := Gr.cell hm.below g1
      have ht := Fact.mk ht
      generalize bs.getD k 0 = x at g1 ht
      go_wp2_with (at_builtin; refine wp_app rfl _ _ _ rfl 5 i5 _ 1 1 tyBs hi hz0 hz1 hz2 rfl A' k c' _ rfl (L := [Blk _ _]) (hm.alloc _).swap _ 1 1 [.int .u8 x] rfl (RdC.lit _ _ _ _ _ rfl (by simp [maxLen]) (One.nums .u8 [x])) (by unfold maxLen; omega) (by omega) ?_; intro A1 c1 w1 HM1)
      go_roundw
      case rel => exact ⟨k + 1, A1, c1, by go_num, by omega, rfl, by rw [ht.out, nums_append]; exact HM1.only⟩
      case measure => simp [intOf]; omega
    · go_wp2
      go_ret
      obtain rfl : k = n := by omega
      have hl := hx.out.nlen
      rw [List.take_of_length_le (by omega)] at hm
      exact ⟨A', c', rfl, hm.new_of⟩
def markB (i : Nat) : Int := 201 + (i % 40 : Nat)
def marksB (k : Nat) : List Int := (List.range k).map markB
theorem marksB_succ (k : Nat) : marksB (k + 1) = marksB k ++ [markB k] := by simp [marksB, List.range_succ]
theorem marksB_length (k : Nat) : (marksB k).length = k := by simp [marksB]
set_option maxHeartbeats 400000 in
set_option maxRecDepth 100000 in
theorem lent_ok (w : World) (A : Option Addr) (n c : Nat) (bs : List Int) (hx : Fact (RdC w 1 (.slice A n c) (nums .u8 bs))) (hn : n ≤ 140737488351232) :
    Calls Try.prog 11 #[.slice A n c] w fun e w' => ∃ A' c', e = .returned (.slice A' (n + 64) c') ∧ New w w' (Own 1 (.slice A' (n + 64) c') (nums .u8 (bs ++ marksB 64))) := by
  obtain ⟨i5, hi, hz0, hz1, hz2⟩ := info_parts infB
  go_enter Try.func11, Try.ntmps11
  go_wp2
  go_loopw [3, 4] (fun l v w' => ∃ (k : Nat) (A' : Option Addr) (c' : Nat), v = .int .i64 k ∧ k ≤ n ∧ l = .slice A' k c' ∧ Mem w w' [Own 1 (.slice A' k c') (nums .u8 (bs.take k))]) (fun _ v _ => n - (intOf v).toNat)
  case atStart => exact ⟨0, none, 0, rfl, by omega, rfl, (Mem.start w).nil 1 none⟩
  case round =>
    obtain ⟨k, A', c', rfl, hk, rfl, hm⟩ := hrel
    by_cases hlt : k < n
    · obtain ⟨b, o, rfl, g1, ht⟩ := hx.out.num k hlt
      have g1 := Gr.cell hm.below g1
      have ht := Fact.mk ht
      generalize bs.getD k 0 = x at g1 ht
      go_wp2_with (at_builtin; refine wp_app rfl _ _ _ rfl 5 i5 _ 1 1 tyBs hi hz0 hz1 hz2 rfl A' k c' _ rfl (L := [Blk _ _]) (hm.alloc _).swap _ 1 1 [.int .u8 x] rfl (RdC.lit _ _ _ _ _ rfl (by simp [maxLen]) (One.nums .u8 [x])) (by unfold maxLen; omega) (by omega) ?_; intro A1 c1 w1 HM1)
      go_roundw
      case rel => exact ⟨k + 1, A1, c1, by go_num, by omega, rfl, by rw [ht.out, nums_append]; exact HM1.only⟩
      case measure => simp [intOf]; omega
    · obtain rfl : k = n := by omega
      have hl := hx.out.nlen
      rw [List.take_of_length_le (by omega)] at hm
      go_wp2
      go_loopw [3, 5] (fun l v w' => ∃ (j : Nat) (A' : Option Addr) (c' : Nat), v = .int .i64 j ∧ j ≤ 64 ∧ l = .slice A' (k + j) c' ∧ Mem w w' [Own 1 (.slice A' (k + j) c') (nums .u8 (bs ++ marksB j))]) (fun _ v _ => 64 - (intOf v).toNat)
      case atStart => exact ⟨0, A', c', rfl, by omega, rfl, by simpa [marksB, nums] using hm⟩
      case round =>
        clear hm hl
        obtain ⟨j, A', c', rfl, hj, rfl, hm⟩ := hrel
        by_cases hlt2 : j < 64
        · have e1 : ((j : Int).tmod 40) = ((j % 40 : Nat) : Int) := by rw [Int.tmod_eq_emod_of_nonneg (by omega)]; omega
          have e2 : (201 + ((j % 40 : Nat) : Int)) % 256 = 201 + ((j % 40 : Nat) : Int) := by omega
          have e3 : IntKind.u8.wrap (201 + ((j % 40 : Nat) : Int)) = 201 + ((j % 40 : Nat) : Int) := IntWalk.u8_in _ (by omega)
          have h1 := One.nums .u8 [201 + ((j % 40 : Nat) : Int)]
          go_wp2_with (at_builtin; refine wp_app rfl _ _ _ rfl 5 i5 _ 1 1 tyBs hi hz0 hz1 hz2 rfl A' (k + j) c' _ rfl (L := [Blk _ _]) (hm.alloc _).swap _ 1 1 [.int .u8 (201 + ((j % 40 : Nat) : Int))] rfl (RdC.lit _ _ _ _ _ rfl (by simp [maxLen]) h1) (by unfold maxLen; omega) (by omega) ?_; intro A1 c1 w1 HM1)
          go_roundw
          case rel => exact ⟨j + 1, A1, c1, by go_num, by omega, rfl, by rw [marksB_succ, ← List.append_assoc, nums_append]; exact HM1.only⟩
          case measure => simp [intOf]; omega
        · go_wp2
          go_ret
          obtain rfl : j = 64 := by omega
          exact ⟨A', c', rfl, hm.new_of⟩
/-- What Kept asks is so: a list, and the same with the marks behind it. -/
theorem kept_ok (w : World) (A : Option Addr) (n c : Nat) (B : Option Addr) (d : Nat) (bs : List Int) (hx : Fact (RdC w 1 (.slice A (n + 64) c) (nums .u8 (bs ++ marksB 64)))) (hy : Fact (RdC w 1 (.slice B n d) (nums .u8 bs))) (hn : n ≤ 140737488351232) :
    Calls Try.prog 14 #[.slice A (n + 64) c, .slice B n d] w fun e w' => e = .returned (.bool true) ∧ Gr w w' := by
  have hl := Fact.mk hy.out.nlen
  have hne : (((n + 64 : Nat) : Int) != (n : Int) + 64) = false := by simp
  go_enter Try.func14, Try.ntmps14
  go_wp2
  go_loopw [5] (fun v w' => ∃ (k : Nat), v = .int .i64 k ∧ k ≤ n + 64 ∧ Gr w w') (fun v _ => n + 64 - (intOf v).toNat)
  case atStart => exact ⟨0, rfl, by omega, Gr.refl _⟩
  case round =>
    clear hne
    obtain ⟨k, rfl, hk, hg⟩ := hrel
    by_cases hlt : k < n + 64
    · obtain ⟨b, o, rfl, g1, _⟩ := hx.out.num k hlt
      have g1 := hg.cell g1
      by_cases hin : k < n
      · obtain ⟨b2, o2, rfl, g2, _⟩ := hy.out.num k hin
        have g2 := hg.cell g2
        have e1 : (bs ++ marksB 64).getD k 0 = bs.getD k 0 := by simp [List.getD_eq_getElem?_getD, List.getElem?_append, show k < bs.length by have := hl.out; omega]
        rw [e1] at g1
        clear e1
        generalize bs.getD k 0 = x at g1 g2
        go_wp2
        go_roundw
        case rel => exact ⟨k + 1, by go_num, by omega, hg⟩
        case measure => simp [intOf]; omega
      · obtain ⟨j, rfl⟩ : ∃ j, k = n + j := ⟨k - n, by omega⟩
        have e0 : (bs ++ marksB 64).getD (n + j) 0 = 201 + ((j % 40 : Nat) : Int) := by
          rw [List.getD_eq_getElem?_getD, List.getElem?_append_right (by rw [hl.out]; omega), hl.out, Nat.add_sub_cancel_left]
          simp [marksB, markB, show j < 64 by omega]
        rw [e0] at g1
        clear e0
        have e1 : ((j : Int).tmod 40) = ((j % 40 : Nat) : Int) := by rw [Int.tmod_eq_emod_of_nonneg (by omega)]; omega
        have e2 : (201 + ((j % 40 : Nat) : Int)) % 256 = 201 + ((j % 40 : Nat) : Int) := by omega
        have e3 : IntKind.u8.wrap (201 + ((j % 40 : Nat) : Int)) = 201 + ((j % 40 : Nat) : Int) := IntWalk.u8_in _ (by omega)
        have e4 : (n : Int) + (j : Int) - (n : Int) = (j : Int) := by omega
        go_wp2
        go_roundw
        case rel => exact ⟨n + j + 1, by go_num, by omega, hg⟩
        case measure => simp [intOf]; omega
    · go_wp2
      go_ret
      exact ⟨rfl, hg⟩
end Go.Proofs.Ytngdcnpokdogdaa
