/- The digest of bytes, in the reference. -/
import Derived.Test.YtngdcnpokdogdaaDigEnd
namespace Go.Proofs.Ytngdcnpokdogdaa
open Go.RowKit Go.Mm Go.Sh
set_option maxHeartbeats 4000000
set_option maxRecDepth 100000
theorem padded_ok (w : World) (bs : List Int) (A : Option Addr) (m c : Nat) (hr : Fact (RdC w 1 (.slice A m c) (nums .u8 bs))) (hn : m ≤ 140737488351232) :
    Calls Try.prog 25 #[.slice A m c] w fun E w' => ∃ A' q c', E = .returned (.slice A' q c') ∧ New w w' (Own 1 (.slice A' q c') (nums .u8 (padded bs))) := by
  obtain ⟨i5, hi, hz0, hz1, hz2⟩ := info_parts infB
  have hl := Fact.mk hr.out.nlen
  go_enter Try.func25, Try.ntmps25
  go_wp2
  go_loopw [3, 4] (fun l v W => ∃ (k : Nat) (A' : Option Addr) (c' : Nat), v = .int .i64 k ∧ k ≤ m ∧ l = .slice A' k c' ∧ Mem w W [Own 1 (.slice A' k c') (nums .u8 (bs.take k))]) (fun _ v _ => m - (intOf v).toNat)
  case atStart => exact ⟨0, none, 0, rfl, by omega, rfl, (Mem.start w).nil 1 none⟩
  case round =>
    obtain ⟨k, A', c', rfl, hk, rfl, hm⟩ := hrel
    by_cases hlt : k < m
    · obtain ⟨b, o, rfl, g1, ht⟩ := hr.out.num k hlt
      have g1 := Gr.cell hm.below g1
      have ht := Fact.mk ht
      generalize bs.getD k 0 = x at g1 ht
      go_wp2_with (at_builtin; refine wp_app rfl _ _ _ rfl 5 i5 _ 1 1 tyBs hi hz0 hz1 hz2 rfl A' k c' _ rfl (L := [Blk _ _]) (hm.alloc _).swap _ 1 1 [.int .u8 x] rfl (RdC.lit _ _ _ _ _ rfl (by simp [maxLen]) (One.nums .u8 [x])) (by unfold maxLen; omega) (by omega) ?_; intro A1 c1 w1 HM1)
      go_roundw
      case rel => exact ⟨k + 1, A1, c1, by go_num, by omega, rfl, by rw [ht.out, nums_append]; exact HM1.only⟩
      case measure => simp [intOf]; omega
    · obtain rfl : m = k := by omega
      rw [List.take_of_length_le (by have := hl.out; omega)] at hm
      have ha : Fact (nums .u8 bs ++ [Value.int .u8 128] = nums .u8 (bs ++ (128 :: List.replicate 0 0))) := ⟨by simp [nums]⟩
      go_upto_block 2 with (at_builtin; refine wp_app rfl _ _ _ rfl 5 i5 _ 1 1 tyBs hi hz0 hz1 hz2 rfl A' m c' _ rfl (L := [Blk _ _]) (hm.alloc _).swap _ 1 1 [.int .u8 128] rfl (RdC.lit _ _ _ _ _ rfl (by simp [maxLen]) (One.nums .u8 [128])) (by unfold maxLen; omega) (by omega) ?_; intro A1 c1 w1 HM1)
      rw [ha.out] at HM1
      have HM2 := HM1.only
      clear HM1 hm ha
      go_wp2
      go_loopw [3] (fun s W => ∃ (A : Option Addr) (q z c : Nat), s = .slice A q c ∧ Fact (q = m + 1 + z) ∧ q ≤ m + 65 ∧ z ≤ zeros m ∧ Mem w W [Own 1 (.slice A q c) (nums .u8 (bs ++ (128 :: List.replicate z 0)))]) (fun s _ => m + 66 - (match s with | .slice _ n _ => n | _ => 0))
      case atStart => exact ⟨A1, m + 1, 0, c1, rfl, ⟨rfl⟩, by omega, by omega, HM2⟩
      case round =>
        clear HM2
        obtain ⟨A, q, z, c, rfl, hq, hq65, hz, hm⟩ := hrel
        have hz64 := zeros_lt m
        by_cases hlt : z < zeros m
        · have hne := zeros_not m z hlt
          have hqe := hq.out
          have e2 : ((q : Int) % 64 != 56) = true := by rw [bne_iff_ne]; omega
          have hrep : Fact (nums .u8 (bs ++ (128 :: List.replicate z 0)) ++ [Value.int .u8 0] = nums .u8 (bs ++ (128 :: List.replicate (z + 1) 0))) := ⟨by simp [nums, List.replicate_succ']⟩
          have hqb : q ≤ 140737488351297 := by omega
          clear hne hqe
          go_wp2_with (at_builtin; refine wp_app rfl _ _ _ rfl 5 i5 _ 1 1 tyBs hi hz0 hz1 hz2 rfl A q c _ rfl (L := [Blk _ _]) (hm.alloc _).swap _ 1 1 [.int .u8 0] rfl (RdC.lit _ _ _ _ _ rfl (by simp [maxLen]) (One.nums .u8 [0])) (by unfold maxLen; omega) (by omega) ?_; intro A1 c1 w4 HM1)
          rw [hrep.out] at HM1
          go_roundw
          case rel => exact ⟨A1, q + 1, z + 1, c1, rfl, ⟨by rw [hq.out]; omega⟩, by have := hq.out; omega, by omega, HM1.only⟩
          case measure => simp; omega
        · obtain ⟨z', hz'⟩ : ∃ z', Fact (z' = zeros m) := ⟨_, ⟨rfl⟩⟩
          have hze : Fact (z = z') := ⟨by have := hz'.out; omega⟩
          have hzn := zeros_end m
          have e2 : ((q : Int) % 64 != 56) = false := by rw [bne_eq_false_iff_eq]; have := hq.out; have := hze.out; have := hz'.out; omega
          have hqb : q ≤ 140737488351297 := by omega
          have e8 : IntKind.u64.wrap (m : Int) = m := IntWalk.u64_in _ (by omega)
          have e9 : IntKind.u64.wrap ((m : Int) * 8) = m * 8 := IntWalk.u64_in _ (by omega)
          have hzz : Fact (zeros m = z') := ⟨hz'.out.symm⟩
          have hm : Mem w wr [Own 1 (.slice A (q + 0) c) (nums .u8 ((bs ++ (128 :: List.replicate z 0)) ++ (be64 (8 * m)).take 0))] := by simpa using hm
          clear hzn hz' hlt hz64
          go_wp2
          clear e2 e8 e9
          rw [hze.out] at hm
          go_loopw [3, 6] (fun s v W => ∃ (i : Nat) (A : Option Addr) (c : Nat), s = .slice A (q + i) c ∧ v = .int .i64 i ∧ i ≤ 8 ∧ Mem w W [Own 1 (.slice A (q + i) c) (nums .u8 ((bs ++ (128 :: List.replicate z' 0)) ++ (be64 (8 * m)).take i))]) (fun _ v _ => 8 - (intOf v).toNat)
          case atStart => exact ⟨0, A, c, rfl, rfl, by omega, hm⟩
          case round =>
            clear hm
            obtain ⟨i, A, c, rfl, rfl, hi8, hm⟩ := hrel
            by_cases hlt : i < 8
            · have hbe := Fact.mk (be64_succ m i hlt)
              have e4 : (56 - 8 * (i : Int)).toNat = 56 - 8 * i := by omega
              have e5 : (0 : Int) ≤ 56 - 8 * (i : Int) := by omega
              have e6 : 56 - 8 * (i : Int) ≤ 64 := by omega
              have e7 : IntKind.u64.wrap (56 - 8 * (i : Int)) = 56 - 8 * (i : Int) := IntWalk.u64_in _ (by omega)
              go_wp2_with (at_builtin; refine wp_app rfl _ _ _ rfl 5 i5 _ 1 1 tyBs hi hz0 hz1 hz2 rfl A (q + i) c _ rfl (L := [Blk _ _]) (hm.alloc _).swap _ 1 1 [.int .u8 ((m : Int) * 8 / 2 ^ (56 - 8 * i) % 256)] rfl (RdC.lit _ _ _ _ _ rfl (by simp [maxLen]) (One.nums .u8 [(m : Int) * 8 / 2 ^ (56 - 8 * i) % 256])) (by unfold maxLen; omega) (by omega) ?_; intro A1 c1 w4 HM1)
              have HM2 := HM1.only
              clear HM1
              have HM3 : Mem w w4 [Own 1 (.slice A1 (q + (i + 1)) c1) (nums .u8 ((bs ++ (128 :: List.replicate z' 0)) ++ (be64 (8 * m)).take (i + 1)))] := by
                rw [hbe.out, ← List.append_assoc, nums_append .u8 (_ ++ _)]; exact HM2
              clear HM2
              go_roundw
              case rel => exact ⟨i + 1, A1, c1, rfl, by go_num, by omega, HM3⟩
              case measure => simp [intOf]; omega
            · have hpd : (bs ++ (128 :: List.replicate z' 0)) ++ (be64 (8 * m)).take i = padded bs := by
                rw [List.take_of_length_le (by rw [be64_length]; omega)]
                unfold padded pad
                rw [hl.out, hzz.out, List.append_assoc]
              rw [hpd] at hm
              go_wp2
              go_ret
              exact ⟨A, q + i, c, rfl, hm.new_of⟩
end Go.Proofs.Ytngdcnpokdogdaa
