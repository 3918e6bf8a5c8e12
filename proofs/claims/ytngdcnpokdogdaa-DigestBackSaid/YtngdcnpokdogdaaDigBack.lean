import Derived.Test.YtngdcnpokdogdaaDigFromLaw
import Derived.Test.YtngdcnpokdogdaaDigHex
namespace Go.Proofs.Ytngdcnpokdogdaa
open Go.RowKit Go.Mm
set_option maxHeartbeats 400000 in
set_option maxRecDepth 100000 in
theorem digit_ok (w : World) (x : Int) (h0 : 0 ≤ x) (h1 : x < 16) : Calls Try.prog 16 #[.int .u8 (hexd x)] w fun e w' => e = .returned (.int .i64 x) ∧ w = w' := by
  unfold hexd
  by_cases hx : x < 10
  · rw [if_pos hx]
    have e1 : 48 + x - 48 = x := by omega
    have e2 : IntKind.i64.wrap x = x := IntWalk.i64_in _ (by omega)
    go_enter Try.func16, Try.ntmps16
    go_wp2
    all_goals (go_ret; exact ⟨rfl, rfl⟩)
  · rw [if_neg hx]
    have e1 : 87 + x - 97 = x - 10 := by omega
    have e2 : IntKind.i64.wrap (x - 10) = x - 10 := IntWalk.i64_in _ (by omega)
    have e3 : x - 10 + 10 = x := by omega
    have e4 : ¬ 87 + x ≤ 57 := by omega
    have e5 : 97 ≤ 87 + x := by omega
    have e6 : 87 + x ≤ 102 := by omega
    go_enter Try.func16, Try.ntmps16
    go_wp2
    all_goals (go_ret; exact ⟨rfl, rfl⟩)
theorem hexs_even (bs : List Int) : ∀ k, k < bs.length → (hexs bs).getD (2 * k) 0 = hexd (bs.getD k 0 / 16) := by
  induction bs with
  | nil => intro k h; simp at h
  | cons b l ih =>
    intro k h
    cases k with
    | zero => rfl
    | succ k =>
      have := ih k (by simpa using h)
      simpa [hexs, show 2 * (k + 1) = 2 * k + 1 + 1 by omega] using this
theorem hexs_odd (bs : List Int) : ∀ k, k < bs.length → (hexs bs).getD (2 * k + 1) 0 = hexd (bs.getD k 0 % 16) := by
  induction bs with
  | nil => intro k h; simp at h
  | cons b l ih =>
    intro k h
    cases k with
    | zero => rfl
    | succ k =>
      have := ih k (by simpa using h)
      simpa [hexs, show 2 * (k + 1) + 1 = 2 * k + 1 + 1 + 1 by omega] using this
theorem hexd_byt (x : Int) (h0 : 0 ≤ x) (h1 : x < 16) : 0 ≤ hexd x ∧ hexd x < 256 := by unfold hexd; split <;> omega
/-- A letter of a text of bytes. -/
theorem run_index_strNums (xs : List Int) (i : Nat) (hi : i < xs.length) (hb : 0 ≤ xs.getD i 0 ∧ xs.getD i 0 < 256) (W : World) : (Instr.index 9 (.string (strOfNums xs)) (.int .i64 (i : Nat))).run Try.prog W = .ok (.int .u8 (xs.getD i 0)) W := by
  have hs : (strOfNums xs).size = xs.length := strOfNums_size xs
  rw [run_index_string W 9 _ .i64 _ ty9, dif_pos ⟨by omega, by rw [hs]; omega⟩]
  congr 2
  have : (strOfNums xs)[i]'(by rw [hs]; exact hi) = UInt8.ofNat (xs.getD i 0).toNat := by
    show (strOfNums xs).data[i]'(by simpa [strOfNums] using hi) = _
    simp [strOfNums, hi]
  simp only [Int.toNat_natCast]
  rw [this]
  rw [UInt8.toNat_ofNat']
  omega
set_option maxHeartbeats 1000000 in
set_option maxRecDepth 100000 in
theorem digestBack_walk (w : World) (bs : List Int) (hl : Fact (bs.length = 32)) (hby : Fact (Byt bs)) :
    Calls Try.prog 5 #[.agg (nums .u8 bs).toArray] w fun e w' => e = .returned (.bool true) ∧ Gr w w' := by
  obtain ⟨i5, hi, hz0, hz1, hz2⟩ := info_parts inf5
  have hfa : Fact (fromArr bs = bs) := ⟨by unfold fromArr; rw [if_pos hl.out]⟩
  have hB : Fact ((nums .u8 bs).length = 32) := ⟨by rw [length_nums, hl.out]⟩
  go_enter Try.func5, Try.ntmps5
  go_upto_region 3 with (fail)
  have hm := (((Mem.start w).alloc (.cells (nums .u8 bs).toArray 22)).nil 1 none)
  generalize hg1 : w.heap.size = g1 at hm ⊢
  generalize hw1 : (w.alloc (.cells (nums .u8 bs).toArray 22)) = w1 at hm ⊢
  clear hw1 hg1
  go_loopw [3, 4] (fun l v w' => ∃ (k : Nat) (A : Option Addr) (c : Nat), l = .slice A k c ∧ v = .int .i64 k ∧ k ≤ 32 ∧ Mem w w' [Own 1 (.slice A k c) (nums .u8 (bs.take k)), Blk g1 (.cells (nums .u8 bs).toArray 22)]) (fun _ v _ => 32 - (intOf v).toNat)
  case atStart => exact ⟨0, none, 0, rfl, rfl, by omega, hm⟩
  case round =>
    clear hm
    obtain ⟨k, A, c, rfl, rfl, hk, hm⟩ := hrel
    by_cases hlt : k < 32
    · have c1 := hm.cell m1 k (nums_getD .u8 bs k (by have := hl.out; omega))
      have ht := Fact.mk (take_snoc bs 0 k (by have := hl.out; omega))
      generalize bs.getD k 0 = x at c1 ht
      go_wp2_with (at_builtin; refine wp_app rfl _ _ _ rfl 5 i5 _ 1 1 ty25 hi hz0 hz1 hz2 rfl A k c _ rfl (L := [Blk _ _, Blk _ _]) (hm.alloc _).swap _ 1 1 [.int .u8 x] rfl (RdC.lit _ _ _ _ _ rfl (by simp [maxLen]) (One.nums .u8 [x])) (by unfold maxLen; omega) (by omega) ?_; intro A1 c1 w1 HM1)
      go_roundw
      case rel => exact ⟨k + 1, A1, c1, rfl, by go_num, by omega, by rw [ht.out, nums_append]; exact HM1.sub (by simp [nums])⟩
      case measure => simp [intOf]; omega
    · obtain rfl : k = 32 := by omega
      rw [List.take_of_length_le (by have := hl.out; omega)] at hm
      have hrd := hm.rd m0
      go_wp2_with fail
      refine (from_ok wr A 32 c bs ⟨hrd⟩ (by omega)).mono ?_
      rintro e w2 ⟨rfl, hg2⟩
      have hm2 := hm.gr hg2
      have hrd2 := (hm2.rd m0).pre 31 (by omega)
      rw [hfa.out]
      go_upto_region 7 with (first | (refine Mm.wp_alloc rfl 22 rfl (nums .u8 (List.replicate 32 0)) zero22 hm2 ?_; intro g5 w3 hm3) | (refine wp_setrow rfl 22 _ _ rfl g5 rfl 22 _ _ rfl hm3 (by rw [hB.out]; exact sz22) (by rw [hB.out]; rfl) (One.nums _ _) ?_; intro w4 hm4))
      clear hm3 hm2 hm hrd
      have hcap := Fact.mk (hm4.ok _ m1).cap
      obtain ⟨gA, oA, rfl⟩ := (hm4.ok _ m1).addr (by have := hcap.out; omega)
      have hle : (31 : Int) ≤ (c : Int) := by have := hcap.out; omega
      have hrd3 := ((hm4.rd m1).pre 31 (by omega))
      rw [show List.take (31 * 1) (nums .u8 bs) = nums .u8 (bs.take 31) by rw [nums_take]] at hrd3
      clear hrd2
      go_wp2_with fail
      refine (from_ok w4 _ 31 c (bs.take 31) ⟨hrd3⟩ (by omega)).mono ?_
      rintro e w5 ⟨rfl, hg5⟩
      have hm5 := hm4.gr hg5
      clear hm4 hrd3 hg2
      go_upto_region 8 with (first | (refine Mm.wp_alloc rfl 22 rfl (nums .u8 (List.replicate 32 0)) zero22 hm5 ?_; intro g6 w6 hm6) | (refine wp_setrow rfl 22 _ _ rfl g6 rfl 22 _ _ rfl hm6 (by rw [len32]; exact sz22) (by rw [len32]; rfl) (One.nums _ _) ?_; intro w7 hm7))
      have hm8 := hm7.perm (List.perm_append_comm (l₁ := [_, _]) (l₂ := [_, _]))
      clear hm5 hm6 hm7
      go_wp2_with (at_builtin; refine wp_app rfl _ _ _ rfl 5 i5 _ 1 1 ty25 hi hz0 hz1 hz2 rfl _ 32 c _ rfl (L := [Blk _ _, Blk _ _, Blk _ _, Blk _ _]) (hm8.alloc _).swap _ 1 1 [.int .u8 0] rfl (RdC.lit _ _ _ _ _ rfl (by simp [maxLen]) (One.nums .u8 [0])) (by unfold maxLen; omega) (by omega) ?_; intro A1 c1 w8 HM1)
      clear hm8
      have hrd4 := HM1.rd m0
      rw [show nums .u8 bs ++ [Value.int .u8 0] = nums .u8 (bs ++ [0]) by rw [nums_append]; rfl] at hrd4
      refine (from_ok w8 _ 33 c1 (bs ++ [0]) ⟨hrd4⟩ (by omega)).mono ?_
      rintro e w9 ⟨rfl, hg9⟩
      have hm9 := HM1.gr hg9
      have hm9 : Mem w w9 [Blk g5 (.cells (nums .u8 bs).toArray 22), Blk g1 (.cells (nums .u8 bs).toArray 22)] := (hm9.sub (List.Sublist.cons _ (.cons _ (.cons_cons _ (.cons _ (List.Sublist.refl _)))))).swap
      clear HM1 hrd4
      go_upto_region 9 with (first | (refine Mm.wp_alloc rfl 22 rfl (nums .u8 (List.replicate 32 0)) zero22 hm9 ?_; intro g7 w10 hm10) | (refine wp_setrow rfl 22 _ _ rfl g7 rfl 22 _ _ rfl hm10 (by rw [len32]; exact sz22) (by rw [len32]; rfl) (One.nums _ _) ?_; intro w11 hm11))
      have hm := hm11.tail
      clear hm9 hm10 hm11
      go_upto_region 10 with (first | (refine Mm.wp_row rfl 22 _ rfl g1 rfl 22 _ _ _ hm m1 ty22 rfl (by rw [hB.out]; exact sz22) ?_) | (go_at_call 9; refine (hex_ok _ bs hl hby).mono ?_; rintro e w12 ⟨rfl, hg12⟩; have hm12 := hm.gr hg12; clear hm))
      have hidx : Fact (∀ k : Nat, k < 64 → ∀ W, (Instr.index 9 (.string (strOfNums (hexs bs))) (.int .i64 (k : Nat))).run Try.prog W = .ok (.int .u8 ((hexs bs).getD k 0)) W) := ⟨fun k hk W => run_index_strNums (hexs bs) k (by rw [hexs_length]; have := hl.out; omega) (by
        obtain ⟨j, rfl | rfl⟩ : ∃ j, k = 2 * j ∨ k = 2 * j + 1 := ⟨k / 2, by omega⟩
        · rw [hexs_even bs j (by have := hl.out; omega)]; have := hby.out.at j; exact hexd_byt _ (by omega) (by omega)
        · rw [hexs_odd bs j (by have := hl.out; omega)]; have := hby.out.at j; exact hexd_byt _ (by omega) (by omega)) W⟩
      have hs64 : (((strOfNums (hexs bs)).size : Int) != 64) = false := by rw [strOfNums_size, hexs_length, hl.out]; rfl
      generalize strOfNums (hexs bs) = S at hidx hs64 ⊢
      have q1 := fun W => run_eq_nums (P := Try.prog) W 22 5 32 .u8 ty22 ty5 sz5 bs bs hl.out hl.out
      simp only [beq_self_eq_true] at q1
      go_wp2_with (first | (refine Mm.wp_row rfl 22 _ rfl g1 rfl 22 _ _ _ hm12 m1 ty22 rfl (by rw [hB.out]; exact sz22) ?_) | (refine Mm.wp_row rfl 22 _ rfl g5 rfl 22 _ _ _ hm12 m0 ty22 rfl (by rw [hB.out]; exact sz22) ?_))
      clear q1 hs64
      clear hm9 hg9 hcap hle
      go_loopw [12] (fun v w' => ∃ (k : Nat), v = .int .i64 k ∧ k ≤ 32 ∧ w' = w12) (fun v _ => 32 - (intOf v).toNat)
      case atStart => exact ⟨0, rfl, by omega, rfl⟩
      case round =>
        obtain ⟨k, rfl, hk, rfl⟩ := hrel
        by_cases hlt2 : k < 32
        · have hb := hby.out.at k
          have i1 := hidx.out (2 * k) (by omega)
          have i2 := hidx.out (2 * k + 1) (by omega)
          rw [hexs_even bs k (by have := hl.out; omega)] at i1
          rw [hexs_odd bs k (by have := hl.out; omega)] at i2
          have hc := hm12.cell m1 k (nums_getD .u8 bs k (by have := hl.out; omega))
          generalize bs.getD k 0 = x at hb i1 i2 hc
          obtain ⟨hb0, hb1⟩ := hb
          rw [show ((2 * k : Nat) : Int) = 2 * (k : Int) by omega] at i1
          rw [show ((2 * k + 1 : Nat) : Int) = 2 * (k : Int) + 1 by omega] at i2
          have d1 := fun W => digit_ok W (x / 16) (by omega) (by omega)
          have d2 := fun W => digit_ok W (x % 16) (by omega) (by omega)
          have e1 : (16 * (x / 16) + x % 16 != x) = false := by rw [bne_eq_false_iff_eq]; omega
          have e2 : IntKind.i64.wrap x = x := IntWalk.i64_in _ (by omega)
          have e3 : ¬ (x / 16 < 0) := by omega
          have e4 : ¬ (x % 16 < 0) := by omega
          have d1 := Fact.mk d1
          have d2 := Fact.mk d2
          go_upto_region 16 with (first | (go_at_call 16; refine (d1.out _).mono ?_; rintro e wx ⟨rfl, rfl⟩))
          go_upto_region 17 with (first | (go_at_call 16; refine (d2.out _).mono ?_; rintro e wx ⟨rfl, rfl⟩))
          go_wp2
          go_roundw
          case rel => exact ⟨k + 1, by go_num, by omega, trivial⟩
          case measure => simp [intOf]; omega
        · go_wp2
          go_ret
          exact ⟨rfl, hm12.below⟩
theorem digestBack_ok (H : Type) (enc : TypeId × Value → H) (W : World) (base : Nat) (v : Value) (d : DataW H) (p : List MemPlace) (h : DataW.Trod enc Try.prog W 0 (fun _ => true) true 22 v d p) (ok : Value.okWide Try.prog W .any base 22 v) :
    Calls Try.prog 5 #[v] W fun e w' => e = .returned (.bool true) ∧ Gr W w' := by
  obtain ⟨bs, rfl, hl, hb⟩ := open_digest h ok
  exact digestBack_walk W bs ⟨hl⟩ ⟨hb⟩
end Go.Proofs.Ytngdcnpokdogdaa
