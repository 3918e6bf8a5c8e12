/- What FramesStack holds stacks against: rows (portageref14), lists that are lent. -/
import Derived.Test.YtgflfpepfpekhaaStk
import Derived.Test.YtgflfpepfpekhaaExt
namespace Go.Proofs.Ytgflfpepfpekhaa
open Go.RowKit Go.Mm
set_option maxHeartbeats 1000000
set_option maxRecDepth 100000
set_option linter.unusedSimpArgs false
theorem nums_drop (k : IntKind) (xs : List Int) (n : Nat) : nums k (xs.drop n) = (nums k xs).drop n := by simp [nums, List.map_drop]
theorem take_snoc' (xs : List Int) (k : Nat) (h : k < xs.length) : xs.take (k + 1) = xs.take k ++ [xs.getD k 0] := by
  rw [List.take_succ_eq_append_getElem h]; simp [h]
theorem copyLongs_ok (w : World) (A : Option Addr) (n c : Nat) (xs : List Int) (hx : Fact (RdC w 1 (.slice A n c) (nums .i64 xs))) (hn : n ≤ 16777216) :
    Calls Try.prog 31 #[.slice A n c] w fun e w' => ∃ A' c', e = .returned (.slice A' n c') ∧ New w w' (Own 1 (.slice A' n c') (nums .i64 xs)) := by
  obtain ⟨iV, hi, hz0, hz1, hz2⟩ := info_parts inf_long
  have hl := Fact.mk hx.out.nlen
  go_enter Try.func31, Try.ntmps31
  go_wp2
  go_loopw [3, 4] (fun l v w' => ∃ (k : Nat) (A' : Option Addr) (c' : Nat), v = .int .i64 k ∧ k ≤ n ∧ l = .slice A' k c' ∧ Mem w w' [Own 1 (.slice A' k c') (nums .i64 (xs.take k))]) (fun _ v _ => n - (intOf v).toNat)
  case atStart => exact ⟨0, none, 0, rfl, by omega, rfl, (Mem.start w).nil 1 none⟩
  case round =>
    obtain ⟨k, A', c', rfl, hk, rfl, hm⟩ := hrel
    by_cases hlt : k < n
    · obtain ⟨b, o, rfl, g1, _⟩ := hx.out.num k hlt
      have g1 := Gr.cell hm.below g1
      have ht := Fact.mk (take_snoc' xs k (by have := hl.out; omega))
      generalize xs.getD k 0 = x at g1 ht
      go_wp2_with (at_builtin; refine wp_app rfl _ _ _ rfl 2 iV _ 1 8 ty_longs hi hz0 hz1 hz2 rfl A' k c' _ rfl (L := [Blk _ _]) (hm.alloc _).swap _ 1 1 [.int .i64 x] rfl (RdC.lit _ _ _ _ _ rfl (by simp [maxLen]) (One.nums .i64 [x])) (by unfold maxLen; omega) (by omega) ?_; intro A1 c1 w1 HM1)
      go_roundw
      case rel => exact ⟨k + 1, A1, c1, by go_num, by omega, rfl, by rw [ht.out, nums_append]; exact HM1.only⟩
      case measure => simp [intOf]; omega
    · obtain rfl : k = n := by omega
      rw [List.take_of_length_le (by have := hl.out; omega)] at hm
      go_wp2
      go_ret
      exact ⟨A', c', rfl, hm.new_of⟩
theorem refPush_ok (w : World) (A B : Option Addr) (n c m d : Nat) (xs ys : List Int) (hx : Fact (RdC w 1 (.slice A n c) (nums .i64 xs))) (hy : Fact (RdC w 1 (.slice B m d) (nums .i64 ys))) (hn : n + m ≤ 16777216) :
    Calls Try.prog 33 #[.slice A n c, .slice B m d] w fun e w' => ∃ A' c', e = .returned (.slice A' (n + m) c') ∧ New w w' (Own 1 (.slice A' (n + m) c') (nums .i64 (xs ++ ys))) := by
  obtain ⟨iV, hi, hz0, hz1, hz2⟩ := info_parts inf_long
  have hl := Fact.mk hy.out.nlen
  go_enter Try.func33, Try.ntmps33
  go_wp2_with fail
  refine (copyLongs_ok w A n c xs hx (by omega)).mono ?_
  rintro e w1 ⟨A1, c1, rfl, hn1⟩
  have hm1 := (Mem.start w).new hn1
  go_wp2
  go_loopw [5, 6] (fun l v w' => ∃ (k : Nat) (A' : Option Addr) (c' : Nat), v = .int .i64 k ∧ k ≤ m ∧ l = .slice A' (n + k) c' ∧ Mem w w' [Own 1 (.slice A' (n + k) c') (nums .i64 (xs ++ ys.take k))]) (fun _ v _ => m - (intOf v).toNat)
  case atStart => exact ⟨0, A1, c1, rfl, by omega, rfl, by simpa using hm1⟩
  case round =>
    clear hm1 hn1
    obtain ⟨k, A', c', rfl, hk, rfl, hm⟩ := hrel
    by_cases hlt : k < m
    · obtain ⟨b, o, rfl, g1, _⟩ := hy.out.num k hlt
      have g1 := Gr.cell hm.below g1
      have ht := Fact.mk (take_snoc' ys k (by have := hl.out; omega))
      generalize ys.getD k 0 = x at g1 ht
      go_wp2_with (at_builtin; refine wp_app rfl _ _ _ rfl 2 iV _ 1 8 ty_longs hi hz0 hz1 hz2 rfl A' (n + k) c' _ rfl (L := [Blk _ _]) (hm.alloc _).swap _ 1 1 [.int .i64 x] rfl (RdC.lit _ _ _ _ _ rfl (by simp [maxLen]) (One.nums .i64 [x])) (by unfold maxLen; omega) (by omega) ?_; intro A1 c1 w1 HM1)
      go_roundw
      case rel => exact ⟨k + 1, A1, c1, by go_num, by omega, rfl, by rw [ht.out, ← List.append_assoc, nums_append]; exact HM1.only⟩
      case measure => simp [intOf]; omega
    · obtain rfl : k = m := by omega
      rw [List.take_of_length_le (by have := hl.out; omega)] at hm
      go_wp2
      go_ret
      exact ⟨A', c', rfl, hm.new_of⟩
theorem refCut_no (w : World) (A : Option Addr) (n c : Nat) (K : Int) (hK : K < 0 ∨ (n : Int) < K) :
    Calls Try.prog 83 #[.slice A n c, .int .i64 K] w fun e w' => e = .returned (.tuple #[.slice A n c, .bool false]) ∧ w' = w := by
  go_enter Try.func83, Try.ntmps83
  rcases hK with hk | hk
  · go_wp2
    go_ret2
    exact ⟨rfl, rfl⟩
  · have hk0 : (K < 0) = False := by simp; omega
    go_wp2
    go_ret2
    exact ⟨rfl, rfl⟩
theorem refCut_ok (w : World) (A : Option Addr) (n c : Nat) (xs : List Int) (hx : Fact (RdC w 1 (.slice A n c) (nums .i64 xs))) (hn : n ≤ 16777216) (k : Nat) (hk : k ≤ n) (K : Int) (hK : K = k) :
    Calls Try.prog 83 #[.slice A n c, .int .i64 K] w fun e w' => ∃ A' c', e = .returned (.tuple #[.slice A' k c', .bool true]) ∧ New w w' (Own 1 (.slice A' k c') (nums .i64 (xs.take k))) := by
  subst hK
  have hcn : n ≤ c := by obtain ⟨_, _, _, e, _, h, _⟩ := hx.out; cases e; exact h
  have hkc : k ≤ c := by omega
  have hr : Fact (RdC w 1 (.slice A k c) (nums .i64 (xs.take k))) := ⟨by have h := hx.out.pre k hk; rw [Nat.mul_one, ← nums_take] at h; exact h⟩
  go_enter Try.func83, Try.ntmps83
  go_wp2_with fail
  refine (copyLongs_ok w A k c (xs.take k) hr (by omega)).mono ?_
  rintro e w1 ⟨A1, c1, rfl, hn1⟩
  go_wp2
  go_ret2
  exact ⟨A1, c1, rfl, hn1⟩
theorem refTop_no (w : World) (A : Option Addr) (n c : Nat) (K : Int) (hK : K < 0 ∨ (n : Int) ≤ K) :
    Calls Try.prog 82 #[.slice A n c, .int .i64 K] w fun e w' => e = .returned (.tuple #[.int .i64 0, .bool false]) ∧ w' = w := by
  go_enter Try.func82, Try.ntmps82
  rcases hK with hk | hk
  · go_wp2
    go_ret2
    exact ⟨rfl, rfl⟩
  · have hk0 : (K < 0) = False := by simp; omega
    go_wp2
    go_ret2
    exact ⟨rfl, rfl⟩
theorem refTop_ok (w : World) (A : Option Addr) (n c : Nat) (xs : List Int) (hx : Fact (RdC w 1 (.slice A n c) (nums .i64 xs))) (hn : n ≤ 16777216) (k : Nat) (hk : k < n) (K : Int) (hK : K = k) :
    Calls Try.prog 82 #[.slice A n c, .int .i64 K] w fun e w' => e = .returned (.tuple #[.int .i64 (xs.getD (n - 1 - k) 0), .bool true]) ∧ w' = w := by
  subst hK
  obtain ⟨b, o, rfl, g1, _⟩ := hx.out.num (n - 1 - k) (by omega)
  generalize xs.getD (n - 1 - k) 0 = x at g1
  have e1 : (n : Int) - 1 - (k : Int) = ((n - 1 - k : Nat) : Int) := by omega
  have e2 : n - 1 - k < n := by omega
  go_enter Try.func82, Try.ntmps82
  go_wp2
  go_ret2
  exact ⟨rfl, rfl⟩
def markL (i : Nat) : Int := -100 - (i : Int)
def marksL (k : Nat) : List Int := (List.range k).map markL
theorem marksL_succ (k : Nat) : marksL (k + 1) = marksL k ++ [markL k] := by simp [marksL, List.range_succ]
theorem marksL_len (k : Nat) : (marksL k).length = k := by simp [marksL]
theorem lentL_ok (w : World) (A : Option Addr) (n c : Nat) (xs : List Int) (hx : Fact (RdC w 1 (.slice A n c) (nums .i64 xs))) (hn : n ≤ 16777216) :
    Calls Try.prog 30 #[.slice A n c] w fun e w' => ∃ A' c', e = .returned (.slice A' (n + 64) c') ∧ New w w' (Own 1 (.slice A' (n + 64) c') (nums .i64 (xs ++ marksL 64))) := by
  obtain ⟨iV, hi, hz0, hz1, hz2⟩ := info_parts inf_long
  go_enter Try.func30, Try.ntmps30
  go_wp2_with fail
  refine (copyLongs_ok w A n c xs hx (by omega)).mono ?_
  rintro e w1 ⟨A1, c1, rfl, hn1⟩
  have hm1 := (Mem.start w).new hn1
  go_wp2
  go_loopw [3, 4] (fun l v w' => ∃ (k : Nat) (A' : Option Addr) (c' : Nat), v = .int .i64 k ∧ k ≤ 64 ∧ l = .slice A' (n + k) c' ∧ Mem w w' [Own 1 (.slice A' (n + k) c') (nums .i64 (xs ++ marksL k))]) (fun _ v _ => 64 - (intOf v).toNat)
  case atStart => exact ⟨0, A1, c1, rfl, by omega, rfl, by simpa [marksL] using hm1⟩
  case round =>
    clear hm1 hn1
    obtain ⟨k, A', c', rfl, hk, rfl, hm⟩ := hrel
    by_cases hlt : k < 64
    · go_wp2_with (at_builtin; refine wp_app rfl _ _ _ rfl 2 iV _ 1 8 ty_longs hi hz0 hz1 hz2 rfl A' (n + k) c' _ rfl (L := [Blk _ _]) (hm.alloc _).swap _ 1 1 [.int .i64 (-100 - (k : Int))] rfl (RdC.lit _ _ _ _ _ rfl (by simp [maxLen]) (One.nums .i64 [-100 - (k : Int)])) (by unfold maxLen; omega) (by omega) ?_; intro A1 c1 w1 HM1)
      go_roundw
      case rel => exact ⟨k + 1, A1, c1, by go_num, by omega, rfl, by rw [marksL_succ, ← List.append_assoc, nums_append]; exact HM1.only⟩
      case measure => simp [intOf]; omega
    · obtain rfl : k = 64 := by omega
      go_wp2
      go_ret
      exact ⟨A', c', rfl, hm.new_of⟩
theorem keptL_ok (w0 w : World) (L : List Chunk) (A B : Option Addr) (n c d : Nat) (xs : List Int) (hm : Mem w0 w (Own 1 (.slice A (n + 64) c) (nums .i64 (xs ++ marksL 64)) :: L)) (hy : Fact (RdC w0 1 (.slice B n d) (nums .i64 xs))) (hn : n ≤ 16777216) :
    Calls Try.prog 34 #[.slice A (n + 64) c, .slice B n d] w fun e w' => e = .returned (.bool true) ∧ Mem w0 w' L := by
  have hl := Fact.mk hy.out.nlen
  obtain ⟨gb, ob, rfl⟩ := OwnAt.addr (hm.ok _ m0) (by have := OwnAt.cap (hm.ok _ m0); omega)
  go_enter Try.func34, Try.ntmps34
  go_wp2
  go_loopw [5] (fun v w' => ∃ (k : Nat) (zs : List Int), v = .int .i64 k ∧ k ≤ n + 64 ∧ Mem w0 w' (Own 1 (.slice (some ⟨gb, ob, none⟩) (n + 64) c) (nums .i64 zs) :: L) ∧ Fact (zs.length = n + 64 ∧ ∀ j, k ≤ j → zs.getD j 0 = (xs ++ marksL 64).getD j 0)) (fun v _ => n + 64 - (intOf v).toNat)
  case atStart => exact ⟨0, xs ++ marksL 64, rfl, by omega, hm, ⟨by have := hl.out; simp [marksL]; omega, fun j _ => rfl⟩⟩
  case round =>
    clear hm
    obtain ⟨k, zs, rfl, hk, hm, hz⟩ := hrel
    by_cases hlt : k < n + 64
    · have hzk := hz.out.2 k (Nat.le_refl _)
      have hkl : k < zs.length := by have := hz.out.1; omega
      have hj0 : (nums .i64 zs)[k]? = some (.int .i64 (zs.getD k 0)) := nums_getD .i64 zs k hkl
      obtain ⟨g1, g2⟩ := hm.own_cell m0 k hj0
      have hm2 := hm.own_set k (by simpa using hkl) (.int .i64 (-99)) rfl
      rw [nums_set] at hm2
      have hnext : Fact ((zs.set k (-99)).length = n + 64 ∧ ∀ j, k + 1 ≤ j → (zs.set k (-99)).getD j 0 = (xs ++ marksL 64).getD j 0) := ⟨by
        have h1 := hz.out.1
        refine ⟨by simpa using h1, fun j hj => ?_⟩
        rw [getD_set _ _ _ _ _ hkl, if_neg (by omega)]
        exact hz.out.2 j (by omega)⟩
      by_cases hk2 : k < n
      · obtain ⟨b, o, rfl, a1, _⟩ := hy.out.num k hk2
        have a1 := Gr.cell hm.below a1
        have e1 : (xs ++ marksL 64).getD k 0 = xs.getD k 0 := by rw [List.getD_eq_getElem?_getD, List.getElem?_append_left (by have := hl.out; omega), ← List.getD_eq_getElem?_getD]
        rw [hzk, e1] at g1
        clear hzk e1 hj0 hm
        generalize xs.getD k 0 = x at a1 g1
        go_wp2
        go_roundw
        case rel => exact ⟨k + 1, zs.set k (-99), by go_num, by omega, hm2, hnext⟩
        case measure => simp [intOf]; omega
      · have e1 : (xs ++ marksL 64).getD k 0 = -100 - ((k : Int) - (n : Int)) := by
          rw [List.getD_eq_getElem?_getD, List.getElem?_append_right (by have := hl.out; omega), hl.out]
          have h1 : k - n < 64 := by omega
          rw [marksL, List.getElem?_map, List.getElem?_range h1]
          simp [markL]; omega
        rw [hzk, e1] at g1
        have e2 : IntKind.i64.wrap ((k : Int) - (n : Int)) = (k : Int) - n := IntWalk.i64_in _ (by omega)
        have e3 : IntKind.i64.wrap (-100 - ((k : Int) - (n : Int))) = -100 - ((k : Int) - n) := IntWalk.i64_in _ (by omega)
        clear hzk e1 hj0 hm
        go_wp2
        go_roundw
        case rel => exact ⟨k + 1, zs.set k (-99), by go_num, by omega, hm2, hnext⟩
        case measure => simp [intOf]; omega
    · go_wp2
      go_ret
      exact ⟨rfl, hm.tail⟩
theorem popNo2_ok (w0 w : World) (L : List Chunk) (g : Nat) (A : Option Addr) (n c : Nat) (t : TypeId) (hm : Mem w0 w L) (hg : Blk g (.cells [.slice A n c].toArray t) ∈ L) (hn : n ≤ 16777216) (k : Int) (hk : k < 0 ∨ (n : Int) < k) (hk2 : k ≤ 9223372036854775807) :
    Calls Try.prog 36 #[.pointer (some ⟨g, 0, none⟩), .int .i64 k] w fun e w' => e = .returned (.tuple #[.slice none 0 0, .bool false]) ∧ w' = w := by
  have c1 := hm.cell hg 0 rfl
  go_enter Try.func36, Try.ntmps36
  rcases hk with hk | hk
  · go_wp2
    go_ret2
    exact ⟨rfl, rfl⟩
  · have hk0 : (k < 0) = False := by simp; omega
    have e1 : IntKind.i64.wrap ((n : Int) - k) = n - k := IntWalk.i64_in _ (by omega)
    have hk1 : ((n : Int) - k < 0) = True := by simp; omega
    go_wp2
    go_ret2
    exact ⟨rfl, rfl⟩
theorem topNo_ok (w0 w : World) (L : List Chunk) (g : Nat) (A : Option Addr) (n c : Nat) (t : TypeId) (hm : Mem w0 w L) (hg : Blk g (.cells [.slice A n c].toArray t) ∈ L) (k : Int) (hk : k < 0 ∨ (n : Int) ≤ k) :
    Calls Try.prog 42 #[.pointer (some ⟨g, 0, none⟩), .int .i64 k] w fun e w' => e = .returned (.tuple #[.int .i64 0, .bool false]) ∧ w' = w := by
  have c1 := hm.cell hg 0 rfl
  go_enter Try.func42, Try.ntmps42
  rcases hk with hk | hk
  · go_wp2
    go_ret2
    exact ⟨rfl, rfl⟩
  · have hk0 : (k < 0) = False := by simp; omega
    go_wp2
    go_ret2
    exact ⟨rfl, rfl⟩
theorem refPop_no (w : World) (A : Option Addr) (n c : Nat) (K : Int) (hK : K < 0 ∨ (n : Int) < K) :
    Calls Try.prog 35 #[.slice A n c, .int .i64 K] w fun e w' => e = .returned (.tuple #[.slice A n c, .slice none 0 0, .bool false]) ∧ w' = w := by
  go_enter Try.func35, Try.ntmps35
  rcases hK with hk | hk
  · go_wp2
    go_ret3
    exact ⟨rfl, rfl⟩
  · have hk0 : (K < 0) = False := by simp; omega
    go_wp2
    go_ret3
    exact ⟨rfl, rfl⟩
end Go.Proofs.Ytgflfpepfpekhaa
