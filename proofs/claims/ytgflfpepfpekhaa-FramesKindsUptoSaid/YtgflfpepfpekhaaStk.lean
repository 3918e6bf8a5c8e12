import Derived.Test.YtgflfpepfpekhaaFh
import Derived.Test.YtgflfpepfpekhaaRng
namespace Go.Proofs.Ytgflfpepfpekhaa
open Go.RowKit Go.Mm
set_option maxHeartbeats 400000
set_option maxRecDepth 100000
theorem ty_long : Try.prog.underlying 2 = some (.int .i64) := by kernel_rfl
theorem ty_longs : Try.prog.underlying 51 = some (.slice 2) := by kernel_rfl
theorem inf_long : (Try.prog.info? 2).map (fun i => (i.zero, i.size, i.bytes)) = some (some (.int .i64 0), 1, 8) := by kernel_rfl
/-- A number from 0 to n - 1 out of any. -/
theorem pick_ok (w : World) (k N : Int) (n : Nat) (hN : N = n) (hn : n ≤ 1048577) (h0 : 0 < n) :
    Calls Try.prog 29 #[.int .i64 k, .int .i64 N] w fun e w' => ∃ j : Nat, e = .returned (.int .i64 j) ∧ w' = w ∧ j < n := by
  subst hN
  go_enter Try.func29, Try.ntmps29
  have h1 : ((n : Int) < 1) = False := by simp; omega
  have hb : -(n : Int) < k.tmod n ∧ k.tmod n < n := by
    have hn0 : (0 : Int) < n := by omega
    exact ⟨Int.lt_tmod_of_pos k hn0, Int.tmod_lt_of_pos k hn0⟩
  by_cases hs : k.tmod n < 0
  · have hw : wrap64 (k.tmod n + n) = k.tmod n + n := IntWalk.wrap64_in _ (by omega)
    have hw2 : IntKind.i64.wrap (k.tmod n + n) = k.tmod n + n := IntWalk.i64_in _ (by omega)
    go_wp2
    go_ret
    exact ⟨(k.tmod n + n).toNat, by rw [Int.toNat_of_nonneg (by omega)]; rfl, rfl, by omega⟩
  · go_wp2
    go_ret
    exact ⟨(k.tmod n).toNat, by rw [Int.toNat_of_nonneg (by omega)]; rfl, rfl, by omega⟩
theorem sameLongs_ok (w : World) (A B : Option Addr) (n c d : Nat) (xs : List Int) (hx : Fact (RdC w 1 (.slice A n c) (nums .i64 xs))) (hy : Fact (RdC w 1 (.slice B n d) (nums .i64 xs))) (hn : n ≤ 16777216) :
    Calls Try.prog 40 #[.slice A n c, .slice B n d] w fun e w' => e = .returned (.bool true) ∧ Gr w w' := by
  go_enter Try.func40, Try.ntmps40
  go_wp2
  go_loopw [5] (fun v w' => ∃ (k : Nat), v = .int .i64 k ∧ k ≤ n ∧ ∃ m, w' = w.drewN m) (fun v _ => n - (intOf v).toNat)
  case atStart => exact ⟨0, rfl, by omega, 0, rfl⟩
  case round =>
    obtain ⟨k, rfl, hk, m, rfl⟩ := hrel
    by_cases hlt : k < n
    · obtain ⟨b, o, rfl, g1, _⟩ := hx.out.num k hlt
      obtain ⟨bb, ob, rfl, g2, _⟩ := hy.out.num k hlt
      generalize xs.getD k 0 = x at g1 g2
      go_upto_region 6 with (fail)
      go_quiet (fail)
      go_wp2
      go_roundw
      case rel => exact ⟨k + 1, by go_num, by omega, _, rfl⟩
      case measure => simp [intOf]; omega
    · go_wp2
      go_ret
      exact ⟨rfl, (Gr.refl _).drewN _⟩
theorem lenL_ok (w0 w : World) (L : List Chunk) (g : Nat) (A : Option Addr) (n c : Nat) (t : TypeId) (hm : Mem w0 w L) (hg : Blk g (.cells [.slice A n c].toArray t) ∈ L) :
    Calls Try.prog 41 #[.pointer (some ⟨g, 0, none⟩)] w fun e w' => e = .returned (.int .i64 n) ∧ w' = w := by
  have c1 := hm.cell hg 0 rfl
  go_enter Try.func41, Try.ntmps41
  go_wp2
  go_ret
  exact ⟨rfl, rfl⟩
theorem itemsL_ok (w0 w : World) (L : List Chunk) (g : Nat) (A : Option Addr) (n c : Nat) (xs : List Int) (t : TypeId) (hm : Mem w0 w L) (hg : Blk g (.cells [.slice A n c].toArray t) ∈ L) (hr : Fact (RdC w 1 (.slice A n c) (nums .i64 xs))) (hn : n ≤ 16777216) :
    Calls Try.prog 37 #[.pointer (some ⟨g, 0, none⟩)] w fun e w' => ∃ A' c', e = .returned (.slice A' n c') ∧ Mem w0 w' (Own 1 (.slice A' n c') (nums .i64 xs) :: L) := by
  obtain ⟨iV, hi, hz0, hz1, hz2⟩ := info_parts inf_long
  have c1 := hm.cell hg 0 rfl
  go_enter Try.func37, Try.ntmps37
  go_wp2_with (at_builtin; refine wp_app rfl _ _ _ rfl 2 iV _ 1 8 ty_longs hi hz0 hz1 hz2 rfl none 0 0 [] rfl (hm.nil 1 none) A n c _ rfl hr.out (by unfold maxLen; omega) (by omega) ?_; intro A1 c1 w1 HM1)
  go_ret
  exact ⟨A1, c1, by simp, by simpa using HM1⟩
theorem pushL_ok (w0 w : World) (L : List Chunk) (g : Nat) (A B : Option Addr) (n c m d : Nat) (xs ys : List Int) (t : TypeId) (hm : Mem w0 w (Blk g (.cells [.slice A n c].toArray t) :: Own 1 (.slice A n c) (nums .i64 xs) :: L)) (hr : Fact (RdC w 1 (.slice B m d) (nums .i64 ys))) (hn : n + m ≤ 16777216) :
    Calls Try.prog 32 #[.pointer (some ⟨g, 0, none⟩), .slice B m d] w fun e w' => ∃ A' c', e = .returned (.tuple #[]) ∧ Mem w0 w' (Blk g (.cells [.slice A' (n + m) c'].toArray t) :: Own 1 (.slice A' (n + m) c') (nums .i64 (xs ++ ys)) :: L) := by
  obtain ⟨iV, hi, hz0, hz1, hz2⟩ := info_parts inf_long
  have c1 := hm.cell m0 0 rfl
  go_enter Try.func32, Try.ntmps32
  go_wp2_with (at_builtin; refine wp_app rfl _ _ _ rfl 2 iV _ 1 8 ty_longs hi hz0 hz1 hz2 rfl A n c _ rfl (L := Blk _ _ :: L) hm.swap B m d _ rfl hr.out (by unfold maxLen; omega) (by omega) ?_; intro A1 c2 w1 HM1; have HM2 := HM1.swap; have f1 := HM2.free m0 0; have c3 := HM2.cell m0 0 rfl)
  go_end0
  refine ⟨A1, c2, rfl, ?_⟩
  have HM3 := HM2.set 0 (.slice A1 (n + m) c2)
  rw [nums_append]
  simpa using HM3
theorem topL_ok (w0 w : World) (L : List Chunk) (g : Nat) (A : Option Addr) (n c : Nat) (xs : List Int) (t : TypeId) (hm : Mem w0 w L) (hg : Blk g (.cells [.slice A n c].toArray t) ∈ L) (hr : Fact (RdC w 1 (.slice A n c) (nums .i64 xs))) (hn : n ≤ 16777216) (k : Nat) (hk : k ≤ 16777216) (K : Int) (hK : K = k) :
    Calls Try.prog 42 #[.pointer (some ⟨g, 0, none⟩), .int .i64 K] w fun e w' => e = .returned (.tuple #[.int .i64 (if k < n then xs.getD (n - 1 - k) 0 else 0), .bool (decide (k < n))]) ∧ Gr w w' := by
  subst hK
  have c1 := hm.cell hg 0 rfl
  go_enter Try.func42, Try.ntmps42
  by_cases hlt : k < n
  · obtain ⟨b, o, rfl, g1, _⟩ := hr.out.num (n - 1 - k) (by omega)
    generalize xs.getD (n - 1 - k) 0 = x at g1
    have hge : ((k : Int) ≥ (n : Int)) = False := by simp; omega
    have e1 : (n : Int) - 1 - (k : Int) = ((n - 1 - k : Nat) : Int) := by omega
    go_upto_region 4 with (fail)
    go_quiet (fail)
    go_wp2
    go_ret2
    exact ⟨by simp, (Gr.refl _).drewN _⟩
  · go_wp2
    go_ret2
    exact ⟨by simp, Gr.refl _⟩
theorem cutL_ok (w0 w : World) (L : List Chunk) (g : Nat) (A : Option Addr) (n c : Nat) (xs : List Int) (t : TypeId) (hm : Mem w0 w (Blk g (.cells [.slice A n c].toArray t) :: Own 1 (.slice A n c) (nums .i64 xs) :: L)) (_hn : n ≤ 16777216) (k : Nat) (hk : k ≤ n) (K : Int) (hK : K = k) :
    Calls Try.prog 43 #[.pointer (some ⟨g, 0, none⟩), .int .i64 K] w fun e w' => e = .returned (.bool true) ∧ Mem w0 w' (Blk g (.cells [.slice A k k].toArray t) :: Own 1 (.slice A k k) (nums .i64 (xs.take k)) :: L) := by
  subst hK
  have c1 := hm.cell m0 0 rfl
  have f1 := hm.free m0 0
  have hcap := OwnAt.cap (hm.ok _ m1)
  go_enter Try.func43, Try.ntmps43
  go_wp2
  go_ret
  refine ⟨rfl, ?_⟩
  have HM1 := hm.set 0 (.slice A k k)
  simp only [List.set_cons_zero] at HM1
  have HM2 := ((HM1.swap).recut k k hk (Nat.le_refl _) (by omega)).swap
  rw [Nat.mul_one, ← nums_take] at HM2
  exact HM2
theorem cutNo_ok (w0 w : World) (L : List Chunk) (g : Nat) (A : Option Addr) (n c : Nat) (t : TypeId) (hm : Mem w0 w L) (hg : Blk g (.cells [.slice A n c].toArray t) ∈ L) (k : Int) (hk : k < 0 ∨ (n : Int) < k) :
    Calls Try.prog 43 #[.pointer (some ⟨g, 0, none⟩), .int .i64 k] w fun e w' => e = .returned (.bool false) ∧ w' = w := by
  have c1 := hm.cell hg 0 rfl
  go_enter Try.func43, Try.ntmps43
  rcases hk with hk | hk
  · go_wp2
    go_ret
    exact ⟨rfl, rfl⟩
  · have hk0 : (k < 0) = False := by simp; omega
    go_wp2
    go_ret
    exact ⟨rfl, rfl⟩
theorem popNo_ok (w0 w : World) (L : List Chunk) (g : Nat) (A : Option Addr) (n c : Nat) (t : TypeId) (hm : Mem w0 w L) (hg : Blk g (.cells [.slice A n c].toArray t) ∈ L) (hn : n ≤ 16777216) (k : Int) (hk : k = -1 ∨ ((n : Int) < k ∧ k ≤ 16777217)) :
    Calls Try.prog 36 #[.pointer (some ⟨g, 0, none⟩), .int .i64 k] w fun e w' => e = .returned (.tuple #[.slice none 0 0, .bool false]) ∧ w' = w := by
  have c1 := hm.cell hg 0 rfl
  go_enter Try.func36, Try.ntmps36
  rcases hk with rfl | ⟨hk, hk2⟩
  · go_wp2
    go_ret2
    exact ⟨rfl, rfl⟩
  · have hk0 : (k < 0) = False := by simp; omega
    have e1 : IntKind.i64.wrap ((n : Int) - k) = n - k := IntWalk.i64_in _ (by omega)
    have hk1 : ((n : Int) - k < 0) = True := by simp; omega
    go_wp2
    go_ret2
    exact ⟨rfl, rfl⟩
/-- The last k come off. -/
theorem popL_ok (w0 w : World) (L : List Chunk) (g : Nat) (A : Option Addr) (n c : Nat) (xs : List Int) (t : TypeId) (hm : Mem w0 w (Blk g (.cells [.slice A n c].toArray t) :: Own 1 (.slice A n c) (nums .i64 xs) :: L)) (hn : n ≤ 16777216) (k : Nat) (hk : k ≤ n) (K : Int) (hK : K = k) :
    Calls Try.prog 36 #[.pointer (some ⟨g, 0, none⟩), .int .i64 K] w fun e w' => ∃ A' c', e = .returned (.tuple #[.slice A' k c', .bool true]) ∧
      Mem w0 w' (Blk g (.cells [.slice A (n - k) (n - k)].toArray t) :: Own 1 (.slice A (n - k) (n - k)) (nums .i64 (xs.take (n - k))) :: Own 1 (.slice A' k c') (nums .i64 (xs.drop (n - k))) :: L) := by
  subst hK
  have c1 := hm.cell m0 0 rfl
  have f1 := hm.free m0 0
  have hcap := OwnAt.cap (hm.ok _ m1)
  have hr := hm.rd m1
  obtain ⟨iV, hi, hz0, hz1, hz2⟩ := info_parts inf_long
  have e1 : (n : Int) - (k : Int) = ((n - k : Nat) : Int) := by omega
  go_enter Try.func36, Try.ntmps36
  by_cases hc : c = 0
  · subst hc
    obtain rfl : n = 0 := by omega
    obtain rfl : k = 0 := by omega
    obtain rfl : xs = [] := List.eq_nil_of_length_eq_zero (by simpa using hr.len)
    go_upto_region 4 with (fail)
    clear e1
    cases A with
    | none =>
      go_wp2_with (at_builtin; refine wp_app rfl _ _ _ rfl 2 iV _ 1 8 ty_longs hi hz0 hz1 hz2 rfl none 0 0 [] rfl (hm.nil 1 none) _ 0 _ _ rfl (RdC.empty _ _ _ _ (by omega)) (by unfold maxLen; omega) (by omega) ?_; intro A1 c2 w1 HM1)
      refine (cutL_ok w0 w1 (Own 1 (.slice A1 (0 + 0) c2) _ :: L) g _ 0 0 _ t HM1.back2 hn 0 (by omega) _ (by omega)).mono ?_
      rintro e w2 ⟨rfl, hm2⟩
      go_wp2
      go_ret2
      exact ⟨A1, c2, by simp, by simpa [nums] using hm2⟩
    | some a =>
      go_wp2_with (at_builtin; refine wp_app rfl _ _ _ rfl 2 iV _ 1 8 ty_longs hi hz0 hz1 hz2 rfl none 0 0 [] rfl (hm.nil 1 none) _ 0 _ _ rfl (RdC.empty _ _ _ _ (by omega)) (by unfold maxLen; omega) (by omega) ?_; intro A1 c2 w1 HM1)
      refine (cutL_ok w0 w1 (Own 1 (.slice A1 (0 + 0) c2) _ :: L) g _ 0 0 _ t HM1.back2 hn 0 (by omega) _ (by omega)).mono ?_
      rintro e w2 ⟨rfl, hm2⟩
      go_wp2
      go_ret2
      exact ⟨A1, c2, by simp, by simpa [nums] using hm2⟩
  · obtain ⟨g0, o0, rfl⟩ := OwnAt.addr (hm.ok _ m1) hc
    by_cases hck : c = n - k
    · obtain rfl : k = 0 := by omega
      obtain rfl : c = n := by omega
      clear e1 hck
      go_upto_region 4 with (fail)
      go_wp2_with (at_builtin; refine wp_app rfl _ _ _ rfl 2 iV _ 1 8 ty_longs hi hz0 hz1 hz2 rfl none 0 0 [] rfl (hm.nil 1 none) _ 0 _ _ rfl (RdC.empty _ _ _ _ (by omega)) (by unfold maxLen; omega) (by omega) ?_; intro A1 c2 w1 HM1)
      refine (cutL_ok w0 w1 (Own 1 (.slice A1 (0 + 0) c2) _ :: L) g _ c c _ t HM1.back2 hn c (by omega) _ (by omega)).mono ?_
      rintro e w2 ⟨rfl, hm2⟩
      go_wp2
      go_ret2
      exact ⟨A1, c2, by simp, by simpa [nums, List.drop_eq_nil_of_le (show (List.map (Value.int .i64) xs).length ≤ c by have := hr.nlen; simp; omega)] using hm2⟩
    · have e2 : n - (n - k) = k := by omega
      have hr2 := hr.behind (n - k) (by omega)
      rw [Nat.mul_one, e2] at hr2
      go_upto_region 4 with (fail)
      go_wp2_with (at_builtin; refine wp_app rfl _ _ _ rfl 2 iV _ 1 8 ty_longs hi hz0 hz1 hz2 rfl none 0 0 [] rfl (hm.nil 1 none) _ k _ _ rfl hr2 (by unfold maxLen; omega) (by omega) ?_; intro A1 c2 w1 HM1)
      refine (cutL_ok w0 w1 (Own 1 (.slice A1 (0 + k) c2) _ :: L) g _ n c _ t HM1.back2 hn (n - k) (by omega) _ (by omega)).mono ?_
      rintro e w2 ⟨rfl, hm2⟩
      go_wp2
      go_ret2
      exact ⟨A1, c2, by simp, by simpa [nums] using hm2⟩
theorem newL_ok (w : World) (B : Option Addr) (m d : Nat) (ys : List Int) (hr : Fact (RdC w 1 (.slice B m d) (nums .i64 ys))) (hn : m ≤ 16777216) :
    Calls Try.prog 28 #[.slice B m d] w fun e w' => ∃ g A' c', e = .returned (.pointer (some ⟨g, 0, none⟩)) ∧ Mem w w' [Blk g (.cells [.slice A' m c'].toArray 140), Own 1 (.slice A' m c') (nums .i64 ys)] := by
  go_enter Try.func28, Try.ntmps28
  go_wp2_with fail
  have hm := ((Mem.start w).nil 1 none).alloc (.cells [.slice none 0 0].toArray 140)
  generalize hg1 : w.heap.size = g1 at hm ⊢
  generalize hw1 : w.alloc (.cells [.slice none 0 0].toArray 140) = w1 at hm ⊢
  refine (pushL_ok w w1 [] g1 none B 0 0 m d [] ys 140 hm ⟨hr.out.gr hm.below⟩ (by omega)).mono ?_
  rintro e w2 ⟨A', c', rfl, hm2⟩
  go_wp2
  go_ret
  exact ⟨g1, A', c', rfl, by simpa using hm2⟩
end Go.Proofs.Ytgflfpepfpekhaa
