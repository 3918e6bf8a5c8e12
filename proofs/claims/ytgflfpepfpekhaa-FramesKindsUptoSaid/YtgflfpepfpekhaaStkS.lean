/- A stack of texts: New, Push, Pop, Cut, Len. Its things are read as raw cells. -/
import Derived.Test.YtgflfpepfpekhaaStkRef
namespace Go.Proofs.Ytgflfpepfpekhaa
open Go.RowKit Go.Mm
set_option maxHeartbeats 1000000
set_option maxRecDepth 100000
set_option linter.unusedSimpArgs false
theorem ty_strs : Try.prog.underlying 102 = some (.slice 9) := by kernel_rfl
theorem inf_str : (Try.prog.info? 9).map (fun i => (i.zero, i.size, i.bytes)) = some (some (.string ⟨#[]⟩), 1, 16) := by kernel_rfl
theorem lenS_ok (w0 w : World) (L : List Chunk) (g : Nat) (A : Option Addr) (n c : Nat) (t : TypeId) (hm : Mem w0 w L) (hg : Blk g (.cells [.slice A n c].toArray t) ∈ L) :
    Calls Try.prog 60 #[.pointer (some ⟨g, 0, none⟩)] w fun e w' => e = .returned (.int .i64 n) ∧ w' = w := by
  have c1 := hm.cell hg 0 rfl
  go_enter Try.func60, Try.ntmps60
  go_wp2
  go_ret
  exact ⟨rfl, rfl⟩
theorem pushS_ok (w0 w : World) (L : List Chunk) (g : Nat) (A B : Option Addr) (n c m d : Nat) (xs ys : List Value) (t : TypeId) (hm : Mem w0 w (Blk g (.cells [.slice A n c].toArray t) :: Own 1 (.slice A n c) xs :: L)) (hr : Fact (RdC w 1 (.slice B m d) ys)) (hn : n + m ≤ 16777216) :
    Calls Try.prog 53 #[.pointer (some ⟨g, 0, none⟩), .slice B m d] w fun e w' => ∃ A' c', e = .returned (.tuple #[]) ∧ Mem w0 w' (Blk g (.cells [.slice A' (n + m) c'].toArray t) :: Own 1 (.slice A' (n + m) c') (xs ++ ys) :: L) := by
  obtain ⟨iV, hi, hz0, hz1, hz2⟩ := info_parts inf_str
  have c1 := hm.cell m0 0 rfl
  go_enter Try.func53, Try.ntmps53
  go_wp2_with (at_builtin; refine wp_app rfl _ _ _ rfl 9 iV _ 1 16 ty_strs hi hz0 hz1 hz2 rfl A n c _ rfl (L := Blk _ _ :: L) hm.swap B m d _ rfl hr.out (by unfold maxLen; omega) (by omega) ?_; intro A1 c2 w1 HM1; have HM2 := HM1.swap; have f1 := HM2.free m0 0; have c3 := HM2.cell m0 0 rfl)
  go_end0
  refine ⟨A1, c2, rfl, ?_⟩
  have HM3 := HM2.set 0 (.slice A1 (n + m) c2)
  simpa using HM3
theorem cutS_ok (w0 w : World) (L : List Chunk) (g : Nat) (A : Option Addr) (n c : Nat) (xs : List Value) (t : TypeId) (hm : Mem w0 w (Blk g (.cells [.slice A n c].toArray t) :: Own 1 (.slice A n c) xs :: L)) (k : Nat) (hk : k ≤ n) (K : Int) (hK : K = k) :
    Calls Try.prog 87 #[.pointer (some ⟨g, 0, none⟩), .int .i64 K] w fun e w' => e = .returned (.bool true) ∧ Mem w0 w' (Blk g (.cells [.slice A k k].toArray t) :: Own 1 (.slice A k k) (xs.take (k * 1)) :: L) := by
  subst hK
  have c1 := hm.cell m0 0 rfl
  have f1 := hm.free m0 0
  have hcap := OwnAt.cap (hm.ok _ m1)
  go_enter Try.func87, Try.ntmps87
  go_wp2
  go_ret
  refine ⟨rfl, ?_⟩
  have HM1 := hm.set 0 (.slice A k k)
  simp only [List.set_cons_zero] at HM1
  exact ((HM1.swap).recut k k hk (Nat.le_refl _) (by omega)).swap
theorem newS_ok (w : World) :
    Calls Try.prog 50 #[.slice none 0 0] w fun e w' => ∃ g A' c', e = .returned (.pointer (some ⟨g, 0, none⟩)) ∧ Mem w w' [Blk g (.cells [.slice A' 0 c'].toArray 150), Own 1 (.slice A' 0 c') []] := by
  go_enter Try.func50, Try.ntmps50
  go_wp2_with fail
  have hm := ((Mem.start w).nil 1 none).alloc (.cells [.slice none 0 0].toArray 150)
  generalize hg1 : w.heap.size = g1 at hm ⊢
  generalize hw1 : w.alloc (.cells [.slice none 0 0].toArray 150) = w1 at hm ⊢
  refine (pushS_ok w w1 [] g1 none none 0 0 0 0 [] [] 150 hm ⟨RdC.nil _ _⟩ (by omega)).mono ?_
  rintro e w2 ⟨A', c', rfl, hm2⟩
  go_wp2
  go_ret
  exact ⟨g1, A', c', rfl, by simpa using hm2⟩
theorem popNoS_ok (w0 w : World) (L : List Chunk) (g : Nat) (A : Option Addr) (n c : Nat) (t : TypeId) (hm : Mem w0 w L) (hg : Blk g (.cells [.slice A n c].toArray t) ∈ L) (hn : n ≤ 16777216) (k : Int) (hk : k < 0 ∨ (n : Int) < k) (hk2 : k ≤ 9223372036854775807) :
    Calls Try.prog 57 #[.pointer (some ⟨g, 0, none⟩), .int .i64 k] w fun e w' => e = .returned (.tuple #[.slice none 0 0, .bool false]) ∧ w' = w := by
  have c1 := hm.cell hg 0 rfl
  go_enter Try.func57, Try.ntmps57
  rcases hk with hk | hk
  · go_wp2
    go_ret2
    exact ⟨rfl, rfl⟩
  · have hk0 : (k < 0) = False := by simp; omega
    have e1 : IntKind.i64.wrap ((n : Int) - k) = n - k := IntWalk.i64_in _ (by omega)
    have hk1 : ((n : Int) - k < 0) = True := by simp; omega
    go_wp2
    go_ret2
    exact ⟨rfl, rfl⟩
/-- The last k come off. -/
theorem popS_ok (w0 w : World) (L : List Chunk) (g : Nat) (A : Option Addr) (n c : Nat) (xs : List Value) (t : TypeId) (hm : Mem w0 w (Blk g (.cells [.slice A n c].toArray t) :: Own 1 (.slice A n c) xs :: L)) (hn : n ≤ 16777216) (k : Nat) (hk : k ≤ n) (K : Int) (hK : K = k) :
    Calls Try.prog 57 #[.pointer (some ⟨g, 0, none⟩), .int .i64 K] w fun e w' => ∃ A' c', e = .returned (.tuple #[.slice A' k c', .bool true]) ∧
      Mem w0 w' (Blk g (.cells [.slice A (n - k) (n - k)].toArray t) :: Own 1 (.slice A (n - k) (n - k)) (xs.take ((n - k) * 1)) :: Own 1 (.slice A' k c') (xs.drop ((n - k) * 1)) :: L) := by
  subst hK
  have c1 := hm.cell m0 0 rfl
  have hcap := OwnAt.cap (hm.ok _ m1)
  have hr := hm.rd m1
  obtain ⟨iV, hi, hz0, hz1, hz2⟩ := info_parts inf_str
  have e1 : (n : Int) - (k : Int) = ((n - k : Nat) : Int) := by omega
  go_enter Try.func57, Try.ntmps57
  by_cases hc : c = 0
  · subst hc
    obtain rfl : n = 0 := by omega
    obtain rfl : k = 0 := by omega
    obtain rfl : xs = [] := List.eq_nil_of_length_eq_zero (by simpa using hr.len)
    go_upto_region 4 with (fail)
    clear e1
    cases A with
    | none =>
      go_wp2_with (at_builtin; refine wp_app rfl _ _ _ rfl 9 iV _ 1 16 ty_strs hi hz0 hz1 hz2 rfl none 0 0 [] rfl (hm.nil 1 none) _ 0 _ _ rfl (RdC.empty _ _ _ _ (by omega)) (by unfold maxLen; omega) (by omega) ?_; intro A1 c2 w1 HM1)
      refine (cutS_ok w0 w1 (Own 1 (.slice A1 (0 + 0) c2) _ :: L) g _ 0 0 _ t HM1.back2 0 (by omega) _ (by omega)).mono ?_
      rintro e w2 ⟨rfl, hm2⟩
      go_wp2
      go_ret2
      exact ⟨A1, c2, by simp, by simpa using hm2⟩
    | some a =>
      go_wp2_with (at_builtin; refine wp_app rfl _ _ _ rfl 9 iV _ 1 16 ty_strs hi hz0 hz1 hz2 rfl none 0 0 [] rfl (hm.nil 1 none) _ 0 _ _ rfl (RdC.empty _ _ _ _ (by omega)) (by unfold maxLen; omega) (by omega) ?_; intro A1 c2 w1 HM1)
      refine (cutS_ok w0 w1 (Own 1 (.slice A1 (0 + 0) c2) _ :: L) g _ 0 0 _ t HM1.back2 0 (by omega) _ (by omega)).mono ?_
      rintro e w2 ⟨rfl, hm2⟩
      go_wp2
      go_ret2
      exact ⟨A1, c2, by simp, by simpa using hm2⟩
  · obtain ⟨g0, o0, rfl⟩ := OwnAt.addr (hm.ok _ m1) hc
    by_cases hck : c = n - k
    · obtain rfl : k = 0 := by omega
      obtain rfl : c = n := by omega
      clear e1 hck
      go_upto_region 4 with (fail)
      go_wp2_with (at_builtin; refine wp_app rfl _ _ _ rfl 9 iV _ 1 16 ty_strs hi hz0 hz1 hz2 rfl none 0 0 [] rfl (hm.nil 1 none) _ 0 _ _ rfl (RdC.empty _ _ _ _ (by omega)) (by unfold maxLen; omega) (by omega) ?_; intro A1 c2 w1 HM1)
      refine (cutS_ok w0 w1 (Own 1 (.slice A1 (0 + 0) c2) _ :: L) g _ c c _ t HM1.back2 c (by omega) _ (by omega)).mono ?_
      rintro e w2 ⟨rfl, hm2⟩
      go_wp2
      go_ret2
      exact ⟨A1, c2, by simp, by simpa [List.drop_eq_nil_of_le (show xs.length ≤ c by have := hr.len; omega)] using hm2⟩
    · have e2 : n - (n - k) = k := by omega
      have hr2 := hr.behind (n - k) (by omega)
      rw [Nat.mul_one, e2] at hr2
      go_upto_region 4 with (fail)
      go_wp2_with (at_builtin; refine wp_app rfl _ _ _ rfl 9 iV _ 1 16 ty_strs hi hz0 hz1 hz2 rfl none 0 0 [] rfl (hm.nil 1 none) _ k _ _ rfl hr2 (by unfold maxLen; omega) (by omega) ?_; intro A1 c2 w1 HM1)
      refine (cutS_ok w0 w1 (Own 1 (.slice A1 (0 + k) c2) _ :: L) g _ n c _ t HM1.back2 (n - k) (by omega) _ (by omega)).mono ?_
      rintro e w2 ⟨rfl, hm2⟩
      go_wp2
      go_ret2
      exact ⟨A1, c2, by simp, by simpa using hm2⟩
end Go.Proofs.Ytgflfpepfpekhaa
