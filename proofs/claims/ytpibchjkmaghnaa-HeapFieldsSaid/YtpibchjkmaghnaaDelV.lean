/- slices.Delete of one value. -/
import Derived.Test.YtpibchjkmaghnaaDel
namespace Go.Proofs.Ytpibchjkmaghnaa
open Go.RowKit Go.Mm
set_option maxHeartbeats 2000000
set_option maxRecDepth 100000
theorem zero_V (w : World) : (zeroValue 27).run Try.prog w = .ok (.agg #[.int .i64 0, .int .i64 0]) w := by kernel_rfl
theorem delV_ok (w0 w : World) (L : List Chunk) (A : Option Addr) (n c : Nat) (cs : List Value) (hm : Mem w0 w (Own 2 (.slice A n c) cs :: L)) (i : Nat) (hi : i < n) (hn : n ≤ 1048576) (I J : Int) (hI : I = i) (hJ : J = i + 1) :
    Calls Try.prog 55 #[.slice A n c, .int .i64 I, .int .i64 J] w fun e w' => e = .returned (.slice A (n - 1) c) ∧ Mem w0 w' (Own 2 (.slice A (n - 1) c) (cs.take (i * 2) ++ cs.drop (i * 2 + 2)) :: L) := by
  subst hI hJ
  obtain ⟨iV, hi0, hz0, hz1, hz2⟩ := info_parts inf_V
  obtain ⟨p, rfl⟩ : ∃ p, n = p + 1 := ⟨n - 1, by omega⟩
  have hcap := OwnAt.cap (hm.ok _ m0)
  have hlen := OwnAt.len (hm.ok _ m0)
  obtain ⟨g, o, rfl⟩ := OwnAt.addr (hm.ok _ m0) (by omega)
  have hr := hm.rd m0
  have hne : decide ((i : Int) = (i : Int) + 1) = false := decide_eq_false (by omega)
  have e3 : i + (p - i) = p := by omega
  have hlt : ¬ ((p : Int) + 1 < p) := by omega
  go_enter Try.func55, Try.ntmps55
  by_cases hci : c = i + 1
  · obtain rfl : i = p := by omega
    obtain rfl : c = i + 1 := by omega
    go_upto_region 5 with (fail)
    have q1 : ((i : Int) ≤ (i : Int) + 1) = True := eq_true (by omega)
    have q2 : ((0 : Int) ≤ (i : Int) + 1) = True := eq_true (by omega)
    go_still_tail 6, (by kernel_rfl)
    have hm1 := hm.drew
    go_wp2_with (first | (at_builtin; refine wp_app_in rfl _ _ _ rfl 27 iV ty_Vs hi0 hz1 i rfl hm1 _ _ _ _ rfl (RdC.empty _ _ _ _ (by unfold maxLen; omega)) (by omega) ?_; intro w2 hm2) | (refine wp_clear_in (size := 2) rfl _ _ rfl 27 _ ty_Vs zero_V rfl (cV_one (0, 0)) i _ _ _ rfl hm2 rfl (by omega) (by omega) ?_; intro w3 Z hm3))
    go_ret
    refine ⟨rfl, ?_⟩
    have hm4 := hm3.recut i (i + 1) (by omega) (by omega) (Nat.le_refl _)
    have e : List.take (i * 2) (List.take (i * 2) (List.take (i * 2) cs ++ [] ++ List.drop (i * 2 + ([] : List Value).length) cs) ++ Z) = List.take (i * 2) cs ++ List.drop (i * 2 + 2) cs := by
      rw [List.drop_eq_nil_of_le (show cs.length ≤ i * 2 + 2 by omega), List.append_nil, List.take_append_of_le_length (by simp; omega), List.take_append_of_le_length (by simp; omega)]
      simp only [List.take_take, Nat.min_self]
    rw [e] at hm4
    exact hm4
  · have hr2 := hr.behind (i + 1) (by omega)
    rw [Nat.add_sub_add_right] at hr2
    go_upto_region 5 with (fail)
    have q1 : ((i : Int) ≤ (c : Int)) = True := eq_true (by omega)
    have q2 : ((0 : Int) ≤ (i : Int) + 1) = True := eq_true (by omega)
    have q3 : ((i : Int) ≤ (p : Int)) = True := eq_true (by omega)
    have q4 : ((p : Int) + 1 ≤ (c : Int)) = True := eq_true (by omega)
    have q5 : ((i : Int) + 1 ≤ (c : Int)) = True := eq_true (by omega)
    have q6 : ((i : Int) + 1 ≤ (p : Int) + 1) = True := eq_true (by omega)
    go_still_tail 6, (by kernel_rfl)
    have hm1 := hm.drew
    replace hr2 := hr2.gr (Gr.refl w).drew
    clear hr
    go_wp2_with (first | (at_builtin; refine wp_app_in rfl _ _ _ rfl 27 iV ty_Vs hi0 hz1 i rfl hm1 _ _ _ _ rfl hr2 (by omega) ?_; intro w2 hm2; rw [e3]) | (refine wp_clear_in (size := 2) rfl _ _ rfl 27 _ ty_Vs zero_V rfl (cV_one (0, 0)) p _ _ _ rfl hm2 rfl (by omega) (by omega) ?_; intro w3 Z hm3))
    go_ret
    refine ⟨rfl, ?_⟩
    have hm4 := hm3.recut p c (by omega) (by omega) (Nat.le_refl _)
    have hl2 : (List.drop ((i + 1) * 2) cs).length = (p - i) * 2 := by rw [List.length_drop]; omega
    have e : List.take (p * 2) (List.take (p * 2) (List.take (i * 2) cs ++ List.drop ((i + 1) * 2) cs ++ List.drop (i * 2 + (List.drop ((i + 1) * 2) cs).length) cs) ++ Z) = List.take (i * 2) cs ++ List.drop (i * 2 + 2) cs := by
      have h1 : (List.take (i * 2) cs ++ List.drop ((i + 1) * 2) cs).length = p * 2 := by rw [List.length_append, hl2, List.length_take]; omega
      rw [show List.take (p * 2) (List.take (i * 2) cs ++ List.drop ((i + 1) * 2) cs ++ List.drop (i * 2 + (List.drop ((i + 1) * 2) cs).length) cs) = List.take (i * 2) cs ++ List.drop ((i + 1) * 2) cs from List.take_left' h1, List.take_left' h1, Nat.add_mul]
    rw [e] at hm4
    exact hm4
end Go.Proofs.Ytpibchjkmaghnaa
