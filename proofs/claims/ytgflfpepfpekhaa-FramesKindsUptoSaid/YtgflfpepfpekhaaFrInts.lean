import Derived.Test.YtgflfpepfpekhaaFrCatch
import Derived.Test.YtgflfpepfpekhaaFrEnter
import Derived.Test.YtgflfpepfpekhaaFrSame
import Derived.Test.YtgflfpepfpekhaaFrLentW
import Derived.Test.YtgflfpepfpekhaaStk
namespace Go.Proofs.Ytgflfpepfpekhaa
open Go.RowKit Go.Mm
set_option maxHeartbeats 1000000
set_option maxRecDepth 100000
def iv (xs : List Int) : List V2 := xs.map fun x => (2, x)
theorem ints_ok (w : World) (A : Option Addr) (n c : Nat) (xs : List Int) (hx : Fact (RdC w 1 (.slice A n c) (nums .i64 xs))) (hn : n ≤ 4194304) :
    Calls Try.prog 56 #[.slice A n c] w fun e w' => ∃ A' c', e = .returned (.slice A' n c') ∧ New w w' (Own 2 (.slice A' n c') (fV (iv xs))) := by
  obtain ⟨iV, hi, hz0, hz1, hz2⟩ := info_parts inf_V
  have hl : Fact (xs.length = n) := ⟨hx.out.nlen⟩
  go_enter Try.func56, Try.ntmps56
  go_wp2
  go_loopw [3, 4] (fun l v w' => ∃ (k : Nat) (A' : Option Addr) (c' : Nat), v = .int .i64 k ∧ k ≤ n ∧ l = .slice A' k c' ∧ Mem w w' [Own 2 (.slice A' k c') (fV (iv (xs.take k)))]) (fun _ v _ => n - (intOf v).toNat)
  case atStart => exact ⟨0, none, 0, rfl, by omega, rfl, (Mem.start w).nil 2 none⟩
  case round =>
    obtain ⟨k, A', c', rfl, hk, rfl, hm⟩ := hrel
    by_cases hlt : k < n
    · obtain ⟨b, o, rfl, g1, ht⟩ := hx.out.num k hlt
      have g1 := Gr.cell hm.below g1
      have ht := Fact.mk ht
      generalize xs.getD k 0 = x at g1 ht
      go_wp2_with (at_builtin; refine wp_app rfl _ _ _ rfl 41 iV _ 2 16 ty_Vs hi hz0 hz1 hz2 rfl A' k c' _ rfl (L := [Blk _ _]) (hm.alloc _).swap _ 1 1 [.int .i64 2, .int .i64 x] rfl (RdC.lit _ _ _ _ _ rfl (by simp [maxLen]) (cV_one (2, x))) (by unfold maxLen; omega) (by omega) ?_; intro A1 c1 w1 HM1)
      go_roundw
      case rel => exact ⟨k + 1, A1, c1, by go_num, by omega, rfl, by
        have e : fV (iv (xs.take (k + 1))) = fV (iv (xs.take k)) ++ [.int .i64 2, .int .i64 x] := by rw [ht.out, iv, List.map_append, fV_app]; rfl
        rw [e]; exact HM1.only⟩
      case measure => simp [intOf]; omega
    · obtain rfl : k = n := by omega
      rw [List.take_of_length_le (Nat.le_of_eq hl.out)] at hm
      go_wp2
      go_ret
      exact ⟨A', c', rfl, hm.new_of⟩
def kMain : Fn := ⟨⟨#[109, 97, 105, 110]⟩, 0, 1, none, 0, 0, [], none, 0, 0, []⟩
def kF (gh : Nat) : Fn := ⟨⟨#[102]⟩, 2, 3, none, 0, 0, [], some ⟨gh, 0, none⟩, 2, 2, [(0, 4, 7, 1), (2, 6, 9, 0)]⟩
def kP (gh gf : Nat) : Pg := ⟨none, 0, 0, [], some ⟨gf, 0, none⟩, 2, 2, [kMain, kF gh]⟩
theorem psone (gf : Nat) : One [.slice none 0 0, .slice (some ⟨gf, 0, none⟩) 2 2] := fun u hu => by simp at hu; rcases hu with rfl | rfl <;> rfl
theorem known_ok (w : World) : Calls Try.prog 86 #[] w fun e w' => ∃ gh gf, e = .returned (vP (kP gh gf)) ∧ Gr w w' ∧ PgOk w' (kP gh gf) := by
  go_enter Try.func86, Try.ntmps86
  go_upto_region 1 with (fail)
  have hm := ((Mem.start w).alloc (.cells [.slice none 0 0, .slice none 0 0].toArray 25))
  generalize hgX : w.heap.size = g at hm ⊢
  generalize hwX : (w.alloc (.cells [.slice none 0 0, .slice none 0 0].toArray 25)) = w1 at hm
  try refine wp_world hwX ?_
  clear hwX hgX
  go_upto_region 2 with (fail)
  have hm2 := hm.alloc (.cells [.int .i64 0, .int .i64 4, .int .i64 7, .int .i64 1, .int .i64 2, .int .i64 6, .int .i64 9, .int .i64 0].toArray 145)
  generalize w1.heap.size = gh at hm2 ⊢
  generalize w1.alloc (.cells [.int .i64 0, .int .i64 4, .int .i64 7, .int .i64 1, .int .i64 2, .int .i64 6, .int .i64 9, .int .i64 0].toArray 145) = w2 at hm2 ⊢
  go_upto_region 3 with (refine wp_setrow rfl 87 _ _ rfl _ rfl 87 _ [.string ⟨#[109, 97, 105, 110]⟩, .int .i64 0, .int .i64 1, .slice none 0 0, .slice none 0 0] rfl (hm2.alloc _) szF rfl (cF_one kMain) ?_; intro w3 hm3)
  generalize w2.heap.size = g2 at hm3 ⊢
  go_wp2_with (first | (refine wp_rng rfl 87 _ rfl g2 0 rfl [.string ⟨#[109, 97, 105, 110]⟩, .int .i64 0, .int .i64 1, .slice none 0 0, .slice none 0 0] (rng_blk hm3 m0) row_F szF ?_) | (refine wp_setrow rfl 25 _ _ rfl _ rfl 25 _ [.slice none 0 0, .slice (some ⟨w3.heap.size, 0, none⟩) 2 2] rfl ((hm3.alloc _).pull3) szP rfl (psone _) ?_; intro w4 hm4))
  refine bodyPost_ret (Mm.res_cell rfl _ g 25 [.slice none 0 0, .slice (some ⟨w3.heap.size, 0, none⟩) 2 2] (0, 0) rfl hm4 m0 row_P szP) rfl ⟨gh, w3.heap.size, rfl, hm4.below, ?_⟩
  have hr1 : RdC w4 5 (.slice (some ⟨w3.heap.size, 0, none⟩) 2 2) (fF [kMain, kF gh]) := hm4.rdblk m1 2 5 rfl (by simp [maxLen]) (fF_one [kMain, kF gh])
  have hr2 : RdC w4 4 (.slice (some ⟨gh, 0, none⟩) 2 2) (fH [(0, 4, 7, 1), (2, 6, 9, 0)]) := hm4.rdblk m3 2 4 rfl (by simp [maxLen]) (One.flatMap cH_one [(0, 4, 7, 1), (2, 6, 9, 0)])
  refine ⟨RdC.nil _ _, hr1, fun f hf => ?_, ⟨by simp [kP], fun f hf => ?_⟩⟩
  · simp only [kP, List.mem_cons, List.not_mem_nil, or_false] at hf
    rcases hf with rfl | rfl
    · exact ⟨RdC.nil _ _, RdC.nil _ _⟩
    · exact ⟨RdC.nil _ _, hr2⟩
  · simp only [kP, List.mem_cons, List.not_mem_nil, or_false] at hf
    rcases hf with rfl | rfl
    · exact ⟨by simp [kMain], by simp [kMain]⟩
    · exact ⟨by simp [kF], by simp [kF]⟩
end Go.Proofs.Ytgflfpepfpekhaa
