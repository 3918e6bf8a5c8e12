import Derived.Test.YtgflfpepfpekhaaFrCopy
namespace Go.Proofs.Ytgflfpepfpekhaa
open Go.RowKit Go.Mm
set_option maxHeartbeats 400000
set_option maxRecDepth 100000
theorem cR_at (fn pc : Int) (A : Option Addr) (n c : Nat) (sl : List V2) : cR ⟨fn, pc, A, n, c, sl⟩ = [.int .i64 fn, .int .i64 pc, .slice A n c] := rfl
theorem copyFrame_ok (w : World) (fn pc : Int) (A : Option Addr) (n c : Nat) (sl : List V2) (hx : Fact (RdC w 2 (.slice A n c) (fV sl))) (hn : n ≤ 4194304) :
    Calls Try.prog 47 #[.agg #[.int .i64 fn, .int .i64 pc, .slice A n c]] w fun e w' => ∃ B d, e = .returned (.agg #[.int .i64 fn, .int .i64 pc, .slice B n d]) ∧ New w w' (Own 2 (.slice B n d) (fV sl)) := by
  go_enter Try.func47, Try.ntmps47
  go_upto_region 1 with (fail)
  have hm := (((Mem.start w).alloc (.cells [.int .i64 fn, .int .i64 pc, .slice A n c].toArray 30)).alloc (.cells (cR fr0).toArray 30))
  simp only [World.size_alloc] at hm
  generalize hgX : w.heap.size = g at hm ⊢
  generalize hwX : ((w.alloc (.cells [.int .i64 fn, .int .i64 pc, .slice A n c].toArray 30)).alloc (.cells (cR fr0).toArray 30)) = w1 at hm
  try refine wp_world hwX ?_
  clear hwX hgX
  go_upto_region 2 with (first | (refine wp_rng rfl 30 _ rfl g 0 rfl [.int .i64 fn, .int .i64 pc, .slice A n c] (rng_blk hm m1) row_R szR ?_) | (refine wp_setrow rfl 30 _ _ rfl _ rfl 30 _ [.int .i64 fn, .int .i64 pc, .slice A n c] rfl (hm.alloc _) szR rfl (cR_one ⟨fn, pc, A, n, c, sl⟩) ?_; intro w2 hm2))
  generalize w1.heap.size = g3 at hm2 ⊢
  have c1 := hm2.cell m2 2 rfl
  have c2 := hm2.cell m0 2 rfl
  have f2 := hm2.free m0 2
  have hr := Fact.mk (hx.out.gr hm2.below)
  go_wp2_with fail
  refine (copyValues_ok w2 A n c sl hr hn).mono ?_
  rintro e w3 ⟨B, d, rfl, hnw⟩
  have hm3 := hm2.new hnw
  have c2 := hm3.cell m1 2 rfl
  have f2 := hm3.free m1 2
  have hm4 := hm3.swap.set 2 (.slice B n d)
  simp only [List.set_cons_succ, List.set_cons_zero] at hm4
  clear hnw hm2
  go_upto_region 3 with (fail)
  generalize w3.setCell _ _ = w4 at hm4 ⊢
  go_wp2_with (first | (refine wp_rng rfl 30 _ rfl g3 0 rfl [.int .i64 fn, .int .i64 pc, .slice B n d] (rng_blk hm4 m0) row_R szR ?_) | (refine wp_setrow rfl 30 _ _ rfl _ rfl 30 _ [.int .i64 fn, .int .i64 pc, .slice B n d] rfl hm4.pull2 szR rfl (cR_one ⟨fn, pc, B, n, d, sl⟩) ?_; intro w5 hm5))
  refine bodyPost_ret (Mm.res_cell rfl _ (g + 1) 30 [.int .i64 fn, .int .i64 pc, .slice B n d] (0, 0) rfl hm5 m0 row_R szR) rfl ⟨B, d, rfl, (hm5.sub (.cons _ (.cons _ (.cons_cons _ (List.nil_sublist _))))).new_of⟩
theorem copyFrames_ok (w : World) (N : Nat) (A : Option Addr) (n c : Nat) (xs : List Fr) (hx : Fact (FrsOk N w A n c xs)) (hn : n ≤ 1048577) (hN : N ≤ 2000000) :
    Calls Try.prog 26 #[.slice A n c] w fun e w' => ∃ A' c' ys, e = .returned (.slice A' n c') ∧ Mem w w' (Own 3 (.slice A' n c') (fR ys) :: slots ys) ∧ ys.map Fr.data = xs.map Fr.data ∧ ∀ y, y ∈ ys → y.n ≤ N := by
  obtain ⟨iR, hi, hz0, hz1, hz2⟩ := info_parts inf_R
  have hl := Fact.mk hx.out.len
  go_enter Try.func26, Try.ntmps26
  go_wp2
  go_loopw [3, 4] (fun l v w' => ∃ (k : Nat) (A' : Option Addr) (c' : Nat) (ys : List Fr), v = .int .i64 k ∧ k ≤ n ∧ l = .slice A' k c' ∧ Mem w w' (Own 3 (.slice A' k c') (fR ys) :: (slots ys ++ [])) ∧ Fact (ys.map Fr.data = (xs.take k).map Fr.data ∧ (∀ y, y ∈ ys → y.n ≤ N) ∧ ys.length = k)) (fun _ v _ => n - (intOf v).toNat)
  case atStart => exact ⟨0, none, 0, [], rfl, by omega, rfl, by simpa [slots, fR] using (Mem.start w).nil 3 none, ⟨by simp, by simp, rfl⟩⟩
  case round =>
    obtain ⟨k, A', c', ys, rfl, hk, rfl, hm, hd⟩ := hrel
    by_cases hlt : k < n
    · obtain ⟨b, o, rfl, r1, hok, _⟩ := hx.out.at k hlt
      have hxe : ∃ x, Fact (xs.getD k fr0 = x) := ⟨_, ⟨rfl⟩⟩
      obtain ⟨x, hxe⟩ := hxe
      rw [hxe.out] at r1 hok
      have r1 := rng_gr r1 hm.below
      have hok := Fact.mk (hok.gr hm.below)
      obtain ⟨xfn, xpc, xA, xn, xc, xsl⟩ := x
      have hxn : xn ≤ N := hok.out.2
      go_upto_region 5 with (fail)
      go_wp2_with (refine wp_rng rfl 30 _ rfl b _ rfl [.int .i64 xfn, .int .i64 xpc, .slice xA xn xc] r1 row_R szR ?_)
      refine (copyFrame_ok wr xfn xpc xA xn xc xsl ⟨hok.out.1⟩ (by omega)).mono ?_
      rintro e w2 ⟨B, d, rfl, hnw⟩
      have hm2 := hm.new hnw
      clear hnw hm r1 hok
      go_upto_region 6 with (refine wp_setrow rfl 30 _ _ rfl _ rfl 30 _ [.int .i64 xfn, .int .i64 xpc, .slice B xn d] rfl (hm2.alloc _) szR rfl (cR_one ⟨xfn, xpc, B, xn, d, xsl⟩) ?_; intro w3 hm3)
      generalize w2.heap.size = g5 at hm3 ⊢
      go_wp2_with (first | (refine wp_rng rfl 30 _ rfl g5 0 rfl [.int .i64 xfn, .int .i64 xpc, .slice B xn d] (rng_blk hm3 m0) row_R szR ?_) | (at_builtin; (refine wp_app rfl _ _ _ rfl 30 iR _ 3 40 ty_Rs hi hz0 hz1 hz2 rfl A' k c' _ rfl ((hm3.alloc _).pull3) _ 1 1 (cR ⟨xfn, xpc, B, xn, d, xsl⟩) rfl (RdC.lit _ _ _ _ _ rfl (by simp [maxLen]) (cR_one ⟨xfn, xpc, B, xn, d, xsl⟩)) (by unfold maxLen; omega) (by omega) ?_); intro A1 c1 w4 HM1))
      go_roundw
      case rel =>
        have HM2 := (HM1.sub (.cons_cons _ (.cons _ (.cons _ (List.Sublist.refl _))))).swap
        have HM3 := slots_snoc (⟨xfn, xpc, B, xn, d, xsl⟩ : Fr) HM2
        have hd1 := hd.out.1
        have hd2 := hd.out.2.1
        have hd3 := hd.out.2.2
        refine ⟨k + 1, A1, c1, ys ++ [⟨xfn, xpc, B, xn, d, xsl⟩], by go_num, by omega, rfl, ?_, ⟨data_at hd1 (by have := hl.out; omega) _ (by rw [hxe.out]; rfl), fun y hy => ?_, by simp [hd3]⟩⟩
        · rw [fR_app]; simpa [fR] using HM3
        · rcases List.mem_append.1 hy with hy | hy
          · exact hd2 y hy
          · simp at hy; subst hy; exact hxn
      case measure => simp [intOf]; omega
    · obtain rfl : k = n := by omega
      have hd := hd.out
      rw [List.take_of_length_le (by have := hl.out; omega)] at hd
      go_wp2
      go_ret
      exact ⟨A', c', ys, rfl, by simpa using hm, hd.1, hd.2.1⟩
end Go.Proofs.Ytgflfpepfpekhaa
