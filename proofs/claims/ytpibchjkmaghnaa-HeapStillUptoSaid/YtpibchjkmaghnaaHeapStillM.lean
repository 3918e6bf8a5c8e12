/- HeapStill: the walk. -/
import Derived.Test.YtpibchjkmaghnaaHSe
import Derived.Test.YtpibchjkmaghnaaHSa
import Derived.Test.YtpibchjkmaghnaaHSf
namespace Go.Proofs.Ytpibchjkmaghnaa
open Go.RowKit Go.Mm Go.WideShapes Go.ChangeShapes
set_option maxHeartbeats 8000000
set_option maxRecDepth 100000
set_option linter.unusedSimpArgs false
theorem ObsR.of {w0 w : World} {L : List Chunk} {A : Option Addr} {n c : Nat} {ys : List RO} (hm : Mem w0 w L) (h1 : Own 6 (.slice A n c) (ys.flatMap cRO) ∈ L) (h2 : ∀ y, y ∈ ys → RoC y ∈ L) : ObsR w A n c ys :=
  ⟨(hm.ok _ h1).rd, fun y hy => RoC.reads (hm.ok _ (h2 y hy))⟩
theorem perm_w4 {α : Type} (a b c d : α) (Y L : List α) : (a :: b :: (Y ++ (c :: d :: L))).Perm (a :: d :: c :: b :: (Y ++ L)) := by
  refine .cons a ?_
  have h1 : (Y ++ (c :: d :: L)).Perm (d :: c :: (Y ++ L)) := by
    refine (List.perm_middle).trans ?_
    refine (List.Perm.cons c List.perm_middle).trans ?_
    exact .swap _ _ _
  refine (h1.cons b).trans ?_
  refine (List.Perm.swap _ _ _).trans ?_
  exact (List.Perm.swap _ _ _).cons d
theorem perm_w3 {α : Type} (a b c : α) (Y L : List α) : (a :: b :: (Y ++ (c :: L))).Perm (a :: c :: b :: (Y ++ L)) := by
  refine .cons a ?_
  exact (List.perm_middle.cons b).trans (.swap _ _ _)
theorem objs_ok {h : Hp} (hok : h.Ok) {ys : List RO} (hys : ys.map (·.ob) = h.objs.take h.ths.length) : ys.map (·.ob) = h.objs ∧ ∀ x, x ∈ ys → x.ob.items.length ≤ 16777216 ∧ x.ob.keys.length ≤ 16777216 := by
  have e : ys.map (·.ob) = h.objs := by rw [hys, List.take_of_length_le (by rw [h.abs_len]; omega)]
  refine ⟨e, fun x hx => ?_⟩
  have := hok.sz (o := x.ob) (by rw [← e]; exact List.mem_map_of_mem hx)
  omega
theorem m9 {α : Type} {a b c d e f g h i x : α} {l : List α} : x ∈ a :: b :: c :: d :: e :: f :: g :: h :: i :: x :: l := .tail _ m8
theorem m10 {α : Type} {a b c d e f g h i j x : α} {l : List α} : x ∈ a :: b :: c :: d :: e :: f :: g :: h :: i :: j :: x :: l := .tail _ m9
theorem m11 {α : Type} {a b c d e f g h i j k x : α} {l : List α} : x ∈ a :: b :: c :: d :: e :: f :: g :: h :: i :: j :: k :: x :: l := .tail _ m10
theorem few_nil (g : Nat) (b s : Int) : (Hp.abs ⟨g, b, s, none, 0, []⟩).Few := fun o ho => by simp [Hp.abs, Hp.objs] at ho
theorem wider_walk (W w0 : World) (L : List Chunk) (hm0 : Mem W w0 L) (budget more : Int) (A : Option Addr) (m c : Nat) (ops : List HOp) (hs : Fact (RdC W 9 (.slice A m c) (ops.flatMap cHO))) (hit : Fact (OpsOk W ops)) (hmm : m ≤ 1048576) :
    Calls Try.prog 49 #[.int .i64 budget, .int .i64 more, .slice A m c] w0 fun e w' => e = .returned (.bool true) ∧ Mem W w' L := by
  have H : Fact (PlayG W [0, 1, 2, 3, 4, 5, 6, 7, 8, 9, 10, 11, 12, 13, 14, 15, 16, 17, 18, 19] callS allR) := ⟨all_play W⟩
  have hpk20 := fun w k => pickF_ok w k 20 20 rfl (by omega) (by omega)
  have hpr20 := fun k => pickF_rng k 20 (by omega)
  replace hpk20 := Fact.mk hpk20
  replace hpr20 := Fact.mk hpr20
  go_enter Try.func49, Try.ntmps49
  go_wp2_with fail
  refine (pickF_ok w0 budget 1048574 1048574 rfl (by omega) (by omega)).mono ?_
  rintro e w1 ⟨rfl, rfl⟩
  have hp := pickF_rng budget 1048574 (by omega)
  generalize pickF budget 1048574 = p at hp ⊢
  go_wp2_with fail
  refine (heapNew_ok W w1 L hm0 (2 + p) 0).mono ?_
  rintro e w2 ⟨g1, rfl, hm2⟩
  rw [show max (2 + p) 0 = 2 + p by omega, show max (0 : Int) 0 = 0 from rfl] at hm2
  go_wp2_with fail
  refine (pickF_ok w2 more 1048576 1048576 rfl (by omega) (by omega)).mono ?_
  rintro e w3 ⟨rfl, rfl⟩
  have hq := pickF_rng more 1048576 (by omega)
  generalize pickF more 1048576 = q at hq ⊢
  go_wp2_with fail
  refine (heapNew_ok W w3 _ hm2 (2 + p + q) 0).mono ?_
  rintro e w4 ⟨g2, rfl, hm4⟩
  rw [show max (2 + p + q) 0 = 2 + p + q by omega, show max (0 : Int) 0 = 0 from rfl] at hm4
  have hok1 : Fact (Hp.Ok ⟨g1, 2 + p, 0, none, 0, []⟩) := ⟨⟨by simp, by simp, by show (0 : Int) ≤ 2 + p; omega, by show 2 + p ≤ _; omega, by show (0 : Int) ≤ 0; omega, by show (0 : Int) ≤ _; omega⟩⟩
  have hok2 : Fact (Hp.Ok ⟨g2, 2 + p + q, 0, none, 0, []⟩) := ⟨⟨by simp, by simp, by show (0 : Int) ≤ 2 + p + q; omega, by show 2 + p + q ≤ _; omega, by show (0 : Int) ≤ 0; omega, by show (0 : Int) ≤ _; omega⟩⟩
  have hmk : ∀ (g : Nat) (b : Int), 2 ≤ b → (Hp.abs ⟨g, b, 0, none, 0, []⟩).makeR true 2 7 = .tuple #[.agg #[.int .i64 7, .int .i64 0], .bool true] ∧ (Hp.abs ⟨g, b, 0, none, 0, []⟩).make true 2 ⟨7, [], [], 0, 0, false⟩ = ⟨b, 2, [⟨7, [], [], 0, 0, false⟩]⟩ := fun g b hb => by
    have hr : (Hp.abs ⟨g, b, 0, none, 0, []⟩).room 2 = true := by unfold Hs.room Hp.abs; simp; omega
    unfold Hs.makeR Hs.make
    rw [hr]
    exact ⟨rfl, rfl⟩
  go_wp2_with fail
  refine (record_ok W w4 _ ⟨g1, 2 + p, 0, none, 0, []⟩ hm4.swap hok1 (by simp)).mono ?_
  rintro e w5 ⟨rfl, h1, hg1, ha1, ho1, hm5⟩
  rw [(hmk g1 (2 + p) (by omega)).1]
  rw [(hmk g1 (2 + p) (by omega)).2] at ha1
  clear hm2 hm4
  go_wp2_with (refine wp_setrow rfl 27 _ _ rfl w5.heap.size rfl 27 _ [.int .i64 7, .int .i64 0] rfl (hm5.alloc _) sz_V rfl (cV_one (7, 0)) ?_; intro w6 hm6)
  generalize w5.heap.size = ga at hm6 ⊢
  clear hm5
  refine (record_ok W w6 _ ⟨g2, 2 + p + q, 0, none, 0, []⟩ hm6.pull2 hok2 (by simp)).mono ?_
  rintro e w7 ⟨rfl, h2, hg2, ha2, ho2, hm7⟩
  rw [(hmk g2 (2 + p + q) (by omega)).1]
  rw [(hmk g2 (2 + p + q) (by omega)).2] at ha2
  clear hm6 hmk
  have xa0 := hm7.cell m1 0 rfl
  have xa1 := hm7.cell m1 1 rfl
  replace hg1 := Fact.mk hg1
  replace hg2 := Fact.mk hg2
  go_wp2_with (refine wp_setrow rfl 27 _ _ rfl w7.heap.size rfl 27 _ [.int .i64 7, .int .i64 0] rfl (hm7.alloc _) sz_V rfl (cV_one (7, 0)) ?_; intro w8 hm8; have xb0 := hm8.cell m0 0 rfl; have xb1 := hm8.cell m0 1 rfl; have xa0 := hm8.cell m2 0 rfl; have xa1 := hm8.cell m2 1 rfl)
  have hstart : Fact (∃ (h1 h2 : Hp), h1.g = g1 ∧ h2.g = g2 ∧ h1.Ok ∧ h2.Ok ∧ h1.abs.Few ∧ h2.abs.Few ∧ h1.abs.Wid h2.abs ∧ h1.budget = 2 + p ∧ h1.ths.length ≤ 0 + 1 ∧ Mem W w8 (HpC h1 :: HpC h2 :: L)) := by
    have hf : ∀ (b s : Int), (⟨b, s, [⟨7, [], [], 0, 0, false⟩]⟩ : Hs).Few := fun b s o ho => by
      simp only [List.mem_singleton] at ho
      subst ho
      exact ⟨fun h => (by cases h), fun _ => by simp⟩
    refine ⟨⟨h1, h2, hg1.out, hg2.out, ho1, ho2, by rw [ha1]; exact hf _ _, by rw [ha2]; exact hf _ _, by rw [ha1, ha2]; exact ⟨by show 2 + p ≤ 2 + p + q; omega, rfl, rfl⟩, congrArg Hs.budget ha1, by rw [← h1.abs_len', ha1]; simp, ?_⟩⟩
    exact ((hm8.tail.swap.tail).swap).sub (.cons_cons _ (.cons_cons _ (.refl _)))
  clear xa0 xa1 xb0 xb1 hm7 hm8 ho1 ho2 ha1 ha2 hg1 hg2 hok1 hok2
  go_loopw [14] (fun s14 w' => ∃ (k : Nat), s14 = .int .i64 k ∧ k ≤ m ∧ ∃ (h1 h2 : Hp), h1.g = g1 ∧ h2.g = g2 ∧ h1.Ok ∧ h2.Ok ∧ h1.abs.Few ∧ h2.abs.Few ∧ h1.abs.Wid h2.abs ∧ h1.budget = 2 + p ∧ h1.ths.length ≤ k + 1 ∧ Mem W w' (HpC h1 :: HpC h2 :: L)) (fun s14 _ => m - (intOf s14).toNat)
  case atStart => exact ⟨0, rfl, by omega, hstart.out⟩
  case round =>
    obtain ⟨k, rfl, hk, h1, h2, rfl, rfl, hok1, hok2, hf1, hf2, hwid, hbud, hlen, hmr⟩ := hrel
    clear hstart
    replace hok1 := Fact.mk hok1
    replace hok2 := Fact.mk hok2
    replace hf1 := Fact.mk hf1
    replace hf2 := Fact.mk hf2
    replace hwid := Fact.mk hwid
    replace hbud := Fact.mk hbud
    have hlen2 : h2.ths.length = h1.ths.length := by rw [← h1.abs_len', ← h2.abs_len', hwid.out.obj]
    by_cases hlt : k < m
    · obtain ⟨b, o, rfl, hc, hkm⟩ := rdHO_at hs.out k hlt
      have hxm : ops.getD k hop0 ∈ ops := by rw [List.getD_eq_getElem?_getD, List.getElem?_eq_getElem hkm]; exact List.getElem_mem hkm
      generalize ops.getD k hop0 = x at hc hxm
      obtain ⟨hxr, hxn, hxw⟩ := hit.out x hxm
      have hxw := Fact.mk hxw
      have hxr := Fact.mk hxr
      have hc := Fact.mk hc
      have wrapk : wrap64 ((k : Int) + 1) = (k : Int) + 1 := IntWalk.wrap64_in _ (by omega)
      clear hxm hkm
      go_upto_region 14 with (first | (refine wp_rng rfl 32 _ rfl b (o + k * 9) rfl (cHO x) (rng_gr hc.out hmr.below) row_HO sz_HO ?_) | (refine wp_setrow rfl 32 _ _ rfl wr.heap.size rfl 32 _ (cHO x) rfl (hmr.alloc _) sz_HO rfl (cHO_one x) ?_; intro w6 hm6))
      generalize wr.heap.size = g15 at hm6 ⊢
      have y1 := hm6.cell m0 1 rfl
      clear hmr
      go_wp2_with fail
      refine (hpk20.out w6 x.kd).mono ?_
      rintro e w7 ⟨rfl, rfl⟩
      have hj := hpr20.out x.kd
      obtain ⟨j, hj'⟩ := Int.eq_ofNat_of_zero_le hj.1
      rw [hj'] at hj ⊢
      have hj20 : j < 20 := by omega
      have hcc := Fact.mk (mem20 hj20)
      clear hj' hj y1
      go_wp2_with fail
      refine (heapLen_ok W w7 _ h1 hm6 m1).mono ?_
      rintro e w8 ⟨rfl, rfl⟩
      go_wp2_with fail
      refine (objects_ok W w8 _ h1 hm6.swap hok1 h1.ths.length (Nat.le_refl _)).mono ?_
      rintro e w9 ⟨A9, c9, ys, rfl, hys, hm9⟩
      replace hm9 := hm9.perm (perm_w4 _ _ _ _ _ _)
      clear hm6
      go_wp2_with fail
      refine (heapSpent_ok W w9 _ h1 hm9 m0).mono ?_
      rintro e w10 ⟨rfl, rfl⟩
      have hR1 := H.out.size j hcc.out h1 x hok1.out (by have := rdV_len hxr.out; omega)
      have hR2 := H.out.size j hcc.out h2 x hok2.out (by have := rdV_len hxr.out; omega)
      have hF1 := H.out.few j hcc.out h1.abs x hf1.out
      have hF2 := H.out.few j hcc.out h2.abs x hf2.out
      have hgrow := H.out.grow j hcc.out h1.abs x
      rw [h1.abs_len'] at hgrow
      have hask1 := H.out.ask j hcc.out h1 w10 _ x hm9 hok1.out hf1.out hxr.out hxn hxw.out (by omega)
      have hask2 := fun (w : World) (L : List Chunk) (hm : Mem W w (HpC h2 :: L)) => H.out.ask j hcc.out h2 w L x hm hok2.out hf2.out hxr.out hxn hxw.out (by omega)
      have hW := wider_S j h1.abs h2.abs x hwid.out
      have hSt := still_S j h1.abs x
      have hbs := bud_S j h1.abs x
      obtain ⟨hy1, hy2⟩ := objs_ok hok1.out hys
      rw [← show h1.abs.objs = h1.objs from rfl] at hy1
      have hsp1 : h1.spent = h1.abs.spent := rfl
      have hbu1 : h1.abs.budget = 2 + p := hbud.out
      generalize callS j h1.abs x = s1 at hask1 hF1 hgrow hW hSt hbs
      generalize callS j h2.abs x = s2 at hask2 hF2 hW
      generalize allR j h1.abs x = r1 at hask1 hR1 hW hSt
      generalize allR j h2.abs x = r2 at hask2 hR2 hW
      replace hask1 := Fact.mk hask1
      replace hask2 := Fact.mk hask2
      replace hR1 := Fact.mk hR1
      replace hR2 := Fact.mk hR2
      replace hF1 := Fact.mk hF1
      replace hF2 := Fact.mk hF2
      replace hW := Fact.mk hW
      replace hSt := Fact.mk hSt
      replace hbs := Fact.mk hbs
      replace hy1 := Fact.mk hy1
      replace hy2 := Fact.mk hy2
      replace hsp1 := Fact.mk hsp1
      replace hbu1 := Fact.mk hbu1
      clear hys
      go_wp2_with (refine wp_rng rfl 32 _ rfl g15 0 rfl (cHO x) (rng_blk hm9 m2) row_HO sz_HO ?_)
      refine hask1.out.mono ?_
      rintro e w11 ⟨v, rfl, h1', hg1, ha1, ho1, A2, d2, K2, k2, LA2, lc2, rfl, hm11⟩
      clear hm9 hask1
      go_wp2_with (first | (refine wp_setrow rfl 84 _ _ rfl w11.heap.size rfl 84 _ (sdC r1 A2 d2 K2 k2 LA2 lc2) rfl (hm11.alloc _) sz_S rfl (sC_one _ _ _ _ _ _ _ _ _ _ _ _ _ _ _ _ _ _) ?_; intro w12 hm12) | (refine wp_rng rfl 32 _ rfl g15 0 rfl (cHO x) (rng_blk hm12 m6) row_HO sz_HO ?_))
      generalize w11.heap.size = g19 at hm12 ⊢
      clear hm11
      refine (hask2.out w12 _ hm12.pull5).mono ?_
      rintro e w13 ⟨v, rfl, h2', hg2, ha2, ho2, A3, d3, K3, k3, LA3, lc3, rfl, hm13⟩
      clear hm12 hask2
      go_wp2_with (first | (refine wp_setrow rfl 84 _ _ rfl w13.heap.size rfl 84 _ (sdC r2 A3 d3 K3 k3 LA3 lc3) rfl (hm13.alloc _) sz_S rfl (sC_one _ _ _ _ _ _ _ _ _ _ _ _ _ _ _ _ _ _) ?_; intro w14 hm14) | (refine wp_rng rfl 84 _ rfl w13.heap.size 0 rfl (sdC r2 A3 d3 K3 k3 LA3 lc3) (rng_blk hm14 m0) row_S sz_S ?_) | (refine wp_rng rfl 84 _ rfl g19 0 rfl (sdC r1 A2 d2 K2 k2 LA2 lc2) (rng_blk hm14 m5) row_S sz_S ?_))
      generalize w13.heap.size = g21 at hm14 ⊢
      clear hm13
      replace hg1 := Fact.mk hg1
      replace hg2 := Fact.mk hg2
      replace ha1 := Fact.mk ha1
      replace ha2 := Fact.mk ha2
      replace ho1 := Fact.mk ho1
      replace ho2 := Fact.mk ho2
      rcases hW.out with ⟨hre, hwid'⟩ | ⟨q1, q2, q3, q4, q5, q6, q7, q8⟩
      · subst hre
        refine (same_ok w14 r1 _ _ ⟨A2, d2, K2, k2, LA2, lc2, rfl, hm14.rd m6, hm14.rd m7, hm14.rd m8⟩ ⟨A3, d3, K3, k3, LA3, lc3, rfl, hm14.rd m1, hm14.rd m2, hm14.rd m3⟩ hR1.out.1 hR1.out.2.1 hR1.out.2.2).mono ?_
        rintro e w15 ⟨rfl, hg15⟩
        have hz := ((hm14.gr hg15).sub (L' := HpC h2' :: HpC h1' :: L) (.cons _ (.cons _ (.cons _ (.cons _ (.cons_cons _ (.cons _ (.cons _ (.cons _ (.cons _ (.cons_cons _ (.cons _ (.cons _ (List.sublist_append_right _ _)))))))))))))).swap
        clear hm14 hg15
        replace hwid' := Fact.mk hwid'
        go_wp2_with fail
        go_roundw
        case rel => exact ⟨k + 1, by go_num, by omega, h1', h2', hg1.out, hg2.out, ho1.out, ho2.out, by rw [ha1.out]; exact hF1.out, by rw [ha2.out]; exact hF2.out, by rw [ha1.out, ha2.out]; exact hwid'.out, by rw [show h1'.budget = h1'.abs.budget from rfl, ha1.out, hbs.out]; exact hbu1.out, by rw [← h1'.abs_len', ha1.out]; omega, hz⟩
        case measure => first | exact measP_lt hlt | exact measN_lt hlt wrapk
      · refine (same_no w14 r1 r2 _ _ ⟨A2, d2, K2, k2, LA2, lc2, rfl, hm14.rd m6, hm14.rd m7, hm14.rd m8⟩ ⟨A3, d3, K3, k3, LA3, lc3, rfl, hm14.rd m1, hm14.rd m2, hm14.rd m3⟩ q7 q8 q3 q5).mono ?_
        rintro e w15 ⟨rfl, hg15⟩
        have hm15 := hm14.gr hg15
        clear hm14 hg15
        have hs1 := hSt.out q1
        replace q1 := Fact.mk q1
        replace q4 := Fact.mk q4
        replace q6 := Fact.mk q6
        replace hs1 := Fact.mk hs1
        have y3 := hm15.cell m5 3 rfl
        rw [q2] at y3
        clear q2 q3 q5 q7 q8
        go_wp2_with (refine wp_rng rfl 84 _ rfl g19 0 rfl (sdC r1 A2 d2 K2 k2 LA2 lc2) (rng_blk hm15 m5) row_S sz_S ?_)
        refine (refused_ok w15 j hj20 r1 A2 d2 K2 k2 LA2 lc2).mono ?_
        rintro e w16 ⟨rfl, hg16⟩
        have hm16 := hm15.gr hg16
        rw [q1.out]
        replace y3 := hg16.cell y3
        clear hm15 hg16
        go_wp2_with (refine wp_rng rfl 84 _ rfl g21 0 rfl (sdC r2 A3 d3 K3 k3 LA3 lc3) (rng_blk hm16 m0) row_S sz_S ?_)
        refine (refused_ok w16 j hj20 r2 A3 d3 K3 k3 LA3 lc3).mono ?_
        rintro e w17 ⟨rfl, hg17⟩
        have hm17 := hm16.gr hg17
        rw [q4.out]
        clear hm16 hg17 y3
        go_wp2_with fail
        have hsp := heapSpent_ok W w17 _ h1' hm17 m9
        rw [hg1.out, show h1'.spent = h1.spent by rw [show h1'.spent = h1'.abs.spent from rfl, ha1.out, hs1.out]; rfl] at hsp
        refine hsp.mono ?_
        rintro e w18 ⟨rfl, rfl⟩
        clear hsp
        go_wp2_with fail
        have hsp := heapSpent_ok W w18 _ h2' hm17 m4
        have hlt2 : 2 + p < h2'.spent := by rw [show h2'.spent = h2'.abs.spent from rfl, ha2.out]; have := q6.out; have := hbu1.out; omega
        rw [hg2.out] at hsp
        refine hsp.mono ?_
        rintro e w19 ⟨rfl, rfl⟩
        clear hsp
        have hgt : decide (h2'.spent > 2 + p) = true := decide_eq_true hlt2
        have hle : h1'.ths.length = h1.ths.length := by rw [← h1'.abs_len', ha1.out, hs1.out, h1.abs_len']
        go_wp2_with fail
        have hsl := heapLen_ok W w19 _ h1' hm17 m9
        rw [hg1.out, hle] at hsl
        refine hsl.mono ?_
        rintro e w20 ⟨rfl, rfl⟩
        clear hsl
        go_wp2_with fail
        have hob := objects_ok W w20 _ h1' (hm17.perm (perm_front (_ :: _ :: _ :: _ :: _ :: _ :: _ :: _ :: _ :: _ :: _) 9 (by simp))) ho1 h1.ths.length (by omega)
        rw [hg1.out] at hob
        refine hob.mono ?_
        rintro e w21 ⟨A4, c4, zs, rfl, hzs, hm21⟩
        clear hob hm17
        rw [← hle] at hzs
        obtain ⟨hz1, hz2⟩ := objs_ok ho1.out hzs
        rw [← show h1'.abs.objs = h1'.objs from rfl, ha1.out, hs1.out, ← hy1.out] at hz1
        have hO1 : ObsR w21 A4 h1.ths.length c4 zs := ObsR.of hm21 m1 (fun y hy => .tail _ (.tail _ (List.mem_append_left _ (List.mem_map_of_mem hy))))
        have hO2 : ObsR w21 A9 h1.ths.length c9 ys := ObsR.of hm21 (.tail _ (.tail _ (List.mem_append_right _ m10))) (fun y hy => .tail _ (.tail _ (List.mem_append_right _ (.tail _ (.tail _ (.tail _ (.tail _ (.tail _ (.tail _ (.tail _ (.tail _ (.tail _ (.tail _ (.tail _ (List.mem_append_left _ (List.mem_map_of_mem hy))))))))))))))))
        go_wp2_with fail
        refine (sameObjects_ok w21 A4 A9 h1.ths.length c4 c9 zs ys ⟨hO1⟩ ⟨hO2⟩ ⟨hz1⟩ ⟨hz2⟩ (by have := hok1.out.size; omega)).mono ?_
        rintro e w22 ⟨rfl, hg22⟩
        have hz : Mem W w22 L := (hm21.gr hg22).tail.tail.sub (List.Sublist.trans (.cons _ (.cons _ (.cons _ (.cons _ (.cons _ (.cons _ (.cons _ (.cons _ (.cons _ (.cons _ (.cons _ (List.sublist_append_right _ _)))))))))))) (List.sublist_append_right _ _))
        clear hm21 hg22 hO1 hO2
        go_wp2_with fail
        go_ret
        exact ⟨rfl, hz⟩
    · obtain rfl : k = m := by omega
      have hse : h2.spent = h1.spent := hwid.out.spe.symm
      have hobe : h2.objs = h1.objs := hwid.out.obj.symm
      replace hobe := Fact.mk hobe
      go_wp2_with fail
      refine (heapSpent_ok W wr _ h1 hmr m0).mono ?_
      rintro e w8 ⟨rfl, rfl⟩
      have hsp := heapSpent_ok W w8 _ h2 hmr m1
      rw [hse] at hsp
      replace hsp := Fact.mk hsp
      clear hse
      go_wp2_with fail
      refine hsp.out.mono ?_
      rintro e w9 ⟨rfl, rfl⟩
      clear hsp
      go_wp2_with fail
      refine (heapLen_ok W w9 _ h1 hmr m0).mono ?_
      rintro e w10 ⟨rfl, rfl⟩
      go_wp2_with fail
      have hsl := heapLen_ok W w10 _ h2 hmr m1
      rw [hlen2] at hsl
      refine hsl.mono ?_
      rintro e w11 ⟨rfl, rfl⟩
      clear hsl
      go_wp2_with fail
      refine (heapLen_ok W w11 _ h1 hmr m0).mono ?_
      rintro e w12 ⟨rfl, rfl⟩
      go_wp2_with fail
      refine (objects_ok W w12 _ h1 hmr hok1 h1.ths.length (Nat.le_refl _)).mono ?_
      rintro e w13 ⟨A4, c4, ys, rfl, hys, hm13⟩
      replace hm13 := hm13.perm (perm_w3 _ _ _ _ _)
      go_wp2_with fail
      have hsl := heapLen_ok W w13 _ h2 hm13 m1
      rw [hlen2] at hsl
      refine hsl.mono ?_
      rintro e w14 ⟨rfl, rfl⟩
      clear hsl
      go_wp2_with fail
      refine (objects_ok W w14 _ h2 hm13.swap hok2 h1.ths.length (by omega)).mono ?_
      rintro e w15 ⟨A5, c5, zs, rfl, hzs, hm15⟩
      rw [← hlen2] at hzs
      obtain ⟨hy1, hy2⟩ := objs_ok hok1.out hys
      obtain ⟨hz1, hz2⟩ := objs_ok hok2.out hzs
      rw [hobe.out, ← hy1] at hz1
      have hO1 : ObsR w15 A4 h1.ths.length c4 ys := ObsR.of hm15 (.tail _ (.tail _ (List.mem_append_right _ m1))) (fun y hy => .tail _ (.tail _ (List.mem_append_right _ (.tail _ (.tail _ (List.mem_append_left _ (List.mem_map_of_mem hy)))))))
      have hO2 : ObsR w15 A5 h1.ths.length c5 zs := ObsR.of hm15 m1 (fun y hy => .tail _ (.tail _ (List.mem_append_left _ (List.mem_map_of_mem hy))))
      replace hO1 := Fact.mk hO1
      replace hO2 := Fact.mk hO2
      replace hy2 := Fact.mk hy2
      replace hz1 := Fact.mk hz1.symm
      clear hys hzs hy1 hz2
      go_wp2_with fail
      refine (sameObjects_ok w15 A4 A5 h1.ths.length c4 c5 ys zs hO1 hO2 hz1 hy2 (by have := hok1.out.size; omega)).mono ?_
      rintro e w16 ⟨rfl, hg16⟩
      have hz : Mem W w16 L := (hm15.gr hg16).tail.tail.sub (List.Sublist.trans (.cons _ (.cons _ (List.sublist_append_right _ _))) (List.sublist_append_right _ _))
      clear hm15 hg16 hm13
      go_wp2_with fail
      go_ret
      exact ⟨rfl, hz⟩
theorem heapStill_walk (W : World) (budget more : Int) (A : Option Addr) (m c : Nat) (ops : List HOp) (hs : Fact (RdC W 9 (.slice A m c) (ops.flatMap cHO))) (hit : Fact (OpsOk W ops)) (hmm : m ≤ 1048576) :
    Calls Try.prog 11 #[.int .i64 budget, .int .i64 more, .slice A m c] W fun e w' => e = .returned (.bool true) ∧ Gr W w' := by
  have H : Fact (PlayG W [0, 1, 2, 3, 4, 5, 6, 7, 8, 9, 10, 11, 12, 13, 14, 15, 16, 17, 18, 19] callS allR) := ⟨all_play W⟩
  have hpk20 := fun w k => pickF_ok w k 20 20 rfl (by omega) (by omega)
  have hpr20 := fun k => pickF_rng k 20 (by omega)
  replace hpk20 := Fact.mk hpk20
  replace hpr20 := Fact.mk hpr20
  go_enter Try.func11, Try.ntmps11
  go_wp2_with fail
  refine (wider_walk W W [] (Mem.start W) budget more A m c ops hs hit hmm).mono ?_
  rintro e w0 ⟨rfl, hm0⟩
  go_wp2_with fail
  refine (pickF_ok w0 budget 1048574 1048574 rfl (by omega) (by omega)).mono ?_
  rintro e w1 ⟨rfl, rfl⟩
  have hp := pickF_rng budget 1048574 (by omega)
  generalize pickF budget 1048574 = p at hp ⊢
  go_wp2_with fail
  refine (heapNew_ok W w1 [] hm0 (2 + p) 0).mono ?_
  rintro e w2 ⟨g1, rfl, hm2⟩
  rw [show max (2 + p) 0 = 2 + p by omega, show max (0 : Int) 0 = 0 from rfl] at hm2
  have hok1 : Fact (Hp.Ok ⟨g1, 2 + p, 0, none, 0, []⟩) := ⟨⟨by simp, by simp, by show (0 : Int) ≤ 2 + p; omega, by show 2 + p ≤ _; omega, by show (0 : Int) ≤ 0; omega, by show (0 : Int) ≤ _; omega⟩⟩
  have hmk : ∀ (g : Nat) (b : Int), 2 ≤ b → (Hp.abs ⟨g, b, 0, none, 0, []⟩).makeR true 2 7 = .tuple #[.agg #[.int .i64 7, .int .i64 0], .bool true] ∧ (Hp.abs ⟨g, b, 0, none, 0, []⟩).make true 2 ⟨7, [], [], 0, 0, false⟩ = ⟨b, 2, [⟨7, [], [], 0, 0, false⟩]⟩ := fun g b hb => by
    have hr : (Hp.abs ⟨g, b, 0, none, 0, []⟩).room 2 = true := by unfold Hs.room Hp.abs; simp; omega
    unfold Hs.makeR Hs.make
    rw [hr]
    exact ⟨rfl, rfl⟩
  go_wp2_with fail
  refine (record_ok W w2 _ ⟨g1, 2 + p, 0, none, 0, []⟩ hm2 hok1 (by simp)).mono ?_
  rintro e w5 ⟨rfl, h1, hg1, ha1, ho1, hm5⟩
  rw [(hmk g1 (2 + p) (by omega)).1]
  rw [(hmk g1 (2 + p) (by omega)).2] at ha1
  clear hm2 hm0 hmk
  replace hg1 := Fact.mk hg1
  go_wp2_with (refine wp_setrow rfl 27 _ _ rfl w5.heap.size rfl 27 _ [.int .i64 7, .int .i64 0] rfl (hm5.alloc _) sz_V rfl (cV_one (7, 0)) ?_; intro w8 hm8; have xb0 := hm8.cell m0 0 rfl; have xb1 := hm8.cell m0 1 rfl)
  have hstart : Fact (∃ (h1 : Hp), h1.g = g1 ∧ h1.Ok ∧ h1.abs.Few ∧ h1.abs.First ∧ h1.ths.length ≤ 0 + 1 ∧ Mem W w8 [HpC h1]) := by
    refine ⟨⟨h1, hg1.out, ho1, ?_, ?_, by rw [← h1.abs_len', ha1]; simp, hm8.tail⟩⟩
    · rw [ha1]
      intro o ho
      simp only [List.mem_singleton] at ho
      subst ho
      exact ⟨fun h => (by cases h), fun _ => by simp⟩
    · rw [ha1]; exact ⟨by simp, rfl⟩
  clear xb0 xb1 hm5 hm8 ho1 ha1 hg1 hok1
  go_loopw [11] (fun s11 w' => ∃ (k : Nat), s11 = .int .i64 k ∧ k ≤ m ∧ ∃ (h1 : Hp), h1.g = g1 ∧ h1.Ok ∧ h1.abs.Few ∧ h1.abs.First ∧ h1.ths.length ≤ k + 1 ∧ Mem W w' [HpC h1]) (fun s11 _ => m - (intOf s11).toNat)
  case atStart => exact ⟨0, rfl, by omega, hstart.out⟩
  case round =>
    obtain ⟨k, rfl, hk, h1, rfl, hok1, hf1, hfi, hlen, hmr⟩ := hrel
    clear hstart
    replace hok1 := Fact.mk hok1
    replace hf1 := Fact.mk hf1
    replace hfi := Fact.mk hfi
    by_cases hlt : k < m
    · obtain ⟨b, o, rfl, hc, hkm⟩ := rdHO_at hs.out k hlt
      have hxm : ops.getD k hop0 ∈ ops := by rw [List.getD_eq_getElem?_getD, List.getElem?_eq_getElem hkm]; exact List.getElem_mem hkm
      generalize ops.getD k hop0 = x at hc hxm
      obtain ⟨hxr, hxn, hxw⟩ := hit.out x hxm
      have hxw := Fact.mk hxw
      have hxr := Fact.mk hxr
      have hc := Fact.mk hc
      have wrapk : wrap64 ((k : Int) + 1) = (k : Int) + 1 := IntWalk.wrap64_in _ (by omega)
      clear hxm hkm
      go_upto_region 14 with (first | (refine wp_rng rfl 32 _ rfl b (o + k * 9) rfl (cHO x) (rng_gr hc.out hmr.below) row_HO sz_HO ?_) | (refine wp_setrow rfl 32 _ _ rfl wr.heap.size rfl 32 _ (cHO x) rfl (hmr.alloc _) sz_HO rfl (cHO_one x) ?_; intro w6 hm6))
      generalize wr.heap.size = g12 at hm6 ⊢
      have y1 := hm6.cell m0 1 rfl
      clear hmr
      go_wp2_with fail
      refine (hpk20.out w6 x.kd).mono ?_
      rintro e w7 ⟨rfl, rfl⟩
      have hj := hpr20.out x.kd
      obtain ⟨j, hj'⟩ := Int.eq_ofNat_of_zero_le hj.1
      rw [hj'] at hj ⊢
      have hj20 : j < 20 := by omega
      have hcc := Fact.mk (mem20 hj20)
      clear hj' hj y1
      go_wp2_with fail
      refine (heapLen_ok W w7 _ h1 hm6 m1).mono ?_
      rintro e w8 ⟨rfl, rfl⟩
      go_wp2_with fail
      refine (heapSpent_ok W w8 _ h1 hm6 m1).mono ?_
      rintro e w9 ⟨rfl, rfl⟩
      go_wp2_with fail
      refine (objects_ok W w9 _ h1 hm6.swap hok1 h1.ths.length (Nat.le_refl _)).mono ?_
      rintro e w10 ⟨A9, c9, ys, rfl, hys, hm10⟩
      replace hm10 := hm10.perm (perm_w3 _ _ _ _ _)
      clear hm6
      have hR1 := H.out.size j hcc.out h1 x hok1.out (by have := rdV_len hxr.out; omega)
      have hF1 := H.out.few j hcc.out h1.abs x hf1.out
      have hgrow := H.out.grow j hcc.out h1.abs x
      rw [h1.abs_len'] at hgrow
      have hask1 := H.out.ask j hcc.out h1 w10 _ x hm10 hok1.out hf1.out hxr.out hxn hxw.out (by omega)
      have hSt := still_S j h1.abs x
      have hFi := first_S j h1.abs x hfi.out
      obtain ⟨hy1, hy2⟩ := objs_ok hok1.out hys
      rw [← show h1.abs.objs = h1.objs from rfl] at hy1
      have hsp1 : h1.spent = h1.abs.spent := rfl
      generalize callS j h1.abs x = s1 at hask1 hF1 hgrow hSt hFi
      generalize allR j h1.abs x = r1 at hask1 hR1 hSt
      replace hask1 := Fact.mk hask1
      replace hR1 := Fact.mk hR1
      replace hF1 := Fact.mk hF1
      replace hFi := Fact.mk hFi
      replace hSt := Fact.mk hSt
      replace hy1 := Fact.mk hy1
      replace hy2 := Fact.mk hy2
      replace hsp1 := Fact.mk hsp1
      clear hys
      go_wp2_with (refine wp_rng rfl 32 _ rfl g12 0 rfl (cHO x) (rng_blk hm10 m1) row_HO sz_HO ?_)
      refine hask1.out.mono ?_
      rintro e w11 ⟨v, rfl, h1', hg1, ha1, ho1, A2, d2, K2, k2, LA2, lc2, rfl, hm11⟩
      clear hm10 hask1
      go_wp2_with (first | (refine wp_setrow rfl 84 _ _ rfl w11.heap.size rfl 84 _ (sdC r1 A2 d2 K2 k2 LA2 lc2) rfl (hm11.alloc _) sz_S rfl (sC_one _ _ _ _ _ _ _ _ _ _ _ _ _ _ _ _ _ _) ?_; intro w12 hm12) | (refine wp_rng rfl 84 _ rfl w11.heap.size 0 rfl (sdC r1 A2 d2 K2 k2 LA2 lc2) (rng_blk hm12 m0) row_S sz_S ?_))
      generalize w11.heap.size = g17 at hm12 ⊢
      clear hm11
      replace hg1 := Fact.mk hg1
      replace ha1 := Fact.mk ha1
      replace ho1 := Fact.mk ho1
      have hl1 : h1'.ths.length ≤ (k + 1) + 1 := by rw [← h1'.abs_len', ha1.out]; omega
      refine (refused_ok w12 j hj20 r1 A2 d2 K2 k2 LA2 lc2).mono ?_
      rintro e w16 ⟨rfl, hg16⟩
      have hm16 := hm12.gr hg16
      clear hm12 hg16
      cases hrf : refuB j r1 with
      | false =>
        clear hrf
        have hz : Mem W w16 [HpC h1'] := hm16.sub (.cons _ (.cons _ (.cons _ (.cons _ (.cons_cons _ (List.nil_sublist _))))))
        clear hm16
        go_wp2_with fail
        go_roundw
        case rel => exact ⟨k + 1, by go_num, by omega, h1', hg1.out, ho1.out, by rw [ha1.out]; exact hF1.out, by rw [ha1.out]; exact hFi.out, hl1, hz⟩
        case measure => first | exact measP_lt hlt | exact measN_lt hlt wrapk
      | true =>
        have hs1 := hSt.out hrf
        replace hs1 := Fact.mk hs1
        clear hrf
        have hle : h1'.ths.length = h1.ths.length := by rw [← h1'.abs_len', ha1.out, hs1.out, h1.abs_len']
        go_wp2_with fail
        have hsl := heapLen_ok W w16 _ h1' hm16 m4
        rw [hg1.out, hle] at hsl
        refine hsl.mono ?_
        rintro e w17 ⟨rfl, rfl⟩
        clear hsl
        go_wp2_with fail
        have hsp := heapSpent_ok W w17 _ h1' hm16 m4
        rw [hg1.out, show h1'.spent = h1.spent by rw [show h1'.spent = h1'.abs.spent from rfl, ha1.out, hs1.out]; rfl] at hsp
        refine hsp.mono ?_
        rintro e w18 ⟨rfl, rfl⟩
        clear hsp
        go_wp2_with fail
        have hob := objects_ok W w18 _ h1' hm16.pull4 ho1 h1.ths.length (by omega)
        rw [hg1.out] at hob
        refine hob.mono ?_
        rintro e w21 ⟨A4, c4, zs, rfl, hzs, hm21⟩
        clear hob hm16
        rw [← hle] at hzs
        obtain ⟨hz1, hz2⟩ := objs_ok ho1.out hzs
        rw [← show h1'.abs.objs = h1'.objs from rfl, ha1.out, hs1.out, ← hy1.out] at hz1
        have hO1 : ObsR w21 A4 h1.ths.length c4 zs := ObsR.of hm21 m1 (fun y hy => .tail _ (.tail _ (List.mem_append_left _ (List.mem_map_of_mem hy))))
        have hO2 : ObsR w21 A9 h1.ths.length c9 ys := ObsR.of hm21 (.tail _ (.tail _ (List.mem_append_right _ m5))) (fun y hy => .tail _ (.tail _ (List.mem_append_right _ (.tail _ (.tail _ (.tail _ (.tail _ (.tail _ (.tail _ (List.mem_append_left _ (List.mem_map_of_mem hy)))))))))))
        replace hO1 := Fact.mk hO1
        replace hO2 := Fact.mk hO2
        replace hz1 := Fact.mk hz1
        replace hz2 := Fact.mk hz2
        clear hzs
        go_wp2_with fail
        refine (sameObjects_ok w21 A4 A9 h1.ths.length c4 c9 zs ys hO1 hO2 hz1 hz2 (by have := hok1.out.size; omega)).mono ?_
        rintro e w22 ⟨rfl, hg22⟩
        have hz : Mem W w22 [HpC h1'] := (hm21.gr hg22).sub (.cons_cons _ (List.nil_sublist _))
        clear hm21 hg22 hO1 hO2
        go_wp2_with fail
        go_roundw
        case rel => exact ⟨k + 1, by go_num, by omega, h1', hg1.out, ho1.out, by rw [ha1.out]; exact hF1.out, by rw [ha1.out]; exact hFi.out, hl1, hz⟩
        case measure => first | exact measP_lt hlt | exact measN_lt hlt wrapk
    · obtain rfl : k = m := by omega
      have his : h1.abs.is 0 = true := by unfold Hs.is; simp; exact hfi.out.1
      have hkd : (h1.abs.at 0).kind = 7 := by unfold Hs.at; rw [his]; exact hfi.out.2
      have hob := object_ok W wr [] h1 hmr hok1 0
      rw [his] at hob
      generalize h1.abs.at 0 = ob at hob hkd
      replace hob := Fact.mk hob
      replace hkd := Fact.mk hkd
      clear his
      go_wp2_with fail
      refine hob.out.mono ?_
      rintro e w2 ⟨v, rfl, A5, d5, K5, k5, rfl, hm5⟩
      go_wp2_with (refine wp_setrow rfl 71 _ _ rfl w2.heap.size rfl 71 _ (obC ob.kind A5 ob.items.length d5 K5 ob.keys.length k5 ob.fn ob.cap ob.shut) rfl (hm5.alloc _) sz_O rfl (obC_one _ _ _ _ _ _ _ _ _ _) ?_; intro w6 hm6; have x0 := hm6.cell m0 0 rfl; rw [hkd.out] at x0)
      go_ret
      exact ⟨rfl, hm6.below⟩
theorem heapStill_ok (H : Type) (enc : TypeId × Value → H) (W : World) (base : Nat)
    (v0 : Value) (d0 : DataW H) (p0 : List MemPlace) (_h0 : DataW.Trod enc Try.prog W 0 (fun _ => true) true 3 v0 d0 p0) (ok0 : Value.okWide Try.prog W .any base 3 v0)
    (v1 : Value) (d1 : DataW H) (p1 : List MemPlace) (_h1 : DataW.Trod enc Try.prog W 0 (fun _ => true) true 3 v1 d1 p1) (ok1 : Value.okWide Try.prog W .any base 3 v1)
    (v2 : Value) (d2 : DataW H) (p2 : List MemPlace) (h2 : DataW.Trod enc Try.prog W 0 (fun _ => true) true 22 v2 d2 p2) (ok2 : Value.okWide Try.prog W .any base 22 v2) (hk : Rows.uptoSmall H ([d0] ++ ([d1] ++ ([d2] ++ []))) = true) :
    Calls Try.prog 11 #[v0, v1, v2] W fun e w' => e = .returned (.bool true) ∧ Gr W w' := by
  have hb := bulk_small hk
  simp only [Rows.uptoBulkAll, List.cons_append, List.nil_append] at hb
  obtain ⟨x, rfl⟩ := okWide_int ty_int ok0
  obtain ⟨y, rfl⟩ := okWide_int ty_int ok1
  obtain ⟨B, m, d, ops, rfl, hr, hit, hl⟩ := open_script h2 ok2 (by omega)
  exact heapStill_walk W x y B m d ops ⟨hr⟩ ⟨hit⟩ (by omega)
end Go.Proofs.Ytpibchjkmaghnaa
