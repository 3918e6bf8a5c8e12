/- HeapMemory: what was handed out stays, and lies apart. -/
import Derived.Test.YtpibchjkmaghnaaGreatHCf
namespace Go.Proofs.YtpibchjkmaghnaaGreat
open Go.RowKit Go.Mm Go.WideShapes Go.ChangeShapes
set_option maxHeartbeats 8000000
set_option maxRecDepth 100000
set_option linter.unusedSimpArgs false
theorem ObsR.ofM {w0 w : World} {L : List Chunk} {A : Option Addr} {n c : Nat} {ys : List RO} (hm : Mem w0 w L) (h1 : Own 6 (.slice A n c) (ys.flatMap cRO) ∈ L) (h2 : ∀ y, y ∈ ys → RoC y ∈ L) : ObsR w A n c ys :=
  ⟨(hm.ok _ h1).rd, fun y hy => RoC.reads (hm.ok _ (h2 y hy))⟩
theorem perm_m1 {α : Type} (a h r : α) (Z L : List α) : (a :: (Z ++ (h :: r :: L))).Perm (h :: r :: a :: (Z ++ L)) := by
  classical
  exact List.perm_iff_count.2 fun x => by simp only [List.count_append, List.count_cons]; omega
theorem perm_m2 {α : Type} (a b c : α) (Y L : List α) : (a :: b :: (Y ++ (c :: L))).Perm (a :: c :: b :: (Y ++ L)) := by
  classical
  exact List.perm_iff_count.2 fun x => by simp only [List.count_append, List.count_cons]; omega
theorem perm_m3 {α : Type} (h r o16 o15 o5 o4 : α) (Q P Y Z L : List α) : (h :: r :: o16 :: (Q ++ (o15 :: (P ++ (o5 :: (Y ++ (o4 :: (Z ++ L)))))))).Perm (o5 :: o15 :: o16 :: h :: r :: (Y ++ (P ++ (Q ++ (o4 :: (Z ++ L)))))) := by
  classical
  exact List.perm_iff_count.2 fun x => by simp only [List.count_append, List.count_cons]; omega
theorem perm_m4 {α : Type} (h r o o15 o16 o4 : α) (Q P Y Z L : List α) : (o :: o15 :: o16 :: h :: r :: (Y ++ (P ++ (Q ++ (o4 :: (Z ++ L)))))).Perm (((Y ++ P) ++ Q) ++ (o :: (h :: r :: o15 :: o16 :: o4 :: (Z ++ L)))) := by
  classical
  exact List.perm_iff_count.2 fun x => by simp only [List.count_append, List.count_cons]; omega
theorem objs_okM {h : Hp} (hok : h.Ok) {n : Nat} (hn : n = h.ths.length) {ys : List RO} (hys : ys.map (·.ob) = h.objs.take n) : ys.map (·.ob) = h.objs ∧ ∀ x, x ∈ ys → x.ob.items.length ≤ 1048576 ∧ x.ob.keys.length ≤ 1048576 := by
  subst hn
  have e : ys.map (·.ob) = h.objs := by rw [hys, List.take_of_length_le (by rw [h.abs_len]; omega)]
  exact ⟨e, fun x hx => hok.sz (o := x.ob) (by rw [← e]; exact List.mem_map_of_mem hx)⟩
theorem big_of {ys : List RO} (h : ∀ x, x ∈ ys → x.ob.items.length ≤ 1048576 ∧ x.ob.keys.length ≤ 1048576) : ∀ x, x ∈ ys → x.ob.items.length ≤ 16777216 ∧ x.ob.keys.length ≤ 16777216 := fun x hx => by have := h x hx; omega
theorem heapMemory_walk (W : World) (b s : Int) (A : Option Addr) (n c : Nat) (xs : List RO) (hst : StOk W b s A n c xs) (B : Option Addr) (m d : Nat) (ops : List HOp) (hs : Fact (RdC W 9 (.slice B m d) (ops.flatMap cHO))) (hit : Fact (OpsOk W ops)) (hmm : m ≤ 1048576) :
    Calls Tryz.prog 7 #[.agg (stC b s A n c).toArray, .slice B m d] W fun e w' => e = .returned (.bool true) ∧ Gr W w' := by
  have hx1 := (Mem.start W).alloc (.cells (stC b s A n c).toArray 24)
  have hboth := fun (w1 : World) (L : List Chunk) (hm : Mem W w1 L) => both_ok W w1 L hm b s hst.hb hst.hs A n c xs ⟨hst.rd.gr hm.below⟩ hst.hn ⟨hst.sz⟩ ⟨hst.wf⟩
  have hxl := hst.rd.len
  have hn := hst.hn
  replace hboth := Fact.mk hboth
  have H : Fact (PlayG W [0, 1, 2, 3, 4, 5, 6, 7, 8, 9, 10, 11, 12, 13, 14, 15, 16, 17, 18, 19] callS allR) := ⟨all_play W⟩
  have hpk20 := fun w k => pickF_ok w k 20 20 rfl (by omega) (by omega)
  have hpr20 := fun k => pickF_rng k 20 (by omega)
  replace hpk20 := Fact.mk hpk20
  replace hpr20 := Fact.mk hpr20
  obtain ⟨iO, hiO, oz0, oz1, oz2⟩ := info_parts inf_O
  unfold stC at hx1 hboth ⊢
  go_enter Tryz.func7, Tryz.ntmps7
  go_upto_region 1 with (fail)
  generalize hgb : W.heap.size = gb at hx1 ⊢
  generalize hw1 : W.alloc (.cells [.int .i64 b, .int .i64 s, .slice A n c].toArray 24) = w1 at hx1
  try refine wp_world hw1 ?_
  clear hw1 hgb
  go_wp2_with (refine wp_rng rfl 24 _ rfl gb 0 rfl [.int .i64 b, .int .i64 s, .slice A n c] (rng_blk hx1 m0) row_ST sz_ST ?_)
  refine (hboth.out w1 _ hx1).mono ?_
  rintro e w2 (⟨hlb, h0, r0, ha, habs, hok, rok, rfl, hm2⟩ | ⟨_, rfl, hm2⟩)
  rotate_left
  · go_wp2
    go_ret
    exact ⟨rfl, hm2.below⟩
  have hf : h0.abs.Few := by rw [show h0.abs.Few = (⟨max b 0, max s 0, xs.map (·.ob)⟩ : Hs).Few by rw [ha]]; exact load_few hlb _ _
  have hobj : r0.abs.objs = h0.objs := by rw [habs]; rfl
  have hl0 : h0.ths.length ≤ 1048576 := by rw [← h0.abs_len', ha, List.length_map]; omega
  have hrl : r0.xs.length = h0.ths.length := by rw [← r0.abs_len, hobj, h0.abs_len]
  have hrx : ∀ x, x ∈ r0.xs → x.ob.items.length ≤ 1048576 ∧ x.ob.keys.length ≤ 1048576 := fun x hx => hok.sz (o := x.ob) (by rw [← hobj]; exact List.mem_map_of_mem hx)
  have hrd : Fact (∀ (w : World) (L : List Chunk), Mem W w L → RfC r0 ∈ L → w.cell? ⟨r0.g, 2, none⟩ = some (.slice r0.A h0.ths.length r0.c) ∧ ObsR w r0.A h0.ths.length r0.c r0.xs) := ⟨fun w L hm hh => by
    obtain ⟨_, _, h3, h4⟩ := Rf.read hm hh
    rw [hrl] at h3 h4
    exact ⟨h3, h4⟩⟩
  have hgood0 : TwGood h0 r0 0 := ⟨hok, hf, rok, habs, by omega⟩
  replace hobj := Fact.mk hobj
  replace hok := Fact.mk hok
  replace hgood0 := Fact.mk hgood0
  replace hrx := Fact.mk hrx
  clear ha habs hlb hx1 hf rok hrl
  obtain ⟨c2, hobs⟩ := hrd.out w2 _ hm2 m1
  replace hobs := Fact.mk hobs
  go_wp2_with fail
  refine (copyObjects_ok W w2 _ hm2 r0.A h0.ths.length r0.c r0.xs hobs (by omega) hrx.out).mono ?_
  rintro e w3 ⟨A4, c4, zs, rfl, hzs, hm3⟩
  replace hm3 := hm3.perm (perm_m1 _ _ _ _ _)
  clear hm2 c2 hobs
  go_wp2_with fail
  refine (objects_ok W w3 _ h0 hm3 hok h0.ths.length (Nat.le_refl _)).mono ?_
  rintro e w4 ⟨A5, c5, ys, rfl, hys, hm4⟩
  replace hm4 := hm4.perm (perm_m2 _ _ _ _ _)
  obtain ⟨hy1, hy2⟩ := objs_okM hok.out rfl hys
  have hyz : ys.map (·.ob) = zs.map (·.ob) := by rw [hy1, hzs, ← hobj.out]; rfl
  generalize hnl : h0.ths.length = nl at hm3 hm4 hl0 ⊢
  replace hyz := Fact.mk hyz
  replace hy2 := Fact.mk hy2
  clear hm3 hys hy1 hzs hrd hobj hrx hnl
  generalize hM0 : Own 6 (.slice A5 nl c5) (ys.flatMap cRO) :: (ys.map RoC ++ (Own 6 (.slice A4 nl c4) (zs.flatMap cRO) :: (zs.map RoC ++ [Blk gb (.cells [.int .i64 b, .int .i64 s, .slice A n c].toArray 24)]))) = M0 at hm4
  replace hM0 := Fact.mk hM0
  have hstart : Fact (∃ (h : Hp) (r : Rf), h.g = h0.g ∧ r.g = r0.g ∧ TwGood h r 0 ∧ Mem W w4 (HpC h :: RfC r :: M0)) := ⟨⟨h0, r0, rfl, rfl, hgood0.out, hm4⟩⟩
  clear hm4 hgood0
  generalize h0.g = hg at hstart ⊢
  generalize r0.g = rg at hstart ⊢
  go_wp2
  go_loopw [10] (fun s10 w' => ∃ (k : Nat), s10 = .int .i64 k ∧ k ≤ m ∧ ∃ (h : Hp) (r : Rf), h.g = hg ∧ r.g = rg ∧ TwGood h r k ∧ Mem W w' (HpC h :: RfC r :: M0)) (fun s10 _ => m - (intOf s10).toNat)
  case atStart => exact ⟨0, rfl, by omega, hstart.out⟩
  case round =>
    obtain ⟨k, rfl, hk, h, r, rfl, rfl, ⟨hok, hfew, rok, habs, hsz⟩, hmr⟩ := hrel
    clear hstart
    replace hok := Fact.mk hok
    replace hfew := Fact.mk hfew
    replace rok := Fact.mk rok
    replace habs := Fact.mk habs
    by_cases hlt : k < m
    · obtain ⟨b1, o1, rfl, hc, hkm⟩ := rdHO_at hs.out k hlt
      have hxm : ops.getD k hop0 ∈ ops := by rw [List.getD_eq_getElem?_getD, List.getElem?_eq_getElem hkm]; exact List.getElem_mem hkm
      generalize ops.getD k hop0 = x at hc hxm
      obtain ⟨hxr, hxn, hxw⟩ := hit.out x hxm
      have hxw := Fact.mk hxw
      have hxr := Fact.mk hxr
      have hc := Fact.mk hc
      clear hxm hkm
      have wrapk : wrap64 ((k : Int) + 1) = (k : Int) + 1 := IntWalk.wrap64_in _ (by omega)
      have z1 := Gr.cell hmr.below (hc.out 1 _ rfl)
      go_wp2_with fail
      refine (hpk20.out wr x.kd).mono ?_
      rintro e w7 ⟨rfl, rfl⟩
      have hj := hpr20.out x.kd
      obtain ⟨j, hj'⟩ := Int.eq_ofNat_of_zero_le hj.1
      rw [hj'] at hj ⊢
      have hj20 : j < 20 := by omega
      have hcc := Fact.mk (mem20 hj20)
      clear hj' hj z1
      have hxl := rdV_len hxr.out
      have hRs := H.out.size j hcc.out h x hok.out (by omega)
      have hfewS := H.out.few j hcc.out h.abs x hfew.out
      have hgrow := H.out.grow j hcc.out h.abs x
      have htold := H.out.told j hcc.out r w7 _ x hmr.swap rok.out (by rw [habs.out]; exact hok.out.good hfew.out) hxr.out hxn hxw.out (by have := r.abs_len; rw [habs.out, h.abs_len'] at this; omega)
      have hask := fun (w : World) (L : List Chunk) (hm : Mem W w (HpC h :: L)) => H.out.ask j hcc.out h w L x hm hok.out hfew.out hxr.out hxn hxw.out (by omega)
      rw [habs.out] at htold
      have hSl : (callS j h.abs x).objs.length ≤ 2097152 + (k + 1) := by rw [h.abs_len'] at hgrow; omega
      generalize callS j h.abs x = s1 at htold hask hSl hfewS
      generalize allR j h.abs x = q1 at htold hask hRs
      clear hgrow hxl
      replace htold := Fact.mk htold
      replace hask := Fact.mk hask
      replace hRs := Fact.mk hRs
      replace hfewS := Fact.mk hfewS
      go_wp2_with (refine wp_rng rfl 38 _ rfl b1 (o1 + k * 9) rfl (cHO x) (rng_gr hc.out hmr.below) row_HO sz_HO ?_)
      refine htold.out.mono ?_
      rintro e w8 ⟨v, rfl, r', hrg', hra', rok', A1, c1, K1, k1, LA1, lc1, rfl, hm8⟩
      clear hmr htold
      go_wp2_with (first | (refine wp_setrow rfl 43 _ _ rfl w8.heap.size rfl 43 _ (sdC q1 A1 c1 K1 k1 LA1 lc1) rfl (hm8.alloc _) sz_S rfl (sC_one _ _ _ _ _ _ _ _ _ _ _ _ _ _ _ _ _ _) ?_; intro w9 hm9) | (refine wp_rng rfl 38 _ rfl b1 (o1 + k * 9) rfl (cHO x) (rng_gr hc.out hm9.below) row_HO sz_HO ?_))
      generalize w8.heap.size = g12 at hm9 ⊢
      clear hm8
      refine (hask.out w9 _ hm9.pull5).mono ?_
      rintro e w10 ⟨v, rfl, h', hhg', hha', hok', A2, c2, K2, k2, LA2, lc2, rfl, hm10⟩
      clear hm9 hask
      go_wp2_with (first | (refine wp_setrow rfl 43 _ _ rfl w10.heap.size rfl 43 _ (sdC q1 A2 c2 K2 k2 LA2 lc2) rfl (hm10.alloc _) sz_S rfl (sC_one _ _ _ _ _ _ _ _ _ _ _ _ _ _ _ _ _ _) ?_; intro w11 hm11) | (refine wp_rng rfl 43 _ rfl w10.heap.size 0 rfl (sdC q1 A2 c2 K2 k2 LA2 lc2) (rng_blk hm11 m0) row_S sz_S ?_) | (refine wp_rng rfl 43 _ rfl g12 0 rfl (sdC q1 A1 c1 K1 k1 LA1 lc1) (rng_blk hm11 m5) row_S sz_S ?_))
      generalize w10.heap.size = g13 at hm11 ⊢
      clear hm10
      refine (same_ok w11 q1 _ _ ⟨A2, c2, K2, k2, LA2, lc2, rfl, hm11.rd m1, hm11.rd m2, hm11.rd m3⟩ ⟨A1, c1, K1, k1, LA1, lc1, rfl, hm11.rd m6, hm11.rd m7, hm11.rd m8⟩ hRs.out.1 hRs.out.2.1 hRs.out.2.2).mono ?_
      rintro e w12 ⟨rfl, hg12⟩
      have hz : Mem W w12 (HpC h' :: RfC r' :: M0) := (hm11.tail.tail.tail.tail.gr hg12).sub (List.Sublist.cons_cons _ (.cons _ (.cons _ (.cons _ (.cons _ (.refl _))))))
      have hgood : TwGood h' r' (k + 1) := ⟨hok', by rw [hha']; exact hfewS.out, rok', by rw [hha', hra'], by rw [← h'.abs_len', hha']; exact hSl⟩
      clear hm11 hg12
      go_wp2_with fail
      go_roundw
      case rel => exact ⟨k + 1, by go_num, by omega, h', r', hhg', hrg', hgood, hz⟩
      case measure => first | exact measP_lt hlt | exact measN_lt hlt wrapk
    · obtain rfl : k = m := by omega
      have hobj : r.abs.objs = h.objs := by rw [habs.out]; rfl
      have hrl : r.xs.length = h.ths.length := by rw [← r.abs_len, hobj, h.abs_len]
      have hro : r.xs.map (·.ob) = h.objs := hobj
      have hrd : Fact (∀ (w : World) (L : List Chunk), Mem W w L → RfC r ∈ L → w.cell? ⟨r.g, 2, none⟩ = some (.slice r.A h.ths.length r.c) ∧ ObsR w r.A h.ths.length r.c r.xs) := ⟨fun w L hm hh => by
        obtain ⟨_, _, h3, h4⟩ := Rf.read hm hh
        rw [hrl] at h3 h4
        exact ⟨h3, h4⟩⟩
      have hsp : r.spent = h.spent := congrArg Hs.spent habs.out
      replace hobj := Fact.mk hobj
      replace hro := Fact.mk hro
      replace hsp := Fact.mk hsp
      clear hrl
      rw [← hM0.out] at hmr
      have hO5 : ObsR wr A5 nl c5 ys := ObsR.ofM hmr m2 (fun y hy => .tail _ (.tail _ (.tail _ (List.mem_append_left _ (List.mem_map_of_mem hy)))))
      have hO4 : ObsR wr A4 nl c4 zs := ObsR.ofM hmr (.tail _ (.tail _ (.tail _ (List.mem_append_right _ m0)))) (fun y hy => .tail _ (.tail _ (.tail _ (List.mem_append_right _ (.tail _ (List.mem_append_left _ (List.mem_map_of_mem hy)))))))
      replace hO5 := Fact.mk hO5
      replace hO4 := Fact.mk hO4
      go_wp2_with fail
      refine (sameObjects_ok wr A5 A4 nl c5 c4 ys zs hO5 hO4 hyz ⟨big_of hy2.out⟩ (by omega)).mono ?_
      rintro e w5 ⟨rfl, hg5⟩
      have hm5 := hmr.gr hg5
      clear hmr hg5 hO5 hO4
      have c2 := (hrd.out w5 _ hm5 m1).1
      go_wp2_with fail
      refine (objects_ok W w5 _ h hm5 hok h.ths.length (Nat.le_refl _)).mono ?_
      rintro e w6 ⟨A6, c6, ps, rfl, hps, hm6⟩
      replace hm6 := hm6.perm (perm_m2 _ _ _ _ _)
      clear hm5 c2
      have c2 := (hrd.out w6 _ hm6 m1).1
      go_wp2_with fail
      refine (objects_ok W w6 _ h hm6 hok h.ths.length (Nat.le_refl _)).mono ?_
      rintro e w7 ⟨A7, c7, qs, rfl, hqs, hm7⟩
      replace hm7 := hm7.perm (perm_m2 _ _ _ _ _)
      clear hm6 c2
      obtain ⟨hp1, hp2⟩ := objs_okM hok.out rfl hps
      obtain ⟨hq1, hq2⟩ := objs_okM hok.out rfl hqs
      rw [← hro.out] at hp1 hq1
      replace hp1 := Fact.mk hp1
      replace hq1 := Fact.mk hq1
      replace hp2 := Fact.mk hp2
      replace hq2 := Fact.mk hq2
      clear hps hqs
      obtain ⟨c2, hR7⟩ := hrd.out w7 _ hm7 m1
      have hO6 : ObsR w7 A6 h.ths.length c6 ps := ObsR.ofM hm7 (.tail _ (.tail _ (.tail _ (List.mem_append_right _ m0)))) (fun y hy => .tail _ (.tail _ (.tail _ (List.mem_append_right _ (.tail _ (List.mem_append_left _ (List.mem_map_of_mem hy)))))))
      have hO7 := fun (w : World) (hg : Gr w7 w) => (ObsR.ofM (A := A7) (n := h.ths.length) (c := c7) (ys := qs) hm7 m2 (fun y hy => .tail _ (.tail _ (.tail _ (List.mem_append_left _ (List.mem_map_of_mem hy)))))).gr hg
      replace hR7 := Fact.mk hR7
      replace hO6 := Fact.mk hO6
      replace hO7 := Fact.mk hO7
      go_wp2_with fail
      refine (sameObjects_ok w7 A6 r.A h.ths.length c6 r.c ps r.xs hO6 hR7 hp1 ⟨big_of hp2.out⟩ (by have := hok.out.size; omega)).mono ?_
      rintro e w8 ⟨rfl, hg8⟩
      have hm8 := hm7.gr hg8
      clear hm7 c2 hO6 hR7
      obtain ⟨c2, hR8⟩ := hrd.out w8 _ hm8 m1
      replace hR8 := Fact.mk hR8
      have hO8 := Fact.mk (hO7.out w8 hg8)
      clear hO7 hg8
      go_wp2_with fail
      refine (sameObjects_ok w8 A7 r.A h.ths.length c7 r.c qs r.xs hO8 hR8 hq1 ⟨big_of hq2.out⟩ (by have := hok.out.size; omega)).mono ?_
      rintro e w9 ⟨rfl, hg9⟩
      have hm9 := (hm8.gr hg9).perm (perm_m3 _ _ _ _ _ _ _ _ _ _ _)
      clear hm8 c2 hO8 hR8 hg9
      have hts := hok.out.size
      go_wp2_with (first | (at_builtin; refine wp_app rfl _ _ _ rfl 41 iO _ 6 80 ty_Os hiO oz0 oz1 oz2 rfl A5 nl c5 _ rfl hm9 A6 h.ths.length c6 (ps.flatMap cRO) rfl (hm9.rd m1) (by unfold maxLen; omega) (by omega) ?_; intro A10 c10 w10 hm10) | (at_builtin; refine wp_app rfl _ _ _ rfl 41 iO _ 6 80 ty_Os hiO oz0 oz1 oz2 rfl A10 (nl + h.ths.length) c10 _ rfl hm10 A7 h.ths.length c7 (qs.flatMap cRO) rfl (hm10.rd m2) (by unfold maxLen; omega) (by omega) ?_; intro A11 c11 w11 hm11))
      have hm12 : Mem W w11 ((ys ++ ps ++ qs).map RoC ++ (Own 6 (.slice A11 (nl + h.ths.length + h.ths.length) c11) ((ys ++ ps ++ qs).flatMap cRO) :: (HpC h :: RfC r :: Own 6 (.slice A6 h.ths.length c6) (ps.flatMap cRO) :: Own 6 (.slice A7 h.ths.length c7) (qs.flatMap cRO) :: Own 6 (.slice A4 nl c4) (zs.flatMap cRO) :: (zs.map RoC ++ [Blk gb (.cells [.int .i64 b, .int .i64 s, .slice A n c].toArray 24)])))) := by
        rw [List.map_append, List.map_append, List.flatMap_append, List.flatMap_append]
        exact hm11.perm (perm_m4 _ _ _ _ _ _ _ _ _ _ _)
      have hap := apartObjects_ok W w11 A11 (nl + h.ths.length + h.ths.length) c11 (ys ++ ps ++ qs) _ hm12 ⟨fun x hx => by
        rcases List.mem_append.1 hx with hx | hx
        · rcases List.mem_append.1 hx with hx | hx
          · have := hy2.out x hx; omega
          · have := hp2.out x hx; omega
        · have := hq2.out x hx; omega⟩ (by omega)
      replace hap := Fact.mk hap
      clear hm9 hm10 hm11 hm12
      refine hap.out.mono ?_
      rintro e w12 ⟨rfl, hm13⟩
      clear hap
      go_wp2_with fail
      refine (alike_ok W w12 _ h r hm13 hok rok ⟨hobj.out⟩ hsp.out).mono ?_
      rintro e w13 ⟨rfl, hm14⟩
      go_wp2_with fail
      go_ret
      exact ⟨rfl, hm14.below⟩
theorem heapMemory_ok (H : Type) (enc : TypeId × Value → H) (W : World) (base : Nat)
    (v0 : Value) (d0 : DataW H) (p0 : List MemPlace) (h0 : DataW.Trod enc Tryz.prog W 0 (fun _ => true) true 24 v0 d0 p0) (ok0 : Value.okWide Tryz.prog W .any base 24 v0)
    (v1 : Value) (d1 : DataW H) (p1 : List MemPlace) (h1 : DataW.Trod enc Tryz.prog W 0 (fun _ => true) true 25 v1 d1 p1) (ok1 : Value.okWide Tryz.prog W .any base 25 v1) (hk : Rows.uptoSmall H ([d0] ++ ([d1] ++ [])) = true) :
    Calls Tryz.prog 7 #[v0, v1] W fun e w' => e = .returned (.bool true) ∧ Gr W w' := by
  have hb := bulk_small hk
  simp only [Rows.uptoBulkAll, List.cons_append, List.nil_append] at hb
  obtain ⟨b, s, A, n, c, xs, rfl, hst⟩ := open_start h0 ok0 (by omega)
  obtain ⟨B, m, d, ops, rfl, hr, hit, hl⟩ := open_script h1 ok1 (by omega)
  exact heapMemory_walk W b s A n c xs hst B m d ops ⟨hr⟩ ⟨hit⟩ (by omega)
end Go.Proofs.YtpibchjkmaghnaaGreat
