import Derived.Test.YtgflfpepfpekhaaLentLaw
import Derived.Test.YtgflfpepfpekhaaFramesEnter
import Derived.Test.YtgflfpepfpekhaaFramesUnwind
namespace Go.Proofs.Ytgflfpepfpekhaa
open Go.RowKit Go.Mm Go.WideShapes
set_option maxHeartbeats 4000000
set_option maxRecDepth 100000
set_option linter.unusedSimpArgs false
theorem retD_len (xs : List Fr) (v : V2) : (retD xs v).length ≤ xs.length := by
  unfold retD
  split
  · simp
  · simp; omega
theorem return_walk (w : World) (p : Pg) (hp : Fact (PgOk w p)) (hk : p.kn ≤ 1048576) (N : Nat) (A : Option Addr) (n c : Nat) (xs : List Fr) (hx : Fact (FrsOk N w A n c xs)) (hn : n ≤ 1048576) (hN : N ≤ 1048576) (v1 v2 : Int) :
    Calls Try.prog 4 #[vP p, .slice A n c, .agg #[.int .i64 v1, .int .i64 v2]] w fun e w' => e = .returned (.bool true) ∧ Gr w w' := by
  have hxl : Fact (xs.length = n) := ⟨hx.out.len⟩
  obtain ⟨b2, hb2⟩ : ∃ b, Fact (decide (2 ≤ n) = b) := ⟨_, ⟨rfl⟩⟩
  have hlent := fun (w1 : World) (hg : Gr w w1) => lentProgram_ok w1 p ⟨hp.out.gr hg⟩ hk
  have hkept := Fact.mk (fun (w1 : World) (hg : Gr w w1) KA kc FA fc hs (hL : LentOk w1 p KA kc FA fc hs) => keptProgram_ok w1 p ⟨hp.out.gr hg⟩ hk KA kc FA fc hs ⟨hL⟩)
  obtain ⟨kA, kn, kc, consts, fA, fnn, fc, fns⟩ := p
  simp only [vP] at hlent ⊢
  have hlent := Fact.mk hlent
  go_enter Try.func4, Try.ntmps4
  go_upto_region 1 with (fail)
  have hm := (((Mem.start w).alloc (.cells [.slice kA kn kc, .slice fA fnn fc].toArray 25)).alloc (.cells [.int .i64 v1, .int .i64 v2].toArray 41))
  simp only [World.size_alloc] at hm
  generalize hgX : w.heap.size = g at hm ⊢
  generalize hwX : ((w.alloc (.cells [.slice kA kn kc, .slice fA fnn fc].toArray 25)).alloc (.cells [.int .i64 v1, .int .i64 v2].toArray 41)) = w1 at hm
  try refine wp_world hwX ?_
  clear hwX hgX
  go_wp2_with (refine wp_rng rfl 25 _ rfl g 0 rfl [.slice kA kn kc, .slice fA fnn fc] (rng_blk hm m1) row_P szP ?_)
  refine (hlent.out w1 hm.below).mono ?_
  rintro e wb ⟨KA, kc', FA, fc', hsP, rfl, hgb, hL⟩
  have hmb := hm.gr hgb
  have hgw := Fact.mk hmb.below
  clear hm hgb
  simp only [vP, lentP]
  go_upto_region 2 with (refine wp_setrow rfl 25 _ _ rfl _ rfl 25 _ [.slice KA kn kc', .slice FA fnn fc'] rfl ((Mem.start wb).alloc _) szP rfl (svone _ _) ?_; intro w2 hm2)
  generalize wb.heap.size = g7 at hm2 ⊢
  have hgb2 := hm2.below
  have hg0 := Fact.mk (Gr.trans hgw.out hgb2)
  have hL := Fact.mk (hL.gr hgb2)
  have hmb := Fact.mk (hmb.gr hgb2)
  have k52 : Fact (w2.cell? ⟨g + 1, 0, none⟩ = some (.int .i64 v1)) := ⟨hmb.out.cell m0 0 rfl⟩
  have k62 : Fact (w2.cell? ⟨g + 1, 1, none⟩ = some (.int .i64 v2)) := ⟨hmb.out.cell m0 1 rfl⟩
  have hm2 := hm2.gr (Gr.refl w2)
  obtain ⟨wo, hwo⟩ : ∃ wo : World, wo = w2 := ⟨_, rfl⟩
  have hq : Fact (∀ W, Gr w2 W → W.rangeAt g7 0 [.slice KA kn kc', .slice FA fnn fc']) := ⟨fun W h => rng_blk (hm2.gr h) m0⟩
  have hpr : Fact (∀ W, Gr w2 W → W.rangeAt g 0 [.slice kA kn kc, .slice fA fnn fc]) := ⟨fun W h => rng_blk (hmb.out.gr h) m1⟩
  clear hm2 hgb2 hgw hwo hlent hmb
  go_wp2_with fail
  refine (lentFrames_ok w2 N A n c xs ⟨hx.out.gr hg0.out⟩ hn (by omega)).mono ?_
  rintro e w3 ⟨B, d, hs, rfl, hm3, hhl, hfu⟩
  have hcd := OwnAt.cap (hm3.ok _ m0)
  obtain ⟨gb, ob, rfl⟩ := OwnAt.addr (hm3.ok _ m0) (by omega)
  obtain ⟨hio, hid⟩ := insOk_of hx.out hhl hfu
  generalize List.zipWith lentR xs hs = ins at hm3 hio hid
  have hio := Fact.mk hio
  have hid := Fact.mk hid
  have hnd : n ≤ d := by omega
  clear hhl hfu hcd
  have k5 := Gr.cell hm3.below k52.out
  have k6 := Gr.cell hm3.below k62.out
  go_wp2_with fail
  refine (refReturn_ok w3 N A n c xs ⟨hx.out.gr (Gr.trans hg0.out hm3.below)⟩ (by omega) (by omega) (v1, v2)).mono ?_
  rintro e w4 ⟨R, rn, rc, zr, rfl, hm4, hdr, hnr⟩
  rw [hb2.out]
  have hm4 := hm3.join hm4
  clear hm3 k5 k6
  have k5 := Gr.cell hm4.below k52.out
  have k6 := Gr.cell hm4.below k62.out
  go_wp2_with (refine wp_rng rfl 25 _ rfl g7 0 rfl [.slice KA kn kc', .slice FA fnn fc'] (hq.out _ hm4.below) row_P szP ?_)
  refine (return_ok w4 ⟨KA, kn, kc', consts, FA, fnn, fc', fns⟩ N (some ⟨gb, ob, none⟩) n d ins ⟨(hio.out.lent hm4 (List.mem_append_right _ m0) (fun x h => List.mem_append_right _ (.tail _ (slots_mem h)))).frs⟩ (by omega) (by omega) (v1, v2)).mono ?_
  rintro e w5 ⟨G, gn, gc, z1, rfl, hm5, hd1, hn1⟩
  rw [hb2.out]
  have hm5 := mem_front (hm4.join hm5)
  clear hm4 k5 k6
  have hdd : Fact (z1.map Fr.data = zr.map Fr.data) := ⟨by rw [hd1, hdr, retD_data hid.out]⟩
  have hgr : gn = rn := by
    have h1 : z1.length = gn := rd_len cR_len (by omega) (hm5.rd (.tail _ (List.mem_append_left _ (List.mem_append_left _ m0))))
    have h2 : zr.length = rn := rd_len cR_len (by omega) (hm5.rd (.tail _ (List.mem_append_left _ (List.mem_append_right _ m0))))
    have h3 := data_len hdd.out
    omega
  have hrn : rn ≤ n := by
    have h2 : zr.length = rn := rd_len cR_len (by omega) (hm5.rd (.tail _ (List.mem_append_left _ (List.mem_append_right _ m0))))
    have h3 := congrArg List.length hdr
    have h4 := retD_len xs (v1, v2)
    have h5 := hxl.out
    simp at h3
    omega
  subst hgr
  have hn1 := Fact.mk hn1
  have hnr := Fact.mk hnr
  have hf1 : Fact (∀ W C, Mem w2 W (C :: (((Own 3 (.slice G gn gc) (fR z1) :: slots z1) ++ (Own 3 (.slice R gn rc) (fR zr) :: slots zr)) ++ slots hs)) → FrsOk (N + 1) W G gn gc z1 ∧ FrsOk (N + 1) W R gn rc zr) := ⟨fun W C h => ⟨frs_mem h (.tail _ (List.mem_append_left _ (List.mem_append_left _ m0))) (fun z hz => .tail _ (List.mem_append_left _ (List.mem_append_left _ (.tail _ (slots_mem hz))))) hn1.out, frs_mem h (.tail _ (List.mem_append_left _ (List.mem_append_right _ m0))) (fun z hz => .tail _ (List.mem_append_left _ (List.mem_append_right _ (.tail _ (slots_mem hz))))) hnr.out⟩⟩
  clear hd1 hdr
  cases b2
  all_goals
    go_wp2_with fail
    refine (sameFrames_ok w5 G R (N + 1) gn gc rc z1 zr ⟨(hf1.out _ _ hm5).1⟩ ⟨(hf1.out _ _ hm5).2⟩ hdd (by omega) (by omega)).mono ?_
    rintro e w6 ⟨rfl, hg6⟩
    have hm6 := hm5.gr hg6
    clear hg6 hm5
    go_wp2_with (first | (refine wp_rng rfl 25 _ rfl g7 0 rfl [.slice KA kn kc', .slice FA fnn fc'] (hq.out _ hm6.below) row_P szP ?_) | (refine wp_rng rfl 25 _ rfl g 0 rfl [.slice kA kn kc, .slice fA fnn fc] (hpr.out _ hm6.below) row_P szP ?_))
    refine (hkept.out w6 (Gr.trans hg0.out hm6.below) KA kc' FA fc' hsP (hL.out.gr hm6.below)).mono ?_
    rintro e w7 ⟨rfl, hg7⟩
    have hm7 := hm6.gr hg7
    clear hg7 hm6
    go_wp2_with fail
    refine (keptFrames_ok w7 N (some ⟨gb, ob, none⟩) n d ins hs ⟨hio.out.lent hm7 m0 (fun x h => .tail _ (List.mem_append_right _ (slots_mem h)))⟩ A c xs ⟨hx.out.gr (Gr.trans hg0.out hm7.below)⟩ hid hn (by omega)).mono ?_
    rintro e w8 ⟨rfl, hg8⟩
    have hm8 := hm7.gr hg8
    clear hg8 hm7
  focus
    have e7 : ((n : Int) > 1) = False := eq_false (by have := hb2.out; simp at this; omega)
    go_upto_region 9 with (fail)
    obtain ⟨w9, hw9⟩ : ∃ w9 : World, w9 = w8 := ⟨_, rfl⟩
    obtain ⟨ins9, hi9⟩ : ∃ J, J = ins := ⟨_, rfl⟩
    rw [← hw9, ← hi9] at hm8
    rw [← hw9]
    rw [← hi9] at hio
    have hm9 := hm8
    have hio9 := hio
    clear hw9 hi9 e7 hm8 hio hid
  rotate_left
  focus
    obtain ⟨q, hqn⟩ : ∃ q, Fact (n = q + 2) := ⟨n - 2, ⟨by have := hb2.out; simp at this; omega⟩⟩
    have hq1 : q < n := by have := hqn.out; omega
    have hil : ins.length = n := hio.out.l1
    have e7 : ((n : Int) > 1) = True := eq_true (by have := hqn.out; omega)
    have e8 : ((n : Int) - 2) = (q : Int) := by have := hqn.out; omega
    have hql : q < (ins ++ (hs ++ marksR n 64)).length := by rw [List.length_append]; omega
    have hqe : (ins ++ (hs ++ marksR n 64)).getD q fr0 = ins.getD q fr0 := by rw [List.getD_eq_getElem?_getD, List.getElem?_append_left (by omega), ← List.getD_eq_getElem?_getD]
    have hj0 : (fR (ins ++ (hs ++ marksR n 64)))[q * 3 + 0]? = some (.int .i64 (ins.getD q fr0).fn) := by rw [fR, flatMap_at cR 3 cR_len _ q 0 (by omega), getD_some _ fr0 q hql, hqe]; rfl
    obtain ⟨g1, g2⟩ := hm8.own_cell m0 (q * 3 + 0) hj0
    have hm9 := hm8.own_set (q * 3 + 0) (by rw [fR_len]; omega) (.int .i64 (wrap64 ((ins.getD q fr0).fn + 1))) rfl
    rw [fR_fn _ q _ hql, hqe, List.set_append_left q _ (by omega)] at hm9
    have hio9 := Fact.mk (hio.out.set q hq1 { ins.getD q fr0 with fn := wrap64 ((ins.getD q fr0).fn + 1) } ⟨rfl, rfl, rfl, rfl⟩)
    simp only [Nat.add_zero] at g1 g2 hm9
    generalize ins.set q { ins.getD q fr0 with fn := wrap64 ((ins.getD q fr0).fn + 1) } = ins9 at hm9 hio9
    generalize (ins.getD q fr0).fn = qf at g1 g2 hm9
    go_upto_region 9 with (fail)
    generalize w8.setCell _ _ = w9 at hm9 ⊢
    clear g1 g2 hj0 hqe hql e8 e7 hil hm8 hio hid hqn hq1
  rotate_left
  · skip
    have k5 := Gr.cell hm9.below k52.out
    have k6 := Gr.cell hm9.below k62.out
    have hfi : Fact (FrsOk N w9 (some ⟨gb, ob, none⟩) n d ins9) := ⟨(hio9.out.lent hm9 m0 (fun x h => .tail _ (List.mem_append_right _ (slots_mem h)))).frs⟩
    go_cut [13, 14] (fun s13 s14 W => ∃ (A9 : Option Addr) (n9 c9 : Nat) (zs : List Fr), s13 = .slice A9 n9 c9 ∧ s14 = .bool (decide (2 ≤ n)) ∧ Gr w9 W ∧ FrsOk (N + 1) W A9 n9 c9 zs ∧ Fact (zs.map Fr.data = retD ins9 (v1, v2)))
    case first =>
      as_aux_lemma =>
        have hgS := (Gr.refl w9).drew
        have hmS := (Mem.start w9).drew
        refine wp_region_until (S := fun W => W.cell? ⟨g + 1, 0, none⟩ = some (.int .i64 v1) ∧ W.cell? ⟨g + 1, 1, none⟩ = some (.int .i64 v2)) 8 (by kernel_rfl) ?_
        generalize w9.drew = wd at hgS hmS ⊢
        refine wpAnyU_take 0 (v := ?vv91) rfl (by kernel_rfl) (by kernel_rfl) (fun _ _ _ h => h) ⟨Gr.cell hgS k5, Gr.cell hgS k6⟩ (Or.inl ⟨rfl, ?yv91⟩) ?rv91
        case yv91 =>
          intro W hW
          obtain ⟨hW0, hW1⟩ := hW
          go_simp
          try with_reducible rfl
        try simp only [Act.put, List.getElem_toArray, List.getElem_cons_succ, List.getElem_cons_zero, List.setIfInBounds_toArray, List.set_cons_zero, List.set_cons_succ]
        refine wpAnyU_take 2 (v := ?vv92) rfl (by kernel_rfl) (by kernel_rfl) (fun _ _ _ h => h) ⟨Gr.cell hgS k5, Gr.cell hgS k6⟩ (Or.inl ⟨rfl, ?yv92⟩) ?rv92
        case yv92 =>
          intro W hW
          obtain ⟨hW0, hW1⟩ := hW
          go_simp
          try with_reducible rfl
        try simp only [Act.put, List.getElem_toArray, List.getElem_cons_succ, List.getElem_cons_zero, List.setIfInBounds_toArray, List.set_cons_zero, List.set_cons_succ]
        refine wpAnyU_one 1 (by kernel_rfl) rfl (fun K hK => ?_)
        refine step_callw rfl 26 Try.f26 Try.func26 (by kernel_rfl) (by kernel_rfl) _ _ rfl #[.slice (some ⟨gb, ob, none⟩) n d] (by simp [Act.eval]) ?_
        refine (copyFrames_ok wd N (some ⟨gb, ob, none⟩) n d ins9 ⟨hfi.out.gr hgS⟩ (by omega) (by omega)).mono ?_
        rintro e u1 ⟨A2, c3, ys4, rfl, hz5, hd6, hn7⟩
        have g8 := Gr.trans hgS hz5.below
        have hf9 : FrsOk N u1 A2 n c3 ys4 := frs_of hz5 hn7
        refine ⟨_, rfl, hK _ _ (fun _ => ⟨Gr.cell g8 k5, Gr.cell g8 k6⟩) ?_⟩
        clear hK K
        try simp only [Act.put, List.getElem_toArray, List.getElem_cons_succ, List.getElem_cons_zero, List.setIfInBounds_toArray, List.set_cons_zero, List.set_cons_succ]
        refine wpAnyU_one 3 (by kernel_rfl) rfl (fun K hK => ?_)
        refine step_callw rfl 22 Try.f22 Try.func22 (by kernel_rfl) (by kernel_rfl) _ _ rfl #[.slice A2 n c3, .agg #[.int .i64 v1, .int .i64 v2]] (by simp [Act.eval]) ?_
        refine (refReturn_ok u1 N A2 n c3 ys4 ⟨hf9⟩ (by omega) (by omega) (v1, v2)).mono ?_
        rintro e u10 ⟨A11, m12, c13, zs14, rfl, hz15, hd16, hn17⟩
        have g18 := Gr.trans g8 hz15.below
        have hf19 := frs_of hz15 hn17
        refine ⟨_, rfl, hK _ _ (fun _ => ⟨Gr.cell g18 k5, Gr.cell g18 k6⟩) ?_⟩
        clear hK K
        try simp only [Act.put, List.getElem_toArray, List.getElem_cons_succ, List.getElem_cons_zero, List.setIfInBounds_toArray, List.set_cons_zero, List.set_cons_succ]
        refine wpAnyU_take 4 (v := ?vv93) rfl (by kernel_rfl) (by kernel_rfl) (fun _ _ _ h => h) ⟨Gr.cell g18 k5, Gr.cell g18 k6⟩ (Or.inl ⟨rfl, ?yv93⟩) ?rv93
        case yv93 =>
          intro W hW
          obtain ⟨hW0, hW1⟩ := hW
          go_simp
          try with_reducible rfl
        try simp only [Act.put, List.getElem_toArray, List.getElem_cons_succ, List.getElem_cons_zero, List.setIfInBounds_toArray, List.set_cons_zero, List.set_cons_succ]
        refine wpAnyU_take 5 (v := ?vv94) rfl (by kernel_rfl) (by kernel_rfl) (fun _ _ _ h => h) ⟨Gr.cell g18 k5, Gr.cell g18 k6⟩ (Or.inl ⟨rfl, ?yv94⟩) ?rv94
        case yv94 =>
          intro W hW
          obtain ⟨hW0, hW1⟩ := hW
          go_simp
          try with_reducible rfl
        try simp only [Act.put, List.getElem_toArray, List.getElem_cons_succ, List.getElem_cons_zero, List.setIfInBounds_toArray, List.set_cons_zero, List.set_cons_succ]
        refine wpAnyU_take 6 (v := ?vv95) rfl (by kernel_rfl) (by kernel_rfl) (fun _ _ _ h => h) ⟨Gr.cell g18 k5, Gr.cell g18 k6⟩ (Or.inl ⟨rfl, ?yv95⟩) ?rv95
        case yv95 =>
          intro W hW
          obtain ⟨hW0, hW1⟩ := hW
          go_simp
          try with_reducible rfl
        try simp only [Act.put, List.getElem_toArray, List.getElem_cons_succ, List.getElem_cons_zero, List.setIfInBounds_toArray, List.set_cons_zero, List.set_cons_succ]
        refine wpAnyU_take 7 (v := ?vv96) rfl (by kernel_rfl) (by kernel_rfl) (fun _ _ _ h => h) ⟨Gr.cell g18 k5, Gr.cell g18 k6⟩ (Or.inl ⟨rfl, ?yv96⟩) ?rv96
        case yv96 =>
          intro W hW
          obtain ⟨hW0, hW1⟩ := hW
          go_simp
          try with_reducible rfl
        try simp only [Act.put, List.getElem_toArray, List.getElem_cons_succ, List.getElem_cons_zero, List.setIfInBounds_toArray, List.set_cons_zero, List.set_cons_succ]
        refine wpAnyU_one 8 (by kernel_rfl) rfl (fun K hK => ?_)
        go_simp
        refine hK _ _ (fun h => absurd h (by decide)) ?_
        clear hK K
        refine wpAnyU_done (by kernel_rfl) ?_ _
        go_wp2
        try simp only [Act.put, List.getElem_toArray, List.getElem_cons_succ, List.getElem_cons_zero, List.setIfInBounds_toArray, List.set_cons_succ, List.set_cons_zero]
        go_meet
        case rel => exact ⟨_, _, _, _, rfl, rfl, g18, hf19, ⟨by rw [hd16]; exact retD_data hd6 _⟩⟩
    case rest =>
      obtain ⟨w10, rfl⟩ : ∃ w10 : World, w10 = wc := ⟨_, rfl⟩
      obtain ⟨W2, wn, wk, zw, rfl, rfl, hg10, hfw, hdw⟩ := hcut
      have hfw := Fact.mk hfw
      have hm10 := hm9.gr hg10
      rw [hb2.out]
      clear hm9 hg10 k5 k6 hfi
      have k5 := Gr.cell hm10.below k52.out
      have k6 := Gr.cell hm10.below k62.out
      go_wp2_with (refine wp_rng rfl 25 _ rfl g7 0 rfl [.slice KA kn kc', .slice FA fnn fc'] (hq.out _ hm10.below) row_P szP ?_)
      refine (return_ok w10 ⟨KA, kn, kc', consts, FA, fnn, fc', fns⟩ N (some ⟨gb, ob, none⟩) n d ins9 ⟨(hio9.out.lent hm10 m0 (fun x h => .tail _ (List.mem_append_right _ (slots_mem h)))).frs⟩ (by omega) (by omega) (v1, v2)).mono ?_
      rintro e w11 ⟨H, hn2, hc, z2, rfl, hm11, hd2, hz2⟩
      rw [hb2.out]
      have hfw := Fact.mk (hfw.out.gr hm11.below)
      have hm11 := hm10.join hm11
      clear hm10 k5 k6
      have hz2 := Fact.mk hz2
      have hd2 := Fact.mk (hd2.trans hdw.out.symm)
      have hf2 : FrsOk (N + 1) w11 H hn2 hc z2 := frs_mem hm11 m0 (fun z hz => List.mem_append_left _ (.tail _ (slots_mem hz))) hz2.out
      have hnw : hn2 = wn := by
        have h1 := hf2.len
        have h2 := hfw.out.len
        have h3 := data_len hd2.out
        omega
      subst hnw
      have hn2b : hn2 ≤ n := by
        have h1 := hfw.out.len
        have h2 := congrArg List.length hdw.out
        have h3 := retD_len ins9 (v1, v2)
        have h4 := hio9.out.l1
        simp at h2
        omega
      have hf2 := Fact.mk hf2
      clear hdw
      go_wp2_with fail
      refine (sameFrames_ok w11 H W2 (N + 1) hn2 hc wk z2 zw hf2 hfw hd2 (by omega) (by omega)).mono ?_
      rintro e w12 ⟨rfl, hg12⟩
      have hm12 := hm11.gr hg12
      clear hm11 hg12 hfw hf2
      have hm12' := hm12.sub (List.sublist_append_right _ _)
      go_wp2_with fail
      refine (sameFrames_ok w12 G R (N + 1) gn gc rc z1 zr ⟨(hf1.out _ _ hm12').1⟩ ⟨(hf1.out _ _ hm12').2⟩ hdd (by omega) (by omega)).mono ?_
      rintro e w13 ⟨rfl, hg13⟩
      have hm13 := hm12.gr hg13
      clear hm12 hg13 hm12' hf1
      have hm13' := hm13.sub (List.sublist_append_right _ _)
      have hfi : Fact (FrsOk N w13 (some ⟨gb, ob, none⟩) n d ins9) := ⟨(hio9.out.lent hm13' m0 (fun x h => .tail _ (List.mem_append_right _ (slots_mem h)))).frs⟩
      clear hm13'
      go_wp2_with fail
      refine (copyFrames_ok w13 N (some ⟨gb, ob, none⟩) n d ins9 hfi (by omega) (by omega)).mono ?_
      rintro e w14 ⟨NA, nc, nx, rfl, hm14, hdn, hnn⟩
      have hm14 := hm13.join hm14
      have hdn := Fact.mk hdn
      have hnn := Fact.mk hnn
      clear hm13 hfi
      go_wp2_with fail
      have hA := hm14.alloc (.cells [.slice G gn gc, .slice H hn2 hc].toArray 39)
      have hA := hA.sub (L' := Blk w14.heap.size _ :: ((Own 3 (.slice NA n nc) (fR nx) :: slots nx) ++ ((Own 3 (.slice H hn2 hc) (fR z2) :: slots z2) ++ (Own 3 (.slice (some ⟨gb, ob, none⟩) (n + n + 64) d) (fR (ins9 ++ (hs ++ marksR n 64))) :: ((Own 3 (.slice G gn gc) (fR z1) :: slots z1) ++ slots hs))))) (.cons_cons _ (List.Sublist.append_left (List.Sublist.append_left (.cons_cons _ (List.Sublist.append_right (List.sublist_append_left _ _) _)) _) _))
      have hA := Mem.blk_own (n := 2) (size := 1) hA rfl (by simp [maxLen]) (lvs_one [⟨G, gn, gc, z1⟩, ⟨H, hn2, hc, z2⟩])
      have hA := hA.perm (perm_apart _ _ _ _ _ _ _ _)
      have hA' : Mem w2 (w14.alloc (.cells [.slice G gn gc, .slice H hn2 hc].toArray 39)) (slots ([⟨G, gn, gc, z1⟩, ⟨H, hn2, hc, z2⟩].flatMap FL.fs) ++ ([⟨G, gn, gc, z1⟩, ⟨H, hn2, hc, z2⟩].map lst ++ (Own 1 (.slice (some ⟨w14.heap.size, 0, none⟩) 2 2) (lvs [⟨G, gn, gc, z1⟩, ⟨H, hn2, hc, z2⟩]) :: (Own 3 (.slice (some ⟨gb, ob, none⟩) (n + n + 64) d) (fR (ins9 ++ (hs ++ marksR n 64))) :: (slots hs ++ (Own 3 (.slice NA n nc) (fR nx) :: slots nx)))))) := by
        simp only [List.flatMap_cons, List.flatMap_nil, List.append_nil, slots_app]
        exact hA
      refine (apartFrames_ok w2 _ (some ⟨w14.heap.size, 0, none⟩) 2 2 (N + 1) [⟨G, gn, gc, z1⟩, ⟨H, hn2, hc, z2⟩] _ hA' ⟨rfl⟩ ⟨fun l hl => by
        simp at hl
        rcases hl with rfl | rfl
        · exact ⟨by show gn ≤ _; omega, hn1.out⟩
        · exact ⟨by show hn2 ≤ _; omega, hz2.out⟩⟩ (by omega) (by omega)).mono ?_
      rintro e w15 ⟨rfl, hm15⟩
      clear hA hA' hm14
      have hfn : Fact (FrsOk N w15 NA n nc nx) := ⟨frs_mem hm15 (.tail _ (List.mem_append_right _ m0)) (fun z hz => .tail _ (List.mem_append_right _ (.tail _ (slots_mem hz)))) hnn.out⟩
      go_wp2_with fail
      refine (keptFrames_ok w15 N (some ⟨gb, ob, none⟩) n d ins9 hs ⟨hio9.out.lent hm15 m0 (fun x h => .tail _ (List.mem_append_left _ (slots_mem h)))⟩ NA nc nx hfn ⟨hdn.out.symm⟩ hn (by omega)).mono ?_
      rintro e w16 ⟨rfl, hg16⟩
      have hfin := Fact.mk (Gr.trans hg0.out (Gr.trans hm15.below hg16))
      clear hm15 hfn
      go_wp2
      go_ret
      exact ⟨rfl, hfin.out⟩
  · skip
    have k5 := Gr.cell hm9.below k52.out
    have k6 := Gr.cell hm9.below k62.out
    have hfi : Fact (FrsOk N w9 (some ⟨gb, ob, none⟩) n d ins9) := ⟨(hio9.out.lent hm9 m0 (fun x h => .tail _ (List.mem_append_right _ (slots_mem h)))).frs⟩
    go_cut [13, 14] (fun s13 s14 W => ∃ (A9 : Option Addr) (n9 c9 : Nat) (zs : List Fr), s13 = .slice A9 n9 c9 ∧ s14 = .bool (decide (2 ≤ n)) ∧ Gr w9 W ∧ FrsOk (N + 1) W A9 n9 c9 zs ∧ Fact (zs.map Fr.data = retD ins9 (v1, v2)))
    case first =>
      as_aux_lemma =>
        have hgS := (Gr.refl w9).drew
        have hmS := (Mem.start w9).drew
        refine wp_region_until (S := fun W => W.cell? ⟨g + 1, 0, none⟩ = some (.int .i64 v1) ∧ W.cell? ⟨g + 1, 1, none⟩ = some (.int .i64 v2)) 8 (by kernel_rfl) ?_
        generalize w9.drew = wd at hgS hmS ⊢
        refine wpAnyU_take 0 (v := ?vv9_a_1) rfl (by kernel_rfl) (by kernel_rfl) (fun _ _ _ h => h) ⟨Gr.cell hgS k5, Gr.cell hgS k6⟩ (Or.inl ⟨rfl, ?yv9_a_1⟩) ?rv9_a_1
        case yv9_a_1 =>
          intro W hW
          obtain ⟨hW0, hW1⟩ := hW
          go_simp
          try with_reducible rfl
        try simp only [Act.put, List.getElem_toArray, List.getElem_cons_succ, List.getElem_cons_zero, List.setIfInBounds_toArray, List.set_cons_zero, List.set_cons_succ]
        refine wpAnyU_take 2 (v := ?vv9_a_2) rfl (by kernel_rfl) (by kernel_rfl) (fun _ _ _ h => h) ⟨Gr.cell hgS k5, Gr.cell hgS k6⟩ (Or.inl ⟨rfl, ?yv9_a_2⟩) ?rv9_a_2
        case yv9_a_2 =>
          intro W hW
          obtain ⟨hW0, hW1⟩ := hW
          go_simp
          try with_reducible rfl
        try simp only [Act.put, List.getElem_toArray, List.getElem_cons_succ, List.getElem_cons_zero, List.setIfInBounds_toArray, List.set_cons_zero, List.set_cons_succ]
        refine wpAnyU_one 1 (by kernel_rfl) rfl (fun K hK => ?_)
        refine step_callw rfl 26 Try.f26 Try.func26 (by kernel_rfl) (by kernel_rfl) _ _ rfl #[.slice (some ⟨gb, ob, none⟩) n d] (by simp [Act.eval]) ?_
        refine (copyFrames_ok wd N (some ⟨gb, ob, none⟩) n d ins9 ⟨hfi.out.gr hgS⟩ (by omega) (by omega)).mono ?_
        rintro e u20 ⟨A21, c22, ys23, rfl, hz24, hd25, hn26⟩
        have g27 := Gr.trans hgS hz24.below
        have hf28 : FrsOk N u20 A21 n c22 ys23 := frs_of hz24 hn26
        refine ⟨_, rfl, hK _ _ (fun _ => ⟨Gr.cell g27 k5, Gr.cell g27 k6⟩) ?_⟩
        clear hK K
        try simp only [Act.put, List.getElem_toArray, List.getElem_cons_succ, List.getElem_cons_zero, List.setIfInBounds_toArray, List.set_cons_zero, List.set_cons_succ]
        refine wpAnyU_one 3 (by kernel_rfl) rfl (fun K hK => ?_)
        refine step_callw rfl 22 Try.f22 Try.func22 (by kernel_rfl) (by kernel_rfl) _ _ rfl #[.slice A21 n c22, .agg #[.int .i64 v1, .int .i64 v2]] (by simp [Act.eval]) ?_
        refine (refReturn_ok u20 N A21 n c22 ys23 ⟨hf28⟩ (by omega) (by omega) (v1, v2)).mono ?_
        rintro e u29 ⟨A30, m31, c32, zs33, rfl, hz34, hd35, hn36⟩
        have g37 := Gr.trans g27 hz34.below
        have hf38 := frs_of hz34 hn36
        refine ⟨_, rfl, hK _ _ (fun _ => ⟨Gr.cell g37 k5, Gr.cell g37 k6⟩) ?_⟩
        clear hK K
        try simp only [Act.put, List.getElem_toArray, List.getElem_cons_succ, List.getElem_cons_zero, List.setIfInBounds_toArray, List.set_cons_zero, List.set_cons_succ]
        refine wpAnyU_take 4 (v := ?vv9_a_3) rfl (by kernel_rfl) (by kernel_rfl) (fun _ _ _ h => h) ⟨Gr.cell g37 k5, Gr.cell g37 k6⟩ (Or.inl ⟨rfl, ?yv9_a_3⟩) ?rv9_a_3
        case yv9_a_3 =>
          intro W hW
          obtain ⟨hW0, hW1⟩ := hW
          go_simp
          try with_reducible rfl
        try simp only [Act.put, List.getElem_toArray, List.getElem_cons_succ, List.getElem_cons_zero, List.setIfInBounds_toArray, List.set_cons_zero, List.set_cons_succ]
        refine wpAnyU_take 5 (v := ?vv9_a_4) rfl (by kernel_rfl) (by kernel_rfl) (fun _ _ _ h => h) ⟨Gr.cell g37 k5, Gr.cell g37 k6⟩ (Or.inl ⟨rfl, ?yv9_a_4⟩) ?rv9_a_4
        case yv9_a_4 =>
          intro W hW
          obtain ⟨hW0, hW1⟩ := hW
          go_simp
          try with_reducible rfl
        try simp only [Act.put, List.getElem_toArray, List.getElem_cons_succ, List.getElem_cons_zero, List.setIfInBounds_toArray, List.set_cons_zero, List.set_cons_succ]
        refine wpAnyU_take 6 (v := ?vv9_a_5) rfl (by kernel_rfl) (by kernel_rfl) (fun _ _ _ h => h) ⟨Gr.cell g37 k5, Gr.cell g37 k6⟩ (Or.inl ⟨rfl, ?yv9_a_5⟩) ?rv9_a_5
        case yv9_a_5 =>
          intro W hW
          obtain ⟨hW0, hW1⟩ := hW
          go_simp
          try with_reducible rfl
        try simp only [Act.put, List.getElem_toArray, List.getElem_cons_succ, List.getElem_cons_zero, List.setIfInBounds_toArray, List.set_cons_zero, List.set_cons_succ]
        refine wpAnyU_take 7 (v := ?vv9_a_6) rfl (by kernel_rfl) (by kernel_rfl) (fun _ _ _ h => h) ⟨Gr.cell g37 k5, Gr.cell g37 k6⟩ (Or.inl ⟨rfl, ?yv9_a_6⟩) ?rv9_a_6
        case yv9_a_6 =>
          intro W hW
          obtain ⟨hW0, hW1⟩ := hW
          go_simp
          try with_reducible rfl
        try simp only [Act.put, List.getElem_toArray, List.getElem_cons_succ, List.getElem_cons_zero, List.setIfInBounds_toArray, List.set_cons_zero, List.set_cons_succ]
        refine wpAnyU_one 8 (by kernel_rfl) rfl (fun K hK => ?_)
        go_simp
        refine hK _ _ (fun h => absurd h (by decide)) ?_
        clear hK K
        refine wpAnyU_done (by kernel_rfl) ?_ _
        go_wp2
        try simp only [Act.put, List.getElem_toArray, List.getElem_cons_succ, List.getElem_cons_zero, List.setIfInBounds_toArray, List.set_cons_succ, List.set_cons_zero]
        go_meet
        case rel => exact ⟨_, _, _, _, rfl, rfl, g37, hf38, ⟨by rw [hd35]; exact retD_data hd25 _⟩⟩
    case rest =>
      obtain ⟨w10, rfl⟩ : ∃ w10 : World, w10 = wc := ⟨_, rfl⟩
      obtain ⟨W2, wn, wk, zw, rfl, rfl, hg10, hfw, hdw⟩ := hcut
      have hfw := Fact.mk hfw
      have hm10 := hm9.gr hg10
      rw [hb2.out]
      clear hm9 hg10 k5 k6 hfi
      have k5 := Gr.cell hm10.below k52.out
      have k6 := Gr.cell hm10.below k62.out
      go_wp2_with (refine wp_rng rfl 25 _ rfl g7 0 rfl [.slice KA kn kc', .slice FA fnn fc'] (hq.out _ hm10.below) row_P szP ?_)
      refine (return_ok w10 ⟨KA, kn, kc', consts, FA, fnn, fc', fns⟩ N (some ⟨gb, ob, none⟩) n d ins9 ⟨(hio9.out.lent hm10 m0 (fun x h => .tail _ (List.mem_append_right _ (slots_mem h)))).frs⟩ (by omega) (by omega) (v1, v2)).mono ?_
      rintro e w11 ⟨H, hn2, hc, z2, rfl, hm11, hd2, hz2⟩
      rw [hb2.out]
      have hfw := Fact.mk (hfw.out.gr hm11.below)
      have hm11 := hm10.join hm11
      clear hm10 k5 k6
      have hz2 := Fact.mk hz2
      have hd2 := Fact.mk (hd2.trans hdw.out.symm)
      have hf2 : FrsOk (N + 1) w11 H hn2 hc z2 := frs_mem hm11 m0 (fun z hz => List.mem_append_left _ (.tail _ (slots_mem hz))) hz2.out
      have hnw : hn2 = wn := by
        have h1 := hf2.len
        have h2 := hfw.out.len
        have h3 := data_len hd2.out
        omega
      subst hnw
      have hn2b : hn2 ≤ n := by
        have h1 := hfw.out.len
        have h2 := congrArg List.length hdw.out
        have h3 := retD_len ins9 (v1, v2)
        have h4 := hio9.out.l1
        simp at h2
        omega
      have hf2 := Fact.mk hf2
      clear hdw
      go_wp2_with fail
      refine (sameFrames_ok w11 H W2 (N + 1) hn2 hc wk z2 zw hf2 hfw hd2 (by omega) (by omega)).mono ?_
      rintro e w12 ⟨rfl, hg12⟩
      have hm12 := hm11.gr hg12
      clear hm11 hg12 hfw hf2
      have hm12' := hm12.sub (List.sublist_append_right _ _)
      go_wp2_with fail
      refine (sameFrames_ok w12 G R (N + 1) gn gc rc z1 zr ⟨(hf1.out _ _ hm12').1⟩ ⟨(hf1.out _ _ hm12').2⟩ hdd (by omega) (by omega)).mono ?_
      rintro e w13 ⟨rfl, hg13⟩
      have hm13 := hm12.gr hg13
      clear hm12 hg13 hm12' hf1
      have hm13' := hm13.sub (List.sublist_append_right _ _)
      have hfi : Fact (FrsOk N w13 (some ⟨gb, ob, none⟩) n d ins9) := ⟨(hio9.out.lent hm13' m0 (fun x h => .tail _ (List.mem_append_right _ (slots_mem h)))).frs⟩
      clear hm13'
      go_wp2_with fail
      refine (copyFrames_ok w13 N (some ⟨gb, ob, none⟩) n d ins9 hfi (by omega) (by omega)).mono ?_
      rintro e w14 ⟨NA, nc, nx, rfl, hm14, hdn, hnn⟩
      have hm14 := hm13.join hm14
      have hdn := Fact.mk hdn
      have hnn := Fact.mk hnn
      clear hm13 hfi
      go_wp2_with fail
      have hA := hm14.alloc (.cells [.slice G gn gc, .slice H hn2 hc].toArray 39)
      have hA := hA.sub (L' := Blk w14.heap.size _ :: ((Own 3 (.slice NA n nc) (fR nx) :: slots nx) ++ ((Own 3 (.slice H hn2 hc) (fR z2) :: slots z2) ++ (Own 3 (.slice (some ⟨gb, ob, none⟩) (n + n + 64) d) (fR (ins9 ++ (hs ++ marksR n 64))) :: ((Own 3 (.slice G gn gc) (fR z1) :: slots z1) ++ slots hs))))) (.cons_cons _ (List.Sublist.append_left (List.Sublist.append_left (.cons_cons _ (List.Sublist.append_right (List.sublist_append_left _ _) _)) _) _))
      have hA := Mem.blk_own (n := 2) (size := 1) hA rfl (by simp [maxLen]) (lvs_one [⟨G, gn, gc, z1⟩, ⟨H, hn2, hc, z2⟩])
      have hA := hA.perm (perm_apart _ _ _ _ _ _ _ _)
      have hA' : Mem w2 (w14.alloc (.cells [.slice G gn gc, .slice H hn2 hc].toArray 39)) (slots ([⟨G, gn, gc, z1⟩, ⟨H, hn2, hc, z2⟩].flatMap FL.fs) ++ ([⟨G, gn, gc, z1⟩, ⟨H, hn2, hc, z2⟩].map lst ++ (Own 1 (.slice (some ⟨w14.heap.size, 0, none⟩) 2 2) (lvs [⟨G, gn, gc, z1⟩, ⟨H, hn2, hc, z2⟩]) :: (Own 3 (.slice (some ⟨gb, ob, none⟩) (n + n + 64) d) (fR (ins9 ++ (hs ++ marksR n 64))) :: (slots hs ++ (Own 3 (.slice NA n nc) (fR nx) :: slots nx)))))) := by
        simp only [List.flatMap_cons, List.flatMap_nil, List.append_nil, slots_app]
        exact hA
      refine (apartFrames_ok w2 _ (some ⟨w14.heap.size, 0, none⟩) 2 2 (N + 1) [⟨G, gn, gc, z1⟩, ⟨H, hn2, hc, z2⟩] _ hA' ⟨rfl⟩ ⟨fun l hl => by
        simp at hl
        rcases hl with rfl | rfl
        · exact ⟨by show gn ≤ _; omega, hn1.out⟩
        · exact ⟨by show hn2 ≤ _; omega, hz2.out⟩⟩ (by omega) (by omega)).mono ?_
      rintro e w15 ⟨rfl, hm15⟩
      clear hA hA' hm14
      have hfn : Fact (FrsOk N w15 NA n nc nx) := ⟨frs_mem hm15 (.tail _ (List.mem_append_right _ m0)) (fun z hz => .tail _ (List.mem_append_right _ (.tail _ (slots_mem hz)))) hnn.out⟩
      go_wp2_with fail
      refine (keptFrames_ok w15 N (some ⟨gb, ob, none⟩) n d ins9 hs ⟨hio9.out.lent hm15 m0 (fun x h => .tail _ (List.mem_append_left _ (slots_mem h)))⟩ NA nc nx hfn ⟨hdn.out.symm⟩ hn (by omega)).mono ?_
      rintro e w16 ⟨rfl, hg16⟩
      have hfin := Fact.mk (Gr.trans hg0.out (Gr.trans hm15.below hg16))
      clear hm15 hfn
      go_wp2
      go_ret
      exact ⟨rfl, hfin.out⟩
theorem framesReturn_ok (H : Type) (enc : TypeId × Value → H) (W : World) (base : Nat)
    (v0 : Value) (d0 : DataW H) (p0 : List MemPlace) (h0 : DataW.Trod enc Try.prog W 0 (fun _ => true) true 25 v0 d0 p0) (ok0 : Value.okWide Try.prog W .any base 25 v0)
    (v1 : Value) (d1 : DataW H) (p1 : List MemPlace) (h1 : DataW.Trod enc Try.prog W 0 (fun _ => true) true 39 v1 d1 p1) (ok1 : Value.okWide Try.prog W .any base 39 v1)
    (v2 : Value) (d2 : DataW H) (p2 : List MemPlace) (h2 : DataW.Trod enc Try.prog W 0 (fun _ => true) true 41 v2 d2 p2) (ok2 : Value.okWide Try.prog W .any base 41 v2) (hk : Rows.uptoSmall H ([d0, d1, d2] ++ []) = true) :
    Calls Try.prog 4 #[v0, v1, v2] W fun e w' => e = .returned (.bool true) ∧ Gr W w' := by
  have hb := bulk_small hk
  simp only [Rows.uptoBulkAll, List.cons_append, List.nil_append] at hb
  obtain ⟨p, rfl, hp, hkn⟩ := open_prog h0 ok0 (by omega)
  obtain ⟨A, n, c, xs, rfl, hx, hl⟩ := open_frames h1 ok1
  obtain ⟨⟨v1, v2⟩, rfl⟩ := open_val h2 ok2
  exact return_walk W p ⟨hp⟩ hkn 1048576 A n c xs ⟨⟨hx.rd, fun f hf => ⟨(hx.each f hf).1, by have := (hx.each f hf).2; omega⟩⟩⟩ (by omega) (by omega) v1 v2
end Go.Proofs.Ytgflfpepfpekhaa
