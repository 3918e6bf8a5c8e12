import Derived.Test.YtgflfpepfpekhaaFrLentW
namespace Go.Proofs.Ytgflfpepfpekhaa
open Go.RowKit Go.Mm
set_option maxHeartbeats 2000000
set_option maxRecDepth 100000
theorem marksC_at (xs : List C3) (n j : Nat) (hn : xs.length = n) (hj : j < 64) : (xs ++ marksC 64).getD (n + j) c0 = (-7, (j : Int), ⟨#[]⟩) := by
  rw [List.getD_eq_getElem?_getD, List.getElem?_append_right (by omega), hn, Nat.add_sub_cancel_left]
  simp [marksC, hj, markC]
theorem keptProgram_ok (w : World) (p : Pg) (hp : Fact (PgOk w p)) (hk : p.kn ≤ 1048576) (KA : Option Addr) (kc' : Nat) (FA : Option Addr) (fc' : Nat) (hs : List Fn) (hl : Fact (LentOk w p KA kc' FA fc' hs)) :
    Calls Try.prog 18 #[vP (lentP p KA kc' FA fc' hs), vP p] w fun e w' => e = .returned (.bool true) ∧ Gr w w' := by
  have hfn := hp.out.small.1
  have hfl : Fact (p.fns.length = p.fn) := ⟨rd_len cF_len (by omega) hp.out.fns⟩
  have hcl : Fact (p.consts.length = p.kn) := ⟨rd_len cC_len (by omega) hp.out.consts⟩
  obtain ⟨kA, kn, kc, consts, fA, n, fc, fns⟩ := p
  have hkc : kn + 64 ≤ kc' ∧ kc' ≤ maxLen := by obtain ⟨_, _, _, e, _, h1, h2, _⟩ := hl.out.consts; cases e; exact ⟨h1, h2⟩
  have hfc : 2 * n + 64 ≤ fc' ∧ fc' ≤ maxLen := by obtain ⟨_, _, _, e, _, h1, h2, _⟩ := hl.out.fns; cases e; exact ⟨h1, h2⟩
  simp only [vP, lentP] at *
  try dsimp only at hk hfn hfl hcl
  have e1 : kn + 64 ≤ kc' := hkc.1
  have e2 : 2 * n + 64 ≤ fc' := hfc.1
  go_enter Try.func18, Try.ntmps18
  go_upto_region 1 with (fail)
  have hm := (((Mem.start w).alloc (.cells [.slice KA kn kc', .slice FA n fc'].toArray 25)).alloc (.cells [.slice kA kn kc, .slice fA n fc].toArray 25))
  simp only [World.size_alloc] at hm
  generalize hgX : w.heap.size = g at hm ⊢
  generalize hwX : ((w.alloc (.cells [.slice KA kn kc', .slice FA n fc'].toArray 25)).alloc (.cells [.slice kA kn kc, .slice fA n fc].toArray 25)) = w1 at hm
  try refine wp_world hwX ?_
  clear hwX hgX
  have p1 := hm.cell m1 0 rfl
  have p2 := hm.cell m1 1 rfl
  have p3 := hm.cell m0 0 rfl
  have p4 := hm.cell m0 1 rfl
  have hp := Fact.mk (hp.out.gr hm.below)
  have hl := Fact.mk (hl.out.gr hm.below)
  have hgr := Fact.mk hm.below
  have hlf : Fact (RdC w1 5 (.slice FA (2 * n + 64) fc') (fF (List.zipWith lentF fns hs ++ hs ++ marksF n 64))) := ⟨hl.out.fns⟩
  have hlc : Fact (RdC w1 3 (.slice KA (kn + 64) kc') (fC (consts ++ marksC 64))) := ⟨hl.out.consts⟩
  have hll : Fact (∀ k, k < n → FullOf (fns.getD k fn0) k (hs.getD k fn0)) := ⟨hl.out.full⟩
  have hlh : Fact (hs.length = n) := ⟨hl.out.len⟩
  have hpf : Fact (RdC w1 5 (.slice fA n fc) (fF fns)) := ⟨hp.out.fns⟩
  have hpc : Fact (RdC w1 3 (.slice kA kn kc) (fC consts)) := ⟨hp.out.consts⟩
  clear hm hkc hfc
  go_upto_region 6 with (fail)
  go_wp2
  go_loopw [8] (fun v w' => ∃ (k : Nat), v = .int .i64 k ∧ k ≤ kn + 64 ∧ Gr w1 w') (fun v _ => kn + 64 - (intOf v).toNat)
  case atStart => exact ⟨0, rfl, by omega, Gr.refl _⟩
  case round =>
    obtain ⟨k, rfl, hk1, hg⟩ := hrel
    have p3' := hg.cell p3
    by_cases hlt : k < kn + 64
    · obtain ⟨b, o, e, r1, _, _⟩ := rd_at cC_len (by omega) c0 hlc.out k hlt
      try dsimp only at e
      subst e
      have r1 := rng_gr r1 hg
      by_cases hin : k < kn
      · obtain ⟨bb, ob, e, r2, _, _⟩ := rd_at cC_len (by omega) c0 hpc.out k hin
        try dsimp only at e
        cases e
        have r2 := rng_gr r2 hg
        have e3 : (consts ++ marksC 64).getD k c0 = consts.getD k c0 := by rw [List.getD_eq_getElem?_getD, List.getElem?_append_left (by have := hcl.out; omega), ← List.getD_eq_getElem?_getD]
        rw [e3] at r1
        clear e3
        generalize consts.getD k c0 = x at r1 r2
        go_upto_region 10 with (fail)
        have hm := (Mem.start wr).alloc (.cells [.int .i64 (-7), .int .i64 ((k : Int) - (kn : Int)), .string ⟨#[]⟩].toArray 130)
        generalize hg1 : wr.heap.size = g0 at hm ⊢
        generalize hw1 : wr.alloc (.cells [.int .i64 (-7), .int .i64 ((k : Int) - (kn : Int)), .string ⟨#[]⟩].toArray 130) = w2 at hm
        try refine wp_world hw1 ?_
        clear hw1 hg1
        have r1 := Fact.mk r1
        have r2 := Fact.mk (rng_gr r2 hm.below)
        have p3' := Gr.cell hm.below p3'
        go_upto_region 12 with (first | (refine wp_rng rfl 130 _ rfl bb _ rfl (cC x) r2.out row_C szC ?_) | (refine wp_setrow rfl 130 _ _ rfl g0 rfl 130 _ (cC x) rfl hm szC rfl (cC_one x) ?_; intro w3 hm3))
        obtain ⟨x1, x2, x3⟩ := x
        have a1 := Gr.cell hm3.below (r1.out 0 _ rfl)
        have b1 := hm3.cell m0 0 rfl
        have a2 := Gr.cell hm3.below (r1.out 1 _ rfl)
        have b2 := hm3.cell m0 1 rfl
        have a3 := Gr.cell hm3.below (r1.out 2 _ rfl)
        have b3 := hm3.cell m0 2 rfl
        simp only [Nat.add_zero] at a1
        have hgr := hg.trans hm3.below
        clear r1 r2 hm hm3 p3'
        go_quiet (fail)
        go_wp2
        go_roundw
        case rel => exact ⟨k + 1, by go_num, by omega, Gr.drewN hgr _⟩
        case measure => simp [intOf]; omega
      · obtain ⟨i, rfl⟩ : ∃ i, k = kn + i := ⟨k - kn, by omega⟩
        rw [marksC_at consts kn i hcl.out (by omega)] at r1
        have e4 : ((kn + i : Nat) : Int) - (kn : Int) = (i : Int) := by omega
        have e5 : (kn : Int) + (i : Int) - (kn : Int) = (i : Int) := by omega
        go_upto_region 10 with (fail)
        have hm := (Mem.start wr).alloc (.cells [.int .i64 (-7), .int .i64 (i : Int), .string ⟨#[]⟩].toArray 130)
        generalize hg1 : wr.heap.size = g0 at hm ⊢
        generalize hw1 : wr.alloc (.cells [.int .i64 (-7), .int .i64 (i : Int), .string ⟨#[]⟩].toArray 130) = w2 at hm
        try refine wp_world hw1 ?_
        clear hw1 hg1
        have a1 := Gr.cell hm.below (r1 0 _ rfl)
        have b1 := hm.cell m0 0 rfl
        have a2 := Gr.cell hm.below (r1 1 _ rfl)
        have b2 := hm.cell m0 1 rfl
        have a3 := Gr.cell hm.below (r1 2 _ rfl)
        have b3 := hm.cell m0 2 rfl
        simp only [Nat.add_zero] at a1
        have hgr := hg.trans hm.below
        have p3' := Gr.cell hm.below p3'
        go_upto_region 12 with (fail)
        clear r1 hm p3'
        go_quiet (fail)
        go_wp2
        go_roundw
        case rel => exact ⟨kn + i + 1, by go_num, by omega, Gr.drewN hgr _⟩
        case measure => simp [intOf]; omega
    · go_wp2
      obtain ⟨wo, hwo⟩ : ∃ wo : World, wo = wr := ⟨_, rfl⟩
      rw [← hwo] at hg ⊢
      clear hwo p3'
      go_loopw [10] (fun v w' => ∃ (j : Nat), v = .int .i64 j ∧ j ≤ n ∧ Gr w1 w') (fun v _ => n - (intOf v).toNat)
      case atStart => exact ⟨0, rfl, by omega, hg⟩
      case round =>
        clear hg
        obtain ⟨j, rfl, hj, hg⟩ := hrel
        have p4' := hg.cell p4
        by_cases hlt2 : j < n
        · obtain ⟨b, o, e, r1, _, _⟩ := rd_at cF_len (by omega) fn0 hpf.out j hlt2
          try dsimp only at e
          cases e
          obtain ⟨ba, oa, e, r2, _, _⟩ := rd_at cF_len (by omega) fn0 hlf.out j (by omega)
          try dsimp only at e
          subst e
          obtain ⟨_, _, e, r3, _, _⟩ := rd_at cF_len (by omega) fn0 hlf.out (n + j) (by omega)
          cases e
          have hfo := hll.out j hlt2
          have hhl := hlh.out
          try dsimp only at hfo hhl
          have hxm : fns.getD j fn0 ∈ fns := List.mem_of_getElem? (getD_some fns fn0 j (by have := hfl.out; omega))
          have hym : hs.getD j fn0 ∈ hs := List.mem_of_getElem? (getD_some hs fn0 j (by omega))
          have hx1 := hp.out.each _ hxm
          have hx2 := hp.out.small.2 _ hxm
          have hy1 := hl.out.codes _ hym
          have hy2 := hl.out.hands _ hym
          have q1 : (List.zipWith lentF fns hs ++ hs ++ marksF n 64).getD j fn0 = lentF (fns.getD j fn0) (hs.getD j fn0) := by
            have h1 := getD_some fns fn0 j (by have := hfl.out; omega)
            have h2 := getD_some hs fn0 j (by omega)
            rw [List.append_assoc, List.getD_eq_getElem?_getD, List.getElem?_append_left (by have := hfl.out; simp; omega), List.getElem?_zipWith, h1, h2]
            rfl
          have q2 : (List.zipWith lentF fns hs ++ hs ++ marksF n 64).getD (n + j) fn0 = hs.getD j fn0 := by
            have e1 : (List.zipWith lentF fns hs).length = n := by have := hfl.out; simp; omega
            rw [List.append_assoc, List.getD_eq_getElem?_getD, List.getElem?_append_right (by omega), e1, Nat.add_sub_cancel_left, List.getElem?_append_left (by omega), ← List.getD_eq_getElem?_getD]
          rw [q1] at r2
          rw [q2] at r3
          clear q1 q2 hxm hym hhl
          generalize fns.getD j fn0 = x at *
          generalize hs.getD j fn0 = y at *
          obtain ⟨x1, x2, x3, x4, x5, x6, x7, x8, x9, x10, x11⟩ := x
          obtain ⟨y1, y2, y3, y4, y5, y6, y7, y8, y9, y10, y11⟩ := y
          obtain ⟨rfl, rfl, rfl, rfl, rfl, rfl, rfl⟩ := hfo
          try dsimp only at hx2
          have rc := Fact.mk (hx1.1.gr hg)
          have rh := Fact.mk (hx1.2.gr hg)
          have sc := Fact.mk (hy1.gr hg)
          have sh := Fact.mk (hy2.gr hg)
          have r1 := rng_gr r1 hg
          have r2 := rng_gr r2 hg
          have r3 := Fact.mk (rng_gr r3 hg)
          clear hx1 hy1 hy2
          go_upto_region 18 with (first | (refine wp_rng rfl 87 _ rfl b _ rfl [.string x1, .int .i64 x2, .int .i64 x3, .slice x4 x5 x6, .slice x8 x9 x10] r1 row_F szF ?_) | (refine wp_setrow rfl 87 _ _ rfl _ rfl 87 _ [.string x1, .int .i64 x2, .int .i64 x3, .slice x4 x5 x6, .slice x8 x9 x10] rfl ((Mem.start wr).alloc _) szF rfl (cF_one ⟨x1, x2, x3, x4, x5, x6, x7, x8, x9, x10, x11⟩) ?_; intro w3 hm3))
          generalize wr.heap.size = g3 at hm3 ⊢
          have r2 := rng_gr r2 hm3.below
          go_upto_region 19 with (first | (refine wp_rng rfl 87 _ rfl ba _ rfl [.string x1, .int .i64 x2, .int .i64 x3, .slice y4 x5 y6, .slice y8 x9 y10] r2 row_F szF ?_) | (refine wp_setrow rfl 87 _ _ rfl _ rfl 87 _ [.string x1, .int .i64 x2, .int .i64 x3, .slice y4 x5 y6, .slice y8 x9 y10] rfl (hm3.alloc _) szF rfl (cF_one ⟨x1, x2, x3, y4, x5, y6, x7, y8, x9, y10, x11⟩) ?_; intro w4 hm4))
          generalize w3.heap.size = g4 at hm4 ⊢
          have hxl : x7.length = x5 := rdV_len rc.out
          have hxl2 : x11.length = x9 := rdH_len rh.out
          have c1 := hm4.cell m1 0 rfl
          have c2 := hm4.cell m1 1 rfl
          have c3 := hm4.cell m1 2 rfl
          have c4 := hm4.cell m1 3 rfl
          have c5 := hm4.cell m1 4 rfl
          have d1 := hm4.cell m0 0 rfl
          have d2 := hm4.cell m0 1 rfl
          have d3 := hm4.cell m0 2 rfl
          have d4 := hm4.cell m0 3 rfl
          have d5 := hm4.cell m0 4 rfl
          have sc' := Fact.mk (rd_pre cV_len sc.out hxl)
          have sh' := Fact.mk (rd_pre cH_len sh.out hxl2)
          have hm4' := Fact.mk hm4
          clear r1 r2 hm3 hm4 hxl hxl2
          go_wp2_with fail
          refine (sameInstrs_ok w4 y4 x4 x5 y6 x6 x7 ⟨sc'.out.gr hm4'.out.below⟩ ⟨rc.out.gr hm4'.out.below⟩ (by omega)).mono ?_
          rintro e w5 ⟨rfl, hg5⟩
          have c5 := Gr.cell hg5 c5
          have d5 := Gr.cell hg5 d5
          go_wp2_with fail
          refine (sameHandlers_ok w5 y8 x8 x9 y10 x10 x11 ⟨sh'.out.gr (Gr.trans hm4'.out.below hg5)⟩ ⟨rh.out.gr (Gr.trans hm4'.out.below hg5)⟩ (by omega)).mono ?_
          rintro e w6 ⟨rfl, hg6⟩
          have hm6 := (hm4'.out.gr hg5).gr hg6
          have c4 := hm6.cell m1 3 rfl
          have c5 := hm6.cell m1 4 rfl
          have b4 := Gr.cell hm6.below (r3.out 3 _ rfl)
          have b5 := Gr.cell hm6.below (r3.out 4 _ rfl)
          have hg7 := hg.trans hm6.below
          have hgw := Fact.mk hm6.below
          clear hm6 c1 c2 c3 d1 d2 d3 d4 d5
          go_upto_region 21 with (fail)
          have e3 : IntKind.i64.wrap ((n : Int) + (j : Int)) = (n : Int) + (j : Int) := IntWalk.i64_in _ (by omega)
          have e4 : (0 : Int) ≤ (n : Int) + (j : Int) := by omega
          have e5 : (n : Int) + (j : Int) < 2 * (n : Int) + 64 := by omega
          have e6 : ((n : Int) + (j : Int)).toNat = n + j := by omega
          go_region_held3 (fun W => Gr w6 W ∧ W.cell? ⟨ba, oa + (n + j) * 5 + 3, none⟩ = some (.slice y4 (x5 + 64) y6) ∧ W.cell? ⟨ba, oa + (n + j) * 5 + 4, none⟩ = some (.slice y8 (x9 + 64) y10) ∧ W.cell? ⟨g3, 3, none⟩ = some (.slice x4 x5 x6) ∧ W.cell? ⟨g3, 4, none⟩ = some (.slice x8 x9 x10)) ((refine (fun hG => ⟨hG, hG.cell b4, hG.cell b5, hG.cell c4, hG.cell c5⟩ : Gr w6 _ → _) ?_; repeat (first | with_reducible exact Gr.refl _ | assumption | with_reducible refine Gr.drew ?_ | with_reducible refine Gr.alloc ?_ _))) (first | (go_at_call 78; refine (keptInstrs_ok _ y4 x5 y6 x4 x6 x7 ⟨(sc.out.gr hgw.out).gr (by repeat (first | with_reducible exact Gr.refl _ | assumption | with_reducible refine Gr.drew ?_ | with_reducible refine Gr.alloc ?_ _))⟩ ⟨(rc.out.gr hgw.out).gr (by repeat (first | with_reducible exact Gr.refl _ | assumption | with_reducible refine Gr.drew ?_ | with_reducible refine Gr.alloc ?_ _))⟩ (by omega)).mono ?_; rintro e w8 ⟨rfl, hg8⟩; have hg9 : Gr w6 w8 := Gr.trans (by repeat (first | with_reducible exact Gr.refl _ | assumption | with_reducible refine Gr.drew ?_ | with_reducible refine Gr.alloc ?_ _)) hg8) | (go_at_call 79; refine (keptHandlers_ok _ y8 x9 y10 x8 x10 x11 ⟨(sh.out.gr hgw.out).gr (by repeat (first | with_reducible exact Gr.refl _ | assumption | with_reducible refine Gr.drew ?_ | with_reducible refine Gr.alloc ?_ _))⟩ ⟨(rh.out.gr hgw.out).gr (by repeat (first | with_reducible exact Gr.refl _ | assumption | with_reducible refine Gr.drew ?_ | with_reducible refine Gr.alloc ?_ _))⟩ (by omega)).mono ?_; rintro e w10 ⟨rfl, hg10⟩; have hg11 : Gr w6 w10 := Gr.trans (by repeat (first | with_reducible exact Gr.refl _ | assumption | with_reducible refine Gr.drew ?_ | with_reducible refine Gr.alloc ?_ _)) hg10))
          have hgz := hg7.trans hg11
          clear c4 c5 b4 b5 e3 e4 e5 e6
          go_wp2
          go_roundw
          case rel => exact ⟨j + 1, by go_num, by omega, hgz⟩
          case measure => simp [intOf]; omega
        · go_wp2
          obtain ⟨wo, hwo⟩ : ∃ wo : World, wo = wr := ⟨_, rfl⟩
          rw [← hwo] at hg ⊢
          clear hwo p4'
          go_loopw [13] (fun v w' => ∃ (i : Nat), v = .int .i64 i ∧ i ≤ n + 64 ∧ Gr w1 w') (fun v _ => n + 64 - (intOf v).toNat)
          case atStart => exact ⟨0, rfl, by omega, hg⟩
          case round =>
            clear hg
            obtain ⟨i, rfl, hi1, hg⟩ := hrel
            by_cases hlt3 : i < n + 64
            · obtain ⟨ba, oa, e, r2, _, _⟩ := rd_at cF_len (by omega) fn0 hlf.out (n + i) (by omega)
              try dsimp only at e
              subst e
              have r2 := rng_gr r2 hg
              have e1 : (List.zipWith lentF fns hs).length = n := by have := hfl.out; have := hlh.out; simp; omega
              by_cases hin : i < n
              · have q2 : (List.zipWith lentF fns hs ++ hs ++ marksF n 64).getD (n + i) fn0 = hs.getD i fn0 := by
                  rw [List.append_assoc, List.getD_eq_getElem?_getD, List.getElem?_append_right (by omega), e1, Nat.add_sub_cancel_left, List.getElem?_append_left (by have := hlh.out; omega), ← List.getD_eq_getElem?_getD]
                rw [q2] at r2
                have hfo := hll.out i hin
                clear q2 e1
                generalize hs.getD i fn0 = y at *
                generalize fns.getD i fn0 = x at *
                obtain ⟨y1, y2, y3, y4, y5, y6, y7, y8, y9, y10, y11⟩ := y
                obtain ⟨rfl, rfl, rfl, rfl, rfl, rfl, rfl⟩ := hfo
                have e7 : decide ((i : Int) ≥ (n : Int)) = false := by simp; omega
                go_upto_region 27 with (first | (refine wp_rng rfl 87 _ rfl ba _ rfl [.string ⟨#[]⟩, .int .i64 (-7), .int .i64 (i : Int), .slice y4 (x.cn + 64) y6, .slice y8 (x.hn + 64) y10] r2 row_F szF ?_) | (refine wp_setrow rfl 87 _ _ rfl _ rfl 87 _ [.string ⟨#[]⟩, .int .i64 (-7), .int .i64 (i : Int), .slice y4 (x.cn + 64) y6, .slice y8 (x.hn + 64) y10] rfl ((Mem.start wr).alloc _) szF rfl (cF_one ⟨⟨#[]⟩, -7, (i : Int), y4, x.cn + 64, y6, [], y8, x.hn + 64, y10, []⟩) ?_; intro w3 hm3))
                generalize wr.heap.size = g3 at hm3 ⊢
                have c1 := hm3.cell m0 0 rfl
                have c2 := hm3.cell m0 1 rfl
                have c3 := hm3.cell m0 2 rfl
                have c4 := hm3.cell m0 3 rfl
                have c5 := hm3.cell m0 4 rfl
                have hgz := hg.trans hm3.below
                clear hm3 r2
                go_wp2
                go_roundw
                case rel => exact ⟨i + 1, by go_num, by omega, hgz⟩
                case measure => simp [intOf]; omega
              · have q2 : (List.zipWith lentF fns hs ++ hs ++ marksF n 64).getD (n + i) fn0 = markF n (i - n) := by
                  rw [List.append_assoc, List.getD_eq_getElem?_getD, List.getElem?_append_right (by omega), e1, Nat.add_sub_cancel_left, List.getElem?_append_right (by have := hlh.out; omega), hlh.out]
                  simp [marksF, show i - n < 64 by omega]
                have q3 : (n : Int) + ((i - n : Nat) : Int) = (i : Int) := by omega
                rw [q2] at r2
                simp only [markF, q3] at r2
                clear q2 q3 e1
                go_upto_region 27 with (first | (refine wp_rng rfl 87 _ rfl ba _ rfl [.string ⟨#[]⟩, .int .i64 (-7), .int .i64 (i : Int), .slice none 0 0, .slice none 0 0] r2 row_F szF ?_) | (refine wp_setrow rfl 87 _ _ rfl _ rfl 87 _ [.string ⟨#[]⟩, .int .i64 (-7), .int .i64 (i : Int), .slice none 0 0, .slice none 0 0] rfl ((Mem.start wr).alloc _) szF rfl (cF_one ⟨⟨#[]⟩, -7, (i : Int), none, 0, 0, [], none, 0, 0, []⟩) ?_; intro w3 hm3))
                generalize wr.heap.size = g3 at hm3 ⊢
                have c1 := hm3.cell m0 0 rfl
                have c2 := hm3.cell m0 1 rfl
                have c3 := hm3.cell m0 2 rfl
                have c4 := hm3.cell m0 3 rfl
                have c5 := hm3.cell m0 4 rfl
                have hgz := hg.trans hm3.below
                clear hm3 r2
                go_wp2
                go_roundw
                case rel => exact ⟨i + 1, by go_num, by omega, hgz⟩
                case measure => simp [intOf]; omega
            · go_wp2
              go_ret
              exact ⟨rfl, Gr.trans hgr.out hg⟩
end Go.Proofs.Ytgflfpepfpekhaa
