import Derived.Test.YtgflfpepfpekhaaFrApartW
namespace Go.Proofs.Ytgflfpepfpekhaa
open Go.RowKit Go.Mm
set_option maxHeartbeats 1000000
set_option maxRecDepth 100000
theorem ty_VVs : Try.prog.underlying 37 = some (.slice 26) := by kernel_rfl
theorem inf_Vs : (Try.prog.info? 26).map (fun i => (i.zero, i.size, i.bytes)) = some (some (.slice none 0 0), 1, 24) := by kernel_rfl
theorem apartValues_ok (w0 w : World) (A : Option Addr) (m c N : Nat) (ys : List Fr) (L : List Chunk) (hm : Mem w0 w (slots ys ++ (Own 1 (.slice A m c) (svs ys) :: L))) (hl : Fact (ys.length = m)) (hN : Fact (∀ y, y ∈ ys → y.n ≤ N)) (hmm : m ≤ 4194304) (hNN : N ≤ 4194304) :
    Calls Try.prog 20 #[.slice A m c] w fun e w' => e = .returned (.bool true) ∧ Mem w0 w' L := by
  obtain ⟨iV, hi, hz0, hz1, hz2⟩ := info_parts inf_V
  obtain ⟨iS, si, sz0, sz1, sz2⟩ := info_parts inf_Vs
  go_enter Try.func20, Try.ntmps20
  go_wp2
  go_loopw [3] (fun v w' => ∃ (k : Nat) (zs : List Fr), v = .int .i64 k ∧ k ≤ m ∧ Mem w0 w' (slots zs ++ (Own 1 (.slice A m c) (svs zs) :: L)) ∧ Fact (zs.length = m ∧ (∀ z, z ∈ zs → z.n ≤ N) ∧ ∀ j, j < k → (zs.getD j fr0).sl = marksA j (zs.getD j fr0).n)) (fun v _ => m - (intOf v).toNat)
  case atStart => exact ⟨0, ys, rfl, by omega, hm, ⟨hl.out, hN.out, fun j hj => by omega⟩⟩
  case round =>
    clear hm hl hN ys
    obtain ⟨k, zs, rfl, hk, hm, hz⟩ := hrel
    by_cases hlt : k < m
    · have hlen := hz.out.1
      have hrd := Fact.mk (hm.rd (size := 1) (v := .slice A m c) (xs := svs zs) (by simp))
      obtain ⟨bo, oo, c0, rfl, h1, h2, _, _⟩ := hrd.out.at1 k hlt
      rw [svs_at zs k (by omega)] at h2
      cases h2
      have hm1 := slots_get (k := k) (by omega) hm
      have hy : zs.getD k fr0 ∈ zs := List.mem_of_getElem? (getD_some zs fr0 k (by omega))
      have hxe : ∃ x, Fact (zs.getD k fr0 = x) := ⟨_, ⟨rfl⟩⟩
      obtain ⟨x, hxe⟩ := hxe
      rw [hxe.out] at h1 hm1 hy
      have hxn := hz.out.2.1 _ hy
      obtain ⟨xfn, xpc, xA, xn, xc, xsl⟩ := x
      simp only [sv] at h1
      have hl1 : xsl.length = xn := rdV_len (hm1.ok _ m0).rd
      have hz := Fact.mk hz.out
      clear hm hrd hy hlen
      go_wp2
      obtain ⟨wo, hwo⟩ : ∃ wo : World, wo = wr := ⟨_, rfl⟩
      rw [← hwo] at h1 hm1 ⊢
      clear hwo
      go_loopw [4] (fun v w' => ∃ (i : Nat) (sl : List V2), v = .int .i64 i ∧ i ≤ xn ∧ Mem w0 w' (slot ⟨xfn, xpc, xA, xn, xc, sl⟩ :: (slots (zs.eraseIdx k) ++ (Own 1 (.slice (some ⟨bo, oo, none⟩) m c) (svs zs) :: L))) ∧ Fact (sl.length = xn ∧ sl.take i = marksA k i)) (fun v _ => xn - (intOf v).toNat)
      case atStart => exact ⟨0, xsl, rfl, by omega, hm1, ⟨hl1, by simp [marksA]⟩⟩
      case round =>
        clear hm1 h1 hl1
        obtain ⟨i, sl, rfl, hi1, hm, hs⟩ := hrel
        have hrd := hm.rd (size := 1) (v := .slice (some ⟨bo, oo, none⟩) m c) (xs := svs zs) (by simp)
        obtain ⟨_, _, c0, e, h1, h2, _, _⟩ := hrd.at1 k hlt
        cases e
        rw [svs_at zs k (by have := hz.out.1; omega), hxe.out] at h2
        cases h2
        simp only [sv] at h1
        clear hrd
        by_cases hlt2 : i < xn
        · have hxx : ∃ g off, xA = some ⟨g, off, none⟩ := by
            obtain ⟨g, off, us, e, _⟩ := (hm.ok _ m0).rd.at (by omega) i hlt2
            exact ⟨g, off, e⟩
          obtain ⟨g, off, rfl⟩ := hxx
          go_wp2_with (refine wp_ownrow rfl 41 _ _ rfl (off + i * 2) (i * 2) rfl rfl [.int .i64 (-10 - (k : Int)), .int .i64 (i : Int)] rfl hm sz_V (by rw [fV_len, hs.out.1]; simp; omega) (cV_one (-10 - (k : Int), (i : Int))) ?_; intro w2 hm2)
          go_roundw
          case rel =>
            refine ⟨i + 1, sl.set i (markA k i), by go_num, by omega, ?_, ⟨by simpa using hs.out.1, take_set_snoc sl k i (by have := hs.out.1; omega) hs.out.2⟩⟩
            have e := fV_put sl i (markA k i) (by have := hs.out.1; omega)
            unfold slot
            rw [← e]
            exact hm2
          case measure => simp [intOf]; omega
        · obtain rfl : i = xn := by omega
          go_wp2
          go_roundw
          case rel =>
            have hs1 := hs.out
            rw [List.take_of_length_le (by omega)] at hs1
            have hz1 := hz.out
            have hsv : svs (zs.set k ⟨xfn, xpc, xA, i, xc, sl⟩) = svs zs := svs_set zs k _ (by omega) (by rw [hxe.out]; rfl)
            refine ⟨k + 1, zs.set k ⟨xfn, xpc, xA, i, xc, sl⟩, by go_num, by omega, ?_, ⟨by simpa using hz1.1, fun z hz => ?_, fun j hj => ?_⟩⟩
            · rw [hsv]
              exact slots_put (by omega) hm
            · rcases List.mem_or_eq_of_mem_set hz with h | rfl
              · exact hz1.2.1 z h
              · exact hxn
            · rw [getD_set _ _ _ _ _ (by omega)]
              by_cases e : j = k
              · subst e; rw [if_pos rfl]; exact hs1.2
              · rw [if_neg e]; exact hz1.2.2 j (by omega)
          case measure => simp [intOf]; omega
    · obtain rfl : k = m := by omega
      have hz := Fact.mk hz.out
      have hm := exts_start hm
      go_wp2
      obtain ⟨wo, hwo⟩ : ∃ wo : World, wo = wr := ⟨_, rfl⟩
      rw [← hwo] at hm ⊢
      clear hwo
      go_loopw [5, 6] (fun l v w' => ∃ (j : Nat) (B : Option Addr) (d : Nat) (ps : List (Fr × Fr)), v = .int .i64 j ∧ j ≤ k ∧ l = .slice B j d ∧ Mem w0 w' (exts ps ++ (Own 1 (.slice A k c) (svs zs) :: Own 1 (.slice B j d) (svs ((ps.map Prod.snd).take j)) :: L)) ∧ Fact (ps.map Prod.fst = zs ∧ (∀ i, j ≤ i → i < k → (ps.getD i pr0).2 = zs.getD i fr0) ∧ ∀ i, i < j → (ps.getD i pr0).2.n = (zs.getD i fr0).n + 64 ∧ (ps.getD i pr0).2.sl = marksA i ((zs.getD i fr0).n + 64))) (fun _ v _ => k - (intOf v).toNat)
      case atStart =>
        refine ⟨0, none, 0, zs.map fun y => (y, y), rfl, by omega, rfl, ?_, ⟨by simp [List.map_map, Function.comp_def], fun i _ hi => ?_, fun i hi => by omega⟩⟩
        · exact (hm.nil 1 none).unmid2
        · rw [List.getD_eq_getElem?_getD, List.getElem?_map, getD_some zs fr0 i (by have := hz.out.1; omega)]; rfl
      case round =>
        clear hm
        obtain ⟨j, B, d, ps, rfl, hj, rfl, hm, hp⟩ := hrel
        have hpl : ps.length = k := by have := congrArg List.length hp.out.1; simpa [hz.out.1] using this
        have hpl := Fact.mk hpl
        by_cases hlt2 : j < k
        · have hrd := hm.rd (size := 1) (v := .slice A k c) (xs := svs zs) (by simp)
          obtain ⟨bo, oo, c0, rfl, h1, h2, _, _⟩ := hrd.at1 j hlt2
          rw [svs_at zs j (by have := hz.out.1; omega)] at h2
          cases h2
          have hm1 := exts_get (k := j) (by have := hpl.out; omega) hm
          have hfst : (ps.getD j pr0).1 = zs.getD j fr0 := by
            have e := hp.out.1
            rw [← e, getD_map Prod.fst ps j pr0 fr0 (by have := hpl.out; omega)]
          have hsnd := hp.out.2.1 j (Nat.le_refl _) hlt2
          have hpe : ps.getD j pr0 = (zs.getD j fr0, zs.getD j fr0) := Prod.ext hfst hsnd
          rw [hpe] at hm1
          have hy : zs.getD j fr0 ∈ zs := List.mem_of_getElem? (getD_some zs fr0 j (by have := hz.out.1; omega))
          have hxe : ∃ x, Fact (zs.getD j fr0 = x) := ⟨_, ⟨rfl⟩⟩
          obtain ⟨x, hxe⟩ := hxe
          have hxm := hz.out.2.2 j (by omega)
          rw [hxe.out] at h1 hm1 hy hxm
          have hxn := hz.out.2.1 _ hy
          obtain ⟨xfn, xpc, xA, xn, xc, xsl⟩ := x
          simp only [sv] at h1
          try dsimp only at hxm
          try dsimp only at hxn
          subst hxm
          clear hm hrd hy hfst hsnd hpe
          go_wp2
          obtain ⟨wp, hwp⟩ : ∃ wp : World, wp = wr := ⟨_, rfl⟩
          rw [← hwp] at h1 hm1 ⊢
          clear hwp
          go_loopw [7, 8] (fun l v w' => ∃ (i : Nat) (C : Option Addr) (e : Nat), v = .int .i64 i ∧ i ≤ 64 ∧ l = .slice C (xn + i) e ∧ Mem w0 w' (Ext 2 (.slice C (xn + i) e) (fV (marksA j (xn + i))) (.slice xA xn xc) (fV (marksA j xn)) :: (exts (ps.eraseIdx j) ++ (Own 1 (.slice (some ⟨bo, oo, none⟩) k c) (svs zs) :: Own 1 (.slice B j d) (svs ((ps.map Prod.snd).take j)) :: L)))) (fun _ v _ => 64 - (intOf v).toNat)
          case atStart => exact ⟨0, xA, xc, rfl, by omega, rfl, hm1⟩
          case round =>
            clear hm1 h1
            obtain ⟨i, C, e, rfl, hi1, rfl, hm⟩ := hrel
            have hrd := hm.rd (size := 1) (v := .slice (some ⟨bo, oo, none⟩) k c) (xs := svs zs) (by simp)
            obtain ⟨_, _, c0, e0, h1, h2, _, _⟩ := hrd.at1 j hlt2
            cases e0
            rw [svs_at zs j (by have := hz.out.1; omega), hxe.out] at h2
            cases h2
            simp only [sv] at h1
            clear hrd
            by_cases hlt3 : i < 64
            · go_wp2_with (at_builtin; refine wp_appe rfl _ _ _ rfl 41 iV _ 2 16 ty_Vs hi hz0 hz1 hz2 rfl C (xn + i) e _ _ _ rfl (L := Blk _ _ :: _) (hm.alloc _).swap _ 1 1 [.int .i64 (-10 - (j : Int)), .int .i64 ((xn : Int) + (i : Int))] rfl (RdC.lit _ _ _ _ _ rfl (by simp [maxLen]) (cV_one (-10 - (j : Int), (xn : Int) + (i : Int)))) (by unfold maxLen; omega) (by omega) ?_; intro C1 e1 w2 hm2)
              go_roundw
              case rel =>
                refine ⟨i + 1, C1, e1, by go_num, by omega, rfl, ?_⟩
                have hm3 := hm2.sub (.cons_cons _ (.cons _ (List.Sublist.refl _)))
                rw [show xn + (i + 1) = xn + i + 1 by omega, marksA_succ, fV_app]
                exact hm3
              case measure => simp [intOf]; omega
            · obtain rfl : i = 64 := by omega
              go_wp2_with (at_builtin; refine wp_app rfl _ _ _ rfl 26 iS _ 1 24 ty_VVs si sz0 sz1 sz2 rfl B j d _ rfl (Mem.mid2 (A := _ :: _ :: exts (ps.eraseIdx j)) (hm.alloc _)) _ 1 1 [.slice C (xn + 64) e] rfl (RdC.lit _ _ _ _ _ rfl (by simp [maxLen]) (svs_one [⟨0, 0, C, xn + 64, e, []⟩])) (by unfold maxLen; omega) (by omega) ?_; intro B1 d1 w2 hm2)
              go_roundw
              case rel =>
                have hm3 := Mem.unmid2 (A := extc (⟨xfn, xpc, xA, xn, xc, marksA j xn⟩, ⟨0, 0, C, xn + 64, e, marksA j (xn + 64)⟩) :: exts (ps.eraseIdx j)) (hm2.sub (.cons_cons _ (.cons _ (List.Sublist.refl _))))
                have hm4 := exts_put (k := j) (by have := hpl.out; omega) hm3
                have hp1 := hp.out
                have e0 : (ps.map Prod.snd).take j ++ [⟨0, 0, C, xn + 64, e, marksA j (xn + 64)⟩] = ((ps.set j (⟨xfn, xpc, xA, xn, xc, marksA j xn⟩, ⟨0, 0, C, xn + 64, e, marksA j (xn + 64)⟩)).map Prod.snd).take (j + 1) := by
                  rw [List.map_set, List.take_succ_eq_append_getElem (by simp; have := hpl.out; omega), List.take_set_of_le (Nat.le_refl _)]
                  simp
                refine ⟨j + 1, B1, d1, ps.set j (⟨xfn, xpc, xA, xn, xc, marksA j xn⟩, ⟨0, 0, C, xn + 64, e, marksA j (xn + 64)⟩), by go_num, by omega, rfl, ?_, ⟨?_, fun i h1 h2 => ?_, fun i h1 => ?_⟩⟩
                rotate_left 1
                · rw [List.map_set, hp1.1]
                  apply List.ext_getElem?
                  intro i
                  rw [List.getElem?_set]
                  by_cases e : j = i
                  · subst e
                    have := hz.out.1
                    rw [if_pos rfl, if_pos (by omega), getD_some zs fr0 j (by omega), hxe.out]
                  · rw [if_neg e]
                · rw [getD_set _ _ _ _ _ (by have := hpl.out; omega), if_neg (by omega)]
                  exact hp1.2.1 i (by omega) h2
                · rw [getD_set _ _ _ _ _ (by have := hpl.out; omega)]
                  by_cases e : i = j
                  · subst e; rw [if_pos rfl, hxe.out]; exact ⟨rfl, rfl⟩
                  · rw [if_neg e]; exact hp1.2.2 i (by omega)
                · rw [← e0]
                  simpa [svs, sv] using hm4
              case measure => simp [intOf]; omega
        · obtain rfl : j = k := by omega
          have hps : (ps.map Prod.snd).take j = ps.map Prod.snd := List.take_of_length_le (by simp; have := hpl.out; omega)
          rw [hps] at hm
          clear hps hlt2
          go_wp2
          obtain ⟨wo, hwo⟩ : ∃ wo : World, wo = wr := ⟨_, rfl⟩
          rw [← hwo] at hm ⊢
          clear hwo
          go_loopw [9] (fun v w' => ∃ (k : Nat), v = .int .i64 k ∧ k ≤ j ∧ Gr wo w') (fun v _ => j - (intOf v).toNat)
          case atStart => exact ⟨0, rfl, by omega, Gr.refl _⟩
          case round =>
            obtain ⟨k, rfl, hk, hg⟩ := hrel
            have hmr := hm.gr hg
            by_cases hlt2 : k < j
            · have hrd := hmr.rd (size := 1) (v := .slice A j c) (xs := svs zs) (by simp)
              obtain ⟨bo, oo, c0, rfl, h1, h2, _, _⟩ := hrd.at1 k hlt2
              rw [svs_at zs k (by have := hz.out.1; omega)] at h2
              cases h2
              have hrd2 := hmr.rd (size := 1) (v := .slice B j d) (xs := svs (ps.map Prod.snd)) (by simp)
              obtain ⟨bg, og, c0, rfl, g1, g2, _, _⟩ := hrd2.at1 k hlt2
              rw [svs_at _ k (by simp; have := hpl.out; omega), getD_map Prod.snd ps k pr0 fr0 (by have := hpl.out; omega)] at g2
              cases g2
              have hfst : (ps.getD k pr0).1 = zs.getD k fr0 := by
                have e := hp.out.1
                rw [← e, getD_map Prod.fst ps k pr0 fr0 (by have := hpl.out; omega)]
              have hpm : ps.getD k pr0 ∈ ps := List.mem_of_getElem? (getD_some ps pr0 k (by have := hpl.out; omega))
              have hext := hmr.ok (extc (ps.getD k pr0)) (List.mem_append.2 (.inl (List.mem_map.2 ⟨_, hpm, rfl⟩)))
              have q1 := (hp.out.2.2 k (by omega)).1
              have q2 := (hp.out.2.2 k (by omega)).2
              have q3 := hz.out.2.2 k (by omega)
              have hy : zs.getD k fr0 ∈ zs := List.mem_of_getElem? (getD_some zs fr0 k (by have := hz.out.1; omega))
              have q4 := hz.out.2.1 _ hy
              have r1 := hext.1.rd
              have r2 := ExtAt.rd0 hext
              rw [hfst] at r2
              clear hfst hpm hext hrd hrd2 hy
              generalize zs.getD k fr0 = x at *
              generalize (ps.getD k pr0).2 = y at *
              obtain ⟨xfn, xpc, xA, xn, xc, xsl⟩ := x
              obtain ⟨yfn, ypc, yA, yn, yc, ysl⟩ := y
              simp only [sv] at h1 g1 r1 r2
              try dsimp only at q1 q2 q3 q4
              subst q3
              subst q1
              subst q2
              have r1 := Fact.mk r1
              have r2 := Fact.mk r2
              have hgk := Fact.mk hg
              clear hm hmr hp hz hg
              have h1 := Fact.mk h1
              have g1 := Fact.mk g1
              have h2' := h1.out
              have g2' := g1.out
              go_wp2
              obtain ⟨wk, hwk⟩ : ∃ wk : World, wk = wr := ⟨_, rfl⟩
              rw [← hwk] at h1 g1 r1 r2 hgk ⊢
              clear hwk h2' g2'
              go_loopw [10] (fun v w' => ∃ (i : Nat), v = .int .i64 i ∧ i ≤ xn + 64 ∧ Gr wk w') (fun v _ => xn + 64 - (intOf v).toNat)
              case atStart => exact ⟨0, rfl, by omega, Gr.refl _⟩
              case round =>
                obtain ⟨i, rfl, hi1, hg⟩ := hrel
                have h2 := hg.cell h1.out
                have g2 := hg.cell g1.out
                by_cases hlt3 : i < xn + 64
                · obtain ⟨ba, oa, rfl, a1, a2, _, _⟩ := rdV_at r1.out i hlt3
                  rw [marksA_at k (xn + 64) i hlt3] at a1 a2
                  by_cases hlt4 : i < xn
                  · obtain ⟨bb, ob, rfl, b1, b2, _, _⟩ := rdV_at r2.out i hlt4
                    rw [marksA_at k xn i hlt4] at b1 b2
                    have a1 := Fact.mk (hg.cell a1)
                    have a2 := Fact.mk (hg.cell a2)
                    have b1 := Fact.mk (hg.cell b1)
                    have b2 := Fact.mk (hg.cell b2)
                    go_upto_region 25 with (fail)
                    have hw := (Mem.start wr).alloc (.cells [.int .i64 (-10 - (k : Int)), .int .i64 (i : Int)].toArray 41)
                    generalize hg1 : wr.heap.size = g0 at hw ⊢
                    generalize hw1 : wr.alloc (.cells [.int .i64 (-10 - (k : Int)), .int .i64 (i : Int)].toArray 41) = w1 at hw
                    try refine wp_world hw1 ?_
                    clear hw1 hg1
                    have k1 := hw.cell m0 0 rfl
                    have k2 := hw.cell m0 1 rfl
                    have a1 := Gr.cell hw.below a1.out
                    have a2 := Gr.cell hw.below a2.out
                    have h2 := Gr.cell hw.below h2
                    have g2 := Gr.cell hw.below g2
                    have b1 := Gr.cell hw.below b1.out
                    have b2 := Gr.cell hw.below b2.out
                    have hgr := hg.trans hw.below
                    clear hw hm hg
                    go_quiet (fail)
                    go_wp2
                    go_roundw
                    case rel => exact ⟨i + 1, by go_num, by omega, Gr.drewN hgr _⟩
                    case measure => simp [intOf]; omega
                  · have a1 := a1
                    have a1 := Fact.mk (hg.cell a1)
                    have a2 := Fact.mk (hg.cell a2)
                    go_upto_region 25 with (fail)
                    have hw := (Mem.start wr).alloc (.cells [.int .i64 (-10 - (k : Int)), .int .i64 (i : Int)].toArray 41)
                    generalize hg1 : wr.heap.size = g0 at hw ⊢
                    generalize hw1 : wr.alloc (.cells [.int .i64 (-10 - (k : Int)), .int .i64 (i : Int)].toArray 41) = w1 at hw
                    try refine wp_world hw1 ?_
                    clear hw1 hg1
                    have k1 := hw.cell m0 0 rfl
                    have k2 := hw.cell m0 1 rfl
                    have a1 := Gr.cell hw.below a1.out
                    have a2 := Gr.cell hw.below a2.out
                    have h2 := Gr.cell hw.below h2
                    have g2 := Gr.cell hw.below g2
                    have hgr := hg.trans hw.below
                    clear hw hm hg
                    go_quiet (fail)
                    go_wp2
                    go_roundw
                    case rel => exact ⟨i + 1, by go_num, by omega, Gr.drewN hgr _⟩
                    case measure => simp [intOf]; omega
                · go_wp2
                  go_roundw
                  case rel => exact ⟨k + 1, by go_num, by omega, hgk.out.trans hg⟩
                  case measure => simp [intOf]; omega
            · go_wp2
              go_ret
              exact ⟨rfl, (hm.gr hg).sub ((List.sublist_cons_self _ _).trans ((List.sublist_cons_self _ _).trans (List.sublist_append_right _ _)))⟩
end Go.Proofs.Ytgflfpepfpekhaa
