/- Lists of frames that lie apart (portagekit.ApartFrames). -/
import Derived.Test.YtgflfpepfpekhaaFrLists
namespace Go.Proofs.Ytgflfpepfpekhaa
open Go.RowKit Go.Mm
set_option maxHeartbeats 1000000
set_option maxRecDepth 100000
set_option linter.unusedSimpArgs false
theorem ty_FFs : Try.prog.underlying 48 = some (.slice 39) := by kernel_rfl
theorem inf_Fs : (Try.prog.info? 39).map (fun i => (i.zero, i.size, i.bytes)) = some (some (.slice none 0 0), 1, 24) := by kernel_rfl
theorem flatMap_take_succ (ls : List FL) (k : Nat) (h : k < ls.length) : (ls.take (k + 1)).flatMap FL.fs = (ls.take k).flatMap FL.fs ++ (ls.getD k fl0).fs := by
  rw [List.take_succ_eq_append_getElem h, List.flatMap_append]
  simp [h]
theorem apartFrames_ok (w0 w : World) (A : Option Addr) (m c N : Nat) (ls : List FL) (L : List Chunk) (hm : Mem w0 w (slots (ls.flatMap FL.fs) ++ (ls.map lst ++ (Own 1 (.slice A m c) (lvs ls) :: L)))) (hl : Fact (ls.length = m)) (hN : Fact (∀ l, l ∈ ls → l.n ≤ 1048577 ∧ ∀ y, y ∈ l.fs → y.n ≤ N)) (hmm : m ≤ 2) (hNN : N ≤ 4194304) :
    Calls Try.prog 27 #[.slice A m c] w fun e w' => e = .returned (.bool true) ∧ Mem w0 w' L := by
  obtain ⟨iR, ri, rz0, rz1, rz2⟩ := info_parts inf_R
  obtain ⟨iS, si, sz0, sz1, sz2⟩ := info_parts inf_Vs
  obtain ⟨iF, fi, fz0, fz1, fz2⟩ := info_parts inf_Fs
  go_enter Try.func27, Try.ntmps27
  go_wp2
  obtain ⟨R, hR⟩ : ∃ R, Fact (slots (ls.flatMap FL.fs) ++ (ls.map lst ++ (Own 1 (.slice A m c) (lvs ls) :: L)) = R) := ⟨_, ⟨rfl⟩⟩
  rw [hR.out] at hm
  have hR1 : Fact (Own 1 (.slice A m c) (lvs ls) ∈ R ∧ ∀ l, l ∈ ls → lst l ∈ R) := ⟨by rw [← hR.out]; exact ⟨by simp, fun l hl => List.mem_append_right _ (List.mem_append_left _ (List.mem_map.2 ⟨l, hl, rfl⟩))⟩⟩
  go_loopw [3, 4] (fun l v w' => ∃ (k : Nat) (B : Option Addr) (d j : Nat), v = .int .i64 k ∧ k ≤ m ∧ l = .slice B j d ∧ Mem w0 w' (Own 1 (.slice B j d) (svs ((ls.take k).flatMap FL.fs)) :: R) ∧ Fact (((ls.take k).flatMap FL.fs).length = j ∧ j ≤ k * 1048577)) (fun _ v _ => m - (intOf v).toNat)
  case atStart => exact ⟨0, none, 0, 0, rfl, by omega, rfl, by simpa [svs] using hm.nil 1 none, ⟨by simp, by omega⟩⟩
  case round =>
    clear hm
    obtain ⟨k, B, d, j, rfl, hk, rfl, hm, hj⟩ := hrel
    by_cases hlt : k < m
    · have hkl : k < ls.length := by have := hl.out; omega
      have hlm : ls.getD k fl0 ∈ ls := List.mem_of_getElem? (getD_some ls fl0 k hkl)
      have hNl := hN.out _ hlm
      obtain ⟨bo, oo, rfl⟩ := outer_addr hm (.tail _ hR1.out.1) k hlt
      have hat : Fact (∀ (W : World) (C : Chunk), Mem w0 W (C :: R) → W.cell? ⟨bo, oo + k, none⟩ = some (lv (ls.getD k fl0))) := ⟨fun W C h => outer_at h (.tail _ hR1.out.1) k hlt hl.out⟩
      have hts := Fact.mk (flatMap_take_succ ls k hkl)
      have hxm := Fact.mk (hR1.out.2 _ hlm)
      generalize ls.getD k fl0 = x at hat hNl hts hxm
      obtain ⟨xA, xn, xc, xfs⟩ := x
      have hxl := Fact.mk (lst_len hm (.tail _ hxm.out))
      simp only [lv] at hat
      dsimp only at hNl hts
      have hxn := hNl.1
      clear hlm hNl
      have h1 := hat.out _ _ hm
      go_wp2
      clear h1
      go_loopw [3, 5] (fun l v w' => ∃ (i : Nat) (B : Option Addr) (d : Nat), v = .int .i64 i ∧ i ≤ xn ∧ l = .slice B (j + i) d ∧ Mem w0 w' (Own 1 (.slice B (j + i) d) (svs ((ls.take k).flatMap FL.fs ++ xfs.take i)) :: R)) (fun _ v _ => xn - (intOf v).toNat)
      case atStart => exact ⟨0, B, d, rfl, by omega, rfl, by simpa using hm⟩
      case round =>
        clear hm
        obtain ⟨i, B, d, rfl, hi, rfl, hm⟩ := hrel
        have h1 := hat.out _ _ hm
        by_cases hlt2 : i < xn
        · obtain ⟨lb, lo, rfl, r1⟩ := lst_at hm (.tail _ hxm.out) i hlt2
          have htk : Fact (xfs.take (i + 1) = xfs.take i ++ [xfs.getD i fr0]) := ⟨take_snoc _ _ _ (by have := hxl.out; omega)⟩
          generalize xfs.getD i fr0 = y at r1 htk
          obtain ⟨yfn, ypc, yA, yn, yc, ysl⟩ := y
          have a2 : wr.cell? ⟨lb, lo + i * 3 + 2, none⟩ = some (.slice yA yn yc) := r1 2 _ rfl
          clear r1
          have hjb := hj.out.2
          go_wp2_with (at_builtin; (refine wp_app rfl _ _ _ rfl 26 iS _ 1 24 ty_VVs si sz0 sz1 sz2 rfl B (j + i) d _ rfl ((hm.alloc _).swap) _ 1 1 [.slice yA yn yc] rfl (RdC.lit _ _ _ _ _ rfl (by simp [maxLen]) (svs_one [⟨0, 0, yA, yn, yc, []⟩])) (by unfold maxLen; omega) (by omega) ?_); intro B1 d1 w4 HM1)
          go_roundw
          case rel =>
            have HM2 := HM1.sub (.cons_cons _ (.cons _ (List.Sublist.refl _)))
            refine ⟨i + 1, B1, d1, by go_num, by omega, rfl, ?_⟩
            rw [htk.out]
            simpa [svs, sv, Nat.add_assoc] using HM2
          case measure => simp [intOf]; omega
        · obtain rfl : i = xn := by omega
          rw [List.take_of_length_le (Nat.le_of_eq hxl.out)] at hm
          go_wp2
          go_roundw
          case rel =>
            have hj1 := hj.out.1
            have hj2 := hj.out.2
            refine ⟨k + 1, B, d, j + i, by go_num, by omega, rfl, ?_, ⟨?_, by omega⟩⟩
            · rw [hts.out]; exact hm
            · rw [hts.out, List.length_append, hj1, hxl.out]
          case measure => simp [intOf]; omega
    · obtain rfl : k = m := by omega
      have hj1 := hj.out.1
      have hj2 := hj.out.2
      rw [List.take_of_length_le (Nat.le_of_eq hl.out)] at hm hj1
      rw [← hR.out] at hm
      have hNf : Fact (∀ y, y ∈ ls.flatMap FL.fs → y.n ≤ N) := ⟨fun y hy => by
        obtain ⟨l, hl, hy⟩ := List.mem_flatMap.1 hy
        exact (hN.out l hl).2 y hy⟩
      go_wp2_with fail
      refine (apartValues_ok w0 wr B j d N (ls.flatMap FL.fs) (ls.map lst ++ (Own 1 (.slice A k c) (lvs ls) :: L)) hm.unmid ⟨hj1⟩ hNf (by omega) hNN).mono ?_
      rintro e w2 ⟨rfl, hm⟩
      clear hR hR1 hj hj1 hj2 hNf
      go_wp2
      obtain ⟨wo, hwo⟩ : ∃ wo : World, wo = w2 := ⟨_, rfl⟩
      rw [← hwo] at hm ⊢
      clear hwo
      go_loopw [6] (fun v w' => ∃ (q : Nat) (zs : List FL), v = .int .i64 q ∧ q ≤ k ∧ Mem w0 w' (zs.map lst ++ (Own 1 (.slice A k c) (lvs zs) :: L)) ∧ Fact (zs.length = k ∧ (∀ z, z ∈ zs → z.n ≤ 1048577) ∧ ∀ p, p < q → Marked p (zs.getD p fl0).n (zs.getD p fl0).fs)) (fun v _ => k - (intOf v).toNat)
      case atStart => exact ⟨0, ls, rfl, by omega, hm, ⟨hl.out, fun z hz => (hN.out z hz).1, fun p hp => by omega⟩⟩
      case round =>
        clear hm hl hN
        obtain ⟨q, zs, rfl, hq, hm, hz⟩ := hrel
        by_cases hlt : q < k
        · have hql : q < zs.length := by have := hz.out.1; omega
          have hxm : zs.getD q fl0 ∈ zs := List.mem_of_getElem? (getD_some zs fl0 q hql)
          have hxn := hz.out.2.1 _ hxm
          obtain ⟨bo, oo, rfl⟩ := outer_addr hm (List.mem_append_right _ m0) q hlt
          have hm1 := ch_get lst fl0 hql hm
          have hat : Fact (∀ (W : World) (C : Chunk), Mem w0 W (C :: ((zs.eraseIdx q).map lst ++ (Own 1 (.slice (some ⟨bo, oo, none⟩) k c) (lvs zs) :: L))) → W.cell? ⟨bo, oo + q, none⟩ = some (lv (zs.getD q fl0))) := ⟨fun W C h => outer_at h (.tail _ (List.mem_append_right _ m0)) q hlt hz.out.1⟩
          have hxe : ∃ x, Fact (zs.getD q fl0 = x) := ⟨_, ⟨rfl⟩⟩
          obtain ⟨x, hxe⟩ := hxe
          rw [hxe.out] at hat hm1 hxn
          obtain ⟨xA, xn, xc, xfs⟩ := x
          have hxl := lst_len hm1 m0
          simp only [lv] at hat
          dsimp only at hxn
          have h1 := hat.out _ _ hm1
          clear hm hxm
          go_wp2
          clear h1
          obtain ⟨wp, hwp⟩ : ∃ wp : World, wp = wr := ⟨_, rfl⟩
          rw [← hwp] at hm1 ⊢
          clear hwp
          go_loopw [7] (fun v w' => ∃ (i : Nat) (fs : List Fr), v = .int .i64 i ∧ i ≤ xn ∧ Mem w0 w' (lst ⟨xA, xn, xc, fs⟩ :: ((zs.eraseIdx q).map lst ++ (Own 1 (.slice (some ⟨bo, oo, none⟩) k c) (lvs zs) :: L))) ∧ Fact (fs.length = xn ∧ Marked q i fs)) (fun v _ => xn - (intOf v).toNat)
          case atStart => exact ⟨0, xfs, rfl, by omega, hm1, ⟨hxl, fun p hp => by omega⟩⟩
          case round =>
            clear hm1 hxl
            obtain ⟨i, fs, rfl, hi, hm, hs⟩ := hrel
            have h1 := hat.out _ _ hm
            by_cases hlt2 : i < xn
            · obtain ⟨lb, lo, rfl, _⟩ := lst_at hm m0 i hlt2
              have hil : i < fs.length := by have := hs.out.1; omega
              have hm' : Mem w0 wr (Own 3 (.slice (some ⟨lb, lo, none⟩) xn xc) (fR fs) :: _) := hm
              have hj0 : (fR fs)[i * 3 + 0]? = some (.int .i64 (fs.getD i fr0).fn) := by rw [fR, flatMap_at cR 3 cR_len _ i 0 (by omega), getD_some _ fr0 i hil]; rfl
              obtain ⟨g1, g2⟩ := hm'.own_cell m0 (i * 3 + 0) hj0
              have hm2 := hm'.own_set (i * 3 + 0) (by rw [fR_len]; omega) (.int .i64 (q : Int)) rfl
              rw [fR_fn fs i q hil] at hm2
              simp only [Nat.add_zero] at g1 g2 hm2
              clear hm' hj0
              go_upto_region 18 with (fail)
              generalize wr.setCell _ _ = w3 at hm2 ⊢
              have hye : ∃ y, Fact (({ fs.getD i fr0 with fn := (q : Int) } : Fr) = y ∧ y.fn = q) := ⟨_, ⟨rfl, rfl⟩⟩
              obtain ⟨y, hye⟩ := hye
              rw [hye.out.1] at hm2
              have hil2 : i < (fs.set i y).length := by simpa using hil
              have hy2 : (fs.set i y).getD i fr0 = y := by rw [getD_set _ _ _ _ _ hil, if_pos rfl]
              have hj1 : (fR (fs.set i y))[i * 3 + 1]? = some (.int .i64 ((fs.set i y).getD i fr0).pc) := by rw [fR, flatMap_at cR 3 cR_len _ i 1 (by omega), getD_some _ fr0 i hil2]; rfl
              have h1 := hat.out _ _ hm2
              obtain ⟨g1, g2⟩ := hm2.own_cell m0 (i * 3 + 1) hj1
              have hm3 := hm2.own_set (i * 3 + 1) (by rw [fR_len]; omega) (.int .i64 (i : Int)) rfl
              rw [fR_pc _ i i hil2, hy2, List.set_set] at hm3
              rw [← Nat.add_assoc] at g1 g2 hm3
              clear hm2 hj1 hm
              go_wp2
              go_roundw
              case rel =>
                have hs1 := hs.out.1
                exact ⟨i + 1, fs.set i { y with pc := (i : Int) }, by go_num, by omega, hm3, ⟨by simpa using hs1, hs.out.2.step hil _ hye.out.2 rfl⟩⟩
              case measure => simp [intOf]; omega
            · obtain rfl : i = xn := by omega
              go_wp2
              go_roundw
              case rel =>
                have hz1 := hz.out
                have hsv : lvs (zs.set q ⟨xA, i, xc, fs⟩) = lvs zs := lvs_set zs q _ hql (by rw [hxe.out]; rfl)
                refine ⟨q + 1, zs.set q ⟨xA, i, xc, fs⟩, by go_num, by omega, ?_, ⟨by simpa using hz1.1, fun z hz => ?_, fun p hp => ?_⟩⟩
                · rw [hsv]
                  exact ch_put lst hql hm
                · rcases List.mem_or_eq_of_mem_set hz with h | rfl
                  · exact hz1.2.1 z h
                  · exact hxn
                · rw [getD_set _ _ _ _ _ hql]
                  by_cases e : p = q
                  · subst e; rw [if_pos rfl]; exact hs.out.2
                  · rw [if_neg e]; exact hz1.2.2 p (by omega)
              case measure => simp [intOf]; omega
        · obtain rfl : q = k := by omega
          have hm := exl_start hm
          go_wp2
          obtain ⟨wp, hwp⟩ : ∃ wp : World, wp = wr := ⟨_, rfl⟩
          rw [← hwp] at hm ⊢
          clear hwp
          go_loopw [8, 9] (fun l v w' => ∃ (j : Nat) (B : Option Addr) (d : Nat) (ps : List (FL × FL)), v = .int .i64 j ∧ j ≤ q ∧ l = .slice B j d ∧ Mem w0 w' (ps.map exl ++ (Own 1 (.slice A q c) (lvs zs) :: Own 1 (.slice B j d) (lvs ((ps.map Prod.snd).take j)) :: L)) ∧ Fact (ps.map Prod.fst = zs ∧ (∀ i, j ≤ i → i < q → (ps.getD i pl0).2 = zs.getD i fl0) ∧ ∀ i, i < j → (ps.getD i pl0).2.n = (zs.getD i fl0).n + 64 ∧ (ps.getD i pl0).2.fs = (zs.getD i fl0).fs ++ List.replicate 64 (markG i))) (fun _ v _ => q - (intOf v).toNat)
          case atStart =>
            refine ⟨0, none, 0, zs.map fun y => (y, y), rfl, by omega, rfl, ?_, ⟨by simp [List.map_map, Function.comp_def], fun i _ hi => ?_, fun i hi => by omega⟩⟩
            · exact (hm.nil 1 none).unmid2
            · rw [List.getD_eq_getElem?_getD, List.getElem?_map, getD_some zs fl0 i (by have := hz.out.1; omega)]; rfl
          case round =>
            clear hm
            obtain ⟨j, B, d, ps, rfl, hj, rfl, hm, hp⟩ := hrel
            have hpl : ps.length = q := by have := congrArg List.length hp.out.1; simpa [hz.out.1] using this
            have hpl := Fact.mk hpl
            by_cases hlt2 : j < q
            · obtain ⟨bo, oo, rfl⟩ := outer_addr hm (List.mem_append_right _ m0) j hlt2
              have hm1 := ch_get exl pl0 (k := j) (by have := hpl.out; omega) hm
              have hfst : (ps.getD j pl0).1 = zs.getD j fl0 := by
                have e := hp.out.1
                rw [← e, getD_map Prod.fst ps j pl0 fl0 (by have := hpl.out; omega)]
              have hsnd := hp.out.2.1 j (Nat.le_refl _) hlt2
              have hpe : ps.getD j pl0 = (zs.getD j fl0, zs.getD j fl0) := Prod.ext hfst hsnd
              rw [hpe] at hm1
              have hy : zs.getD j fl0 ∈ zs := List.mem_of_getElem? (getD_some zs fl0 j (by have := hz.out.1; omega))
              have hxn := hz.out.2.1 _ hy
              have hat : Fact (∀ (W : World) (C : Chunk), Mem w0 W (C :: ((ps.eraseIdx j).map exl ++ (Own 1 (.slice (some ⟨bo, oo, none⟩) q c) (lvs zs) :: Own 1 (.slice B j d) (lvs ((ps.map Prod.snd).take j)) :: L))) → W.cell? ⟨bo, oo + j, none⟩ = some (lv (zs.getD j fl0))) := ⟨fun W C h => outer_at h (.tail _ (List.mem_append_right _ m0)) j hlt2 hz.out.1⟩
              have hxe : ∃ x, Fact (zs.getD j fl0 = x) := ⟨_, ⟨rfl⟩⟩
              obtain ⟨x, hxe⟩ := hxe
              rw [hxe.out] at hat hm1 hxn
              obtain ⟨xA, xn, xc, xfs⟩ := x
              simp only [lv] at hat
              dsimp only at hxn
              have h1 := hat.out _ _ hm1
              clear hm hy hfst hsnd hpe
              go_wp2
              clear h1
              obtain ⟨wp, hwp⟩ : ∃ wp : World, wp = wr := ⟨_, rfl⟩
              rw [← hwp] at hm1 ⊢
              clear hwp
              go_loopw [10, 11] (fun l v w' => ∃ (i : Nat) (C : Option Addr) (e : Nat), v = .int .i64 i ∧ i ≤ 64 ∧ l = .slice C (xn + i) e ∧ Mem w0 w' (Ext 3 (.slice C (xn + i) e) (fR (xfs ++ List.replicate i (markG j))) (.slice xA xn xc) (fR xfs) :: ((ps.eraseIdx j).map exl ++ (Own 1 (.slice (some ⟨bo, oo, none⟩) q c) (lvs zs) :: Own 1 (.slice B j d) (lvs ((ps.map Prod.snd).take j)) :: L)))) (fun _ v _ => 64 - (intOf v).toNat)
              case atStart => exact ⟨0, xA, xc, rfl, by omega, rfl, by simpa [exl, lv] using hm1⟩
              case round =>
                clear hm1
                obtain ⟨i, C, e, rfl, hi1, rfl, hm⟩ := hrel
                by_cases hlt3 : i < 64
                · go_wp2_with (at_builtin; refine wp_appe rfl _ _ _ rfl 30 iR _ 3 40 ty_Rs ri rz0 rz1 rz2 rfl C (xn + i) e _ _ _ rfl (L := Blk _ _ :: _) (hm.alloc _).swap _ 1 1 [.int .i64 (-1 - (j : Int)), .int .i64 0, .slice none 0 0] rfl (RdC.lit _ _ _ _ _ rfl (by simp [maxLen]) (cR_one (markG j))) (by unfold maxLen; omega) (by omega) ?_; intro C1 e1 w2 hm2)
                  go_roundw
                  case rel =>
                    refine ⟨i + 1, C1, e1, by go_num, by omega, rfl, ?_⟩
                    have hm3 := hm2.sub (.cons_cons _ (.cons _ (List.Sublist.refl _)))
                    rw [show xn + (i + 1) = xn + i + 1 by omega, List.replicate_succ', ← List.append_assoc, fR_app]
                    exact hm3
                  case measure => simp [intOf]; omega
                · obtain rfl : i = 64 := by omega
                  go_wp2_with (at_builtin; refine wp_app rfl _ _ _ rfl 39 iF _ 1 24 ty_FFs fi fz0 fz1 fz2 rfl B j d _ rfl (Mem.mid2 (A := _ :: _ :: (ps.eraseIdx j).map exl) (hm.alloc _)) _ 1 1 [.slice C (xn + 64) e] rfl (RdC.lit _ _ _ _ _ rfl (by simp [maxLen]) (lvs_one [⟨C, xn + 64, e, []⟩])) (by unfold maxLen; omega) (by omega) ?_; intro B1 d1 w2 hm2)
                  go_roundw
                  case rel =>
                    have hm3 := Mem.unmid2 (A := exl (⟨xA, xn, xc, xfs⟩, ⟨C, xn + 64, e, xfs ++ List.replicate 64 (markG j)⟩) :: (ps.eraseIdx j).map exl) (hm2.sub (.cons_cons _ (.cons _ (List.Sublist.refl _))))
                    have hm4 := ch_put exl (k := j) (by have := hpl.out; omega) hm3
                    have hp1 := hp.out
                    have e0 : (ps.map Prod.snd).take j ++ [⟨C, xn + 64, e, xfs ++ List.replicate 64 (markG j)⟩] = ((ps.set j (⟨xA, xn, xc, xfs⟩, ⟨C, xn + 64, e, xfs ++ List.replicate 64 (markG j)⟩)).map Prod.snd).take (j + 1) := by
                      rw [List.map_set, List.take_succ_eq_append_getElem (by simp; have := hpl.out; omega), List.take_set_of_le (Nat.le_refl _)]
                      simp
                    refine ⟨j + 1, B1, d1, ps.set j (⟨xA, xn, xc, xfs⟩, ⟨C, xn + 64, e, xfs ++ List.replicate 64 (markG j)⟩), by go_num, by omega, rfl, ?_, ⟨?_, fun i h1 h2 => ?_, fun i h1 => ?_⟩⟩
                    rotate_left 1
                    · rw [List.map_set, hp1.1]
                      apply List.ext_getElem?
                      intro i
                      rw [List.getElem?_set]
                      by_cases e : j = i
                      · subst e
                        have := hz.out.1
                        rw [if_pos rfl, if_pos (by omega), getD_some zs fl0 j (by omega), hxe.out]
                      · rw [if_neg e]
                    · rw [getD_set _ _ _ _ _ (by have := hpl.out; omega), if_neg (by omega)]
                      exact hp1.2.1 i (by omega) h2
                    · rw [getD_set _ _ _ _ _ (by have := hpl.out; omega)]
                      by_cases e : i = j
                      · subst e; rw [if_pos rfl, hxe.out]; exact ⟨rfl, rfl⟩
                      · rw [if_neg e]; exact hp1.2.2 i (by omega)
                    · rw [← e0]
                      simpa [lvs, lv] using hm4
                  case measure => simp [intOf]; omega
            · obtain rfl : j = q := by omega
              have hps : (ps.map Prod.snd).take j = ps.map Prod.snd := List.take_of_length_le (by simp; have := hpl.out; omega)
              rw [hps] at hm
              clear hps hlt2
              go_wp2
              obtain ⟨wo, hwo⟩ : ∃ wo : World, wo = wr := ⟨_, rfl⟩
              rw [← hwo] at hm ⊢
              clear hwo
              go_loopw [12] (fun v w' => ∃ (p : Nat), v = .int .i64 p ∧ p ≤ j ∧ w' = wo) (fun v _ => j - (intOf v).toNat)
              case atStart => exact ⟨0, rfl, by omega, rfl⟩
              case round =>
                obtain ⟨p, rfl, hp1, rfl⟩ := hrel
                by_cases hlt2 : p < j
                · obtain ⟨bo, oo, rfl⟩ := outer_addr hm (List.mem_append_right _ m0) p hlt2
                  obtain ⟨bg, og, rfl⟩ := outer_addr hm (List.mem_append_right _ m1) p hlt2
                  have h1 := outer_at hm (List.mem_append_right _ m0) p hlt2 hz.out.1
                  have g1 := outer_at hm (List.mem_append_right _ m1) p hlt2 (by simpa using hpl.out)
                  rw [getD_map Prod.snd ps p pl0 fl0 (by have := hpl.out; omega)] at g1
                  have hfst : (ps.getD p pl0).1 = zs.getD p fl0 := by
                    have e := hp.out.1
                    rw [← e, getD_map Prod.fst ps p pl0 fl0 (by have := hpl.out; omega)]
                  have hpm : ps.getD p pl0 ∈ ps := List.mem_of_getElem? (getD_some ps pl0 p (by have := hpl.out; omega))
                  have hext := hm.ok (exl (ps.getD p pl0)) (List.mem_append.2 (.inl (List.mem_map.2 ⟨_, hpm, rfl⟩)))
                  have q1 := (hp.out.2.2 p (by omega)).1
                  have q2 := (hp.out.2.2 p (by omega)).2
                  have q3 := hz.out.2.2 p (by omega)
                  have hy : zs.getD p fl0 ∈ zs := List.mem_of_getElem? (getD_some zs fl0 p (by have := hz.out.1; omega))
                  have q4 := hz.out.2.1 _ hy
                  have r1 := hext.1.rd
                  have r2 := ExtAt.rd0 hext
                  rw [hfst] at r2
                  clear hfst hpm hext hy hm hp hz
                  generalize zs.getD p fl0 = x at *
                  generalize (ps.getD p pl0).2 = y at *
                  obtain ⟨xA, xn, xc, xfs⟩ := x
                  obtain ⟨yA, yn, yc, yfs⟩ := y
                  simp only [lv] at h1 g1 r1 r2
                  try dsimp only at q1 q2 q3 q4
                  subst q1
                  subst q2
                  have hxl : xfs.length = xn := rd_len cR_len (by omega) r2
                  have r1 := Fact.mk r1
                  have r2 := Fact.mk r2
                  have q3 := Fact.mk q3
                  have hxl := Fact.mk hxl
                  go_wp2
                  go_loopw [13] (fun v w' => ∃ (i : Nat), v = .int .i64 i ∧ xn ≤ i ∧ i ≤ xn + 64 ∧ w' = wr) (fun v _ => xn + 64 - (intOf v).toNat)
                  case atStart => exact ⟨xn, rfl, by omega, by omega, rfl⟩
                  case round =>
                    obtain ⟨i, rfl, hi1, hi2, rfl⟩ := hrel
                    by_cases hlt3 : i < xn + 64
                    · obtain ⟨ba, oa, e, a0, _, _⟩ := rd_at cR_len (by omega) fr0 r1.out i hlt3
                      subst e
                      have e1 : (xfs ++ List.replicate 64 (markG p)).getD i fr0 = markG p := by
                        rw [List.getD_eq_getElem?_getD, List.getElem?_append_right (by have := hxl.out; omega), List.getElem?_replicate, if_pos (by have := hxl.out; omega)]
                        rfl
                      rw [e1] at a0
                      have a1 : wr.cell? ⟨ba, oa + i * 3, none⟩ = some (.int .i64 (-1 - (p : Int))) := a0 0 _ rfl
                      clear a0 e1
                      go_wp2
                      go_roundw
                      case rel => exact ⟨i + 1, by go_num, by omega, by omega, trivial⟩
                      case measure => simp [intOf]; omega
                    · go_wp2
                      go_loopw [14] (fun v w' => ∃ (u : Nat), v = .int .i64 u ∧ u ≤ xn ∧ w' = wr) (fun v _ => xn - (intOf v).toNat)
                      case atStart => exact ⟨0, rfl, by omega, rfl⟩
                      case round =>
                        obtain ⟨u, rfl, hu, rfl⟩ := hrel
                        by_cases hlt4 : u < xn
                        · obtain ⟨ba, oa, e, a0, _, _⟩ := rd_at cR_len (by omega) fr0 r2.out u hlt4
                          subst e
                          have hmk := q3.out u hlt4
                          generalize xfs.getD u fr0 = y at a0 hmk
                          obtain ⟨yfn, ypc, yA, yn, yc, ysl⟩ := y
                          obtain ⟨rfl, rfl⟩ := hmk
                          have a1 : wr.cell? ⟨ba, oa + u * 3, none⟩ = some (.int .i64 (p : Int)) := a0 0 _ rfl
                          have a2 : wr.cell? ⟨ba, oa + u * 3 + 1, none⟩ = some (.int .i64 (u : Int)) := a0 1 _ rfl
                          clear a0
                          go_wp2
                          go_roundw
                          case rel => exact ⟨u + 1, by go_num, by omega, trivial⟩
                          case measure => simp [intOf]; omega
                        · go_wp2
                          go_roundw
                          case rel => exact ⟨p + 1, by go_num, by omega, trivial⟩
                          case measure => simp [intOf]; omega
                · go_wp2
                  go_ret
                  exact ⟨rfl, hm.sub ((List.sublist_cons_self _ _).trans ((List.sublist_cons_self _ _).trans (List.sublist_append_right _ _)))⟩
end Go.Proofs.Ytgflfpepfpekhaa
