/- Lemmas of the heap (a part of the heap's texts; written by slice.py). -/
import Derived.BigQuiet
import Derived.Carry
import Derived.ChangeKeysEq
import Derived.Deep.CutBlock
import Derived.Deep.DeepCutAuto
import Derived.Deep.DeepFit
import Derived.Deep.DeepMust
import Derived.Deep.Draws
import Derived.Deep.LoopGhost
import Derived.Deep.MidRow
import Derived.Deep.QuietTactic
import Derived.Deep.RegionHeld3
import Derived.Deep.RegionLaw
import Derived.Deep.Slices
import Derived.KernelRfl
import Derived.Laws.MakeOwn
import Derived.Lib.SliceRun
import Derived.Maps.Own
import Derived.Maps.OwnSet
import Derived.Maps.Views
import Derived.OpenShut
import Derived.OrdersHeld
import Derived.Outline
import Derived.OwnWalk
import Derived.SizedLaws
import Derived.StillTail
import Derived.StillTailTactics
import Derived.WalkKit
import Derived.WalkSpells
import Derived.Test.YtgflfpepfpekhaaGreatProg
import Derived.Test.YtgflfpepfpekhaaGreatFKg
set_option linter.unusedVariables false
set_option linter.unusedSimpArgs false
namespace Go.Proofs.YtgflfpepfpekhaaGreat
open Go.RowKit Go.Mm
set_option maxHeartbeats 1000000
set_option maxRecDepth 100000
set_option linter.unusedSimpArgs false
structure LL where
  A : Option Addr
  n : Nat
  c : Nat
  xs : List Int
def ll0 : LL := ⟨none, 0, 0, []⟩
def lw (l : LL) : Value := .slice l.A l.n l.c
def lws (ls : List LL) : List Value := ls.map lw
def lsL (l : LL) : Chunk := Own 1 (lw l) (nums .i64 l.xs)
theorem lws_one (ls : List LL) : One (lws ls) := fun u hu => by
  obtain ⟨y, _, rfl⟩ := List.mem_map.1 hu
  rfl
theorem lws_at (ls : List LL) (k : Nat) (h : k < ls.length) : (lws ls)[k]? = some (lw (ls.getD k ll0)) := by simp [lws, h]
theorem lws_set (ys : List LL) (k : Nat) (y : LL) (h : k < ys.length) (hy : lw y = lw (ys.getD k ll0)) : lws (ys.set k y) = lws ys := by
  apply List.ext_getElem?
  intro i
  simp only [lws, List.getElem?_map, List.getElem?_set]
  by_cases hik : k = i
  · subst hik
    simp only [if_pos h, if_true, Option.map_some]
    rw [getD_some ys ll0 k h]
    simp [hy]
  · rw [if_neg hik]
def exL (p : LL × LL) : Chunk := Ext 1 (lw p.2) (nums .i64 p.2.xs) (lw p.1) (nums .i64 p.1.xs)
def pll0 : LL × LL := (ll0, ll0)
theorem exL_start {w0 w : World} {ys : List LL} {R : List Chunk} (h : Mem w0 w (ys.map lsL ++ R)) : Mem w0 w ((ys.map fun y => (y, y)).map exL ++ R) := by
  have := Mem.conv (fun y : LL => lsL y) (fun y => exL (y, y)) (fun x k hk => hk.elim id id) (fun x hx => OwnAt.ext hx) ys [] R h
  simpa [List.map_map, Function.comp_def] using this
theorem outerL_addr {w0 w : World} {A : Option Addr} {m c : Nat} {ls : List LL} {L : List Chunk} (h : Mem w0 w L) (hm : Own 1 (.slice A m c) (lws ls) ∈ L) (k : Nat) (hk : k < m) : ∃ b o, A = some ⟨b, o, none⟩ := by
  obtain ⟨b, o, _, e, _⟩ := (h.rd hm).at1 k hk
  exact ⟨b, o, e⟩
theorem outerL_at {w0 w : World} {b o : Nat} {m c : Nat} {ls : List LL} {L : List Chunk} (h : Mem w0 w L) (hm : Own 1 (.slice (some ⟨b, o, none⟩) m c) (lws ls) ∈ L) (k : Nat) (hk : k < m) (hl : ls.length = m) : w.cell? ⟨b, o + k, none⟩ = some (lw (ls.getD k ll0)) := by
  obtain ⟨_, _, c0, e, h1, h2, _, _⟩ := (h.rd hm).at1 k hk
  cases e
  rw [lws_at ls k (by omega)] at h2
  cases h2
  exact h1
/-- The marks: of place i of list k, and of what is laid behind. -/
def markS (k i : Nat) : Int := (k : Int) * 1048576 + (i : Int)
def markB (k : Nat) : Int := -7 - (k : Int)
def MarkedL (k i : Nat) (xs : List Int) : Prop := ∀ q, q < i → xs.getD q 0 = markS k q
theorem MarkedL.step {k i : Nat} {xs : List Int} (h : MarkedL k i xs) (hi : i < xs.length) : MarkedL k (i + 1) (xs.set i (markS k i)) := fun q hq => by
  rw [getD_set _ _ _ _ _ hi]
  by_cases e : q = i
  · subst e; rw [if_pos rfl]
  · rw [if_neg e]; exact h q (by omega)
theorem ty_LLs : Tryz.prog.underlying 96 = some (.slice 34) := by kernel_rfl
theorem inf_Ls : (Tryz.prog.info? 34).map (fun i => (i.zero, i.size, i.bytes)) = some (some (.slice none 0 0), 1, 24) := by kernel_rfl
theorem apartL_ok (w0 w : World) (A : Option Addr) (m c : Nat) (ls : List LL) (WA : Option Addr) (wc : Nat) (us : List LL) (L : List Chunk) (hm : Mem w0 w (ls.map lsL ++ (Own 1 (.slice A m c) (lws ls) :: L))) (hl : Fact (ls.length = m)) (hN : Fact (∀ l, l ∈ ls → l.n ≤ 16777216)) (hmm : m ≤ 16777216)
    (hu : Fact (RdC w 1 (.slice WA m wc) (lws us))) (hul : Fact (us.length = m)) (hue : Fact (∀ k, k < m → (us.getD k ll0).n = (ls.getD k ll0).n ∧ RdC w 1 (lw (us.getD k ll0)) (nums .i64 (ls.getD k ll0).xs))) :
    Calls Tryz.prog 60 #[.slice A m c, .slice WA m wc] w fun e w' => e = .returned (.bool true) ∧ Mem w0 w' L := by
  obtain ⟨iV, vi, vz0, vz1, vz2⟩ := info_parts inf_long
  obtain ⟨iS, si, sz0, sz1, sz2⟩ := info_parts inf_Ls
  go_enter Tryz.func60, Tryz.ntmps60
  go_wp2
  obtain ⟨w1, hw1⟩ : ∃ w1 : World, w1 = w := ⟨_, rfl⟩
  rw [← hw1] at hm hu hue ⊢
  clear hw1
  go_loopw [5] (fun v w' => ∃ (k : Nat), v = .int .i64 k ∧ k ≤ m ∧ Gr w1 w') (fun v _ => m - (intOf v).toNat)
  case atStart => exact ⟨0, rfl, by omega, Gr.refl _⟩
  case round =>
    obtain ⟨k, rfl, hk, hg⟩ := hrel
    by_cases hlt : k < m
    · have hmr := hm.gr hg
      obtain ⟨bo, oo, rfl⟩ := outerL_addr hmr (List.mem_append_right _ m0) k hlt
      have h1 := outerL_at hmr (List.mem_append_right _ m0) k hlt hl.out
      obtain ⟨bu, ou, c0, rfl, g1, g2, _, _⟩ := (hu.out.gr hg).at1 k hlt
      rw [lws_at us k (by have := hul.out; omega)] at g2
      cases g2
      have hxm : ls.getD k ll0 ∈ ls := List.mem_of_getElem? (getD_some ls ll0 k (by have := hl.out; omega))
      have r1 := hmr.rd (size := 1) (v := lw (ls.getD k ll0)) (xs := nums .i64 (ls.getD k ll0).xs) (List.mem_append_left _ (List.mem_map.2 ⟨_, hxm, rfl⟩))
      have hq := hue.out k hlt
      have r2 := hq.2.gr hg
      have hn := hN.out _ hxm
      have e0 := hq.1
      clear hq hxm
      generalize ls.getD k ll0 = x at *
      generalize us.getD k ll0 = y at *
      obtain ⟨xA, xn, xc, xs⟩ := x
      obtain ⟨yA, yn, yc, ys⟩ := y
      simp only [lw] at h1 g1 r1 r2
      dsimp only at e0 hn
      subst e0
      have hg2 := Fact.mk (hg.drew)
      have r1 := Fact.mk (r1.gr (Gr.refl _).drew)
      have r2 := Fact.mk (r2.gr (Gr.refl _).drew)
      go_upto_region 4 with (fail)
      go_still_tail 8, (by kernel_rfl)
      change wpList _ _ _ _ _ wr.drew
      clear h1 g1 hmr
      generalize wr.drew = w2 at *
      go_wp2_with fail
      refine (sameLongs_ok w2 xA yA yn xc yc xs r1 r2 (by omega)).mono ?_
      rintro e w3 ⟨rfl, hg3⟩
      go_wp2
      go_roundw
      case rel => exact ⟨k + 1, by go_num, by omega, hg2.out.trans hg3⟩
      case measure => simp [intOf]; omega
    · obtain rfl : k = m := by omega
      have hm := hm.gr hg
      clear hg hu hue hul
      go_wp2
      obtain ⟨wo, hwo⟩ : ∃ wo : World, wo = wr := ⟨_, rfl⟩
      rw [← hwo] at hm ⊢
      clear hwo
      go_loopw [6] (fun v w' => ∃ (q : Nat) (zs : List LL), v = .int .i64 q ∧ q ≤ k ∧ Mem w0 w' (zs.map lsL ++ (Own 1 (.slice A k c) (lws zs) :: L)) ∧ Fact (zs.length = k ∧ (∀ z, z ∈ zs → z.n ≤ 16777216) ∧ ∀ p, p < q → MarkedL p (zs.getD p ll0).n (zs.getD p ll0).xs)) (fun v _ => k - (intOf v).toNat)
      case atStart => exact ⟨0, ls, rfl, by omega, hm, ⟨hl.out, hN.out, fun p hp => by omega⟩⟩
      case round =>
        clear hm hl hN
        obtain ⟨q, zs, rfl, hq, hm, hz⟩ := hrel
        by_cases hlt : q < k
        · have hql : q < zs.length := by have := hz.out.1; omega
          have hxm : zs.getD q ll0 ∈ zs := List.mem_of_getElem? (getD_some zs ll0 q hql)
          have hxn := hz.out.2.1 _ hxm
          obtain ⟨bo, oo, rfl⟩ := outerL_addr hm (List.mem_append_right _ m0) q hlt
          have hm1 := ch_get lsL ll0 hql hm
          have hat : Fact (∀ (W : World) (C : Chunk), Mem w0 W (C :: ((zs.eraseIdx q).map lsL ++ (Own 1 (.slice (some ⟨bo, oo, none⟩) k c) (lws zs) :: L))) → W.cell? ⟨bo, oo + q, none⟩ = some (lw (zs.getD q ll0))) := ⟨fun W C h => outerL_at h (.tail _ (List.mem_append_right _ m0)) q hlt hz.out.1⟩
          have hxe : ∃ x, Fact (zs.getD q ll0 = x) := ⟨_, ⟨rfl⟩⟩
          obtain ⟨x, hxe⟩ := hxe
          rw [hxe.out] at hat hm1 hxn
          obtain ⟨xA, xn, xc, xfs⟩ := x
          have hxl : xfs.length = xn := (hm1.rd (size := 1) (v := .slice xA xn xc) (xs := nums .i64 xfs) m0).nlen
          simp only [lw] at hat
          dsimp only at hxn
          have h1 := hat.out _ _ hm1
          clear hm hxm
          go_wp2
          clear h1
          obtain ⟨wp, hwp⟩ : ∃ wp : World, wp = wr := ⟨_, rfl⟩
          rw [← hwp] at hm1 ⊢
          clear hwp
          go_loopw [7] (fun v w' => ∃ (i : Nat) (fs : List Int), v = .int .i64 i ∧ i ≤ xn ∧ Mem w0 w' (lsL ⟨xA, xn, xc, fs⟩ :: ((zs.eraseIdx q).map lsL ++ (Own 1 (.slice (some ⟨bo, oo, none⟩) k c) (lws zs) :: L))) ∧ Fact (fs.length = xn ∧ MarkedL q i fs)) (fun v _ => xn - (intOf v).toNat)
          case atStart => exact ⟨0, xfs, rfl, by omega, hm1, ⟨hxl, fun p hp => by omega⟩⟩
          case round =>
            clear hm1 hxl
            obtain ⟨i, fs, rfl, hi, hm, hs⟩ := hrel
            have h1 := hat.out _ _ hm
            by_cases hlt2 : i < xn
            · have hm' : Mem w0 wr (Own 1 (.slice xA xn xc) (nums .i64 fs) :: ((zs.eraseIdx q).map lsL ++ (Own 1 (.slice (some ⟨bo, oo, none⟩) k c) (lws zs) :: L))) := hm
              obtain ⟨lb, lo, rfl⟩ := OwnAt.addr (hm'.ok _ m0) (by have := OwnAt.cap (hm'.ok _ m0); omega)
              have hil : i < fs.length := by have := hs.out.1; omega
              obtain ⟨g1, g2⟩ := hm'.own_cell m0 i (nums_getD .i64 fs i hil)
              have hm2 := hm'.own_set i (by simpa using hil) (.int .i64 (markS q i)) rfl
              rw [nums_set] at hm2
              simp only [markS] at hm2
              clear hm' hm
              go_wp2
              go_roundw
              case rel =>
                have hs1 := hs.out.1
                exact ⟨i + 1, fs.set i (markS q i), by go_num, by omega, hm2, ⟨by simpa using hs1, hs.out.2.step hil⟩⟩
              case measure => simp [intOf]; omega
            · obtain rfl : i = xn := by omega
              go_wp2
              go_roundw
              case rel =>
                have hz1 := hz.out
                have hsv : lws (zs.set q ⟨xA, i, xc, fs⟩) = lws zs := lws_set zs q _ hql (by rw [hxe.out]; rfl)
                refine ⟨q + 1, zs.set q ⟨xA, i, xc, fs⟩, by go_num, by omega, ?_, ⟨by simpa using hz1.1, fun z hz => ?_, fun p hp => ?_⟩⟩
                · rw [hsv]
                  exact ch_put lsL hql hm
                · rcases List.mem_or_eq_of_mem_set hz with h | rfl
                  · exact hz1.2.1 z h
                  · exact hxn
                · rw [getD_set _ _ _ _ _ hql]
                  by_cases e : p = q
                  · subst e; rw [if_pos rfl]; exact hs.out.2
                  · rw [if_neg e]; exact hz1.2.2 p (by omega)
              case measure => simp [intOf]; omega
        · obtain rfl : q = k := by omega
          have hm := exL_start hm
          go_wp2
          obtain ⟨wp, hwp⟩ : ∃ wp : World, wp = wr := ⟨_, rfl⟩
          rw [← hwp] at hm ⊢
          clear hwp
          go_loopw [8, 9] (fun l v w' => ∃ (j : Nat) (B : Option Addr) (d : Nat) (ps : List (LL × LL)), v = .int .i64 j ∧ j ≤ q ∧ l = .slice B j d ∧ Mem w0 w' (ps.map exL ++ (Own 1 (.slice A q c) (lws zs) :: Own 1 (.slice B j d) (lws ((ps.map Prod.snd).take j)) :: L)) ∧ Fact (ps.map Prod.fst = zs ∧ (∀ i, j ≤ i → i < q → (ps.getD i pll0).2 = zs.getD i ll0) ∧ ∀ i, i < j → (ps.getD i pll0).2.n = (zs.getD i ll0).n + 64 ∧ (ps.getD i pll0).2.xs = (zs.getD i ll0).xs ++ List.replicate 64 (markB i))) (fun _ v _ => q - (intOf v).toNat)
          case atStart =>
            refine ⟨0, none, 0, zs.map fun y => (y, y), rfl, by omega, rfl, ?_, ⟨by simp [List.map_map, Function.comp_def], fun i _ hi => ?_, fun i hi => by omega⟩⟩
            · exact (hm.nil 1 none).unmid2
            · rw [List.getD_eq_getElem?_getD, List.getElem?_map, getD_some zs ll0 i (by have := hz.out.1; omega)]; rfl
          case round =>
            clear hm
            obtain ⟨j, B, d, ps, rfl, hj, rfl, hm, hp⟩ := hrel
            have hpl : ps.length = q := by have := congrArg List.length hp.out.1; simpa [hz.out.1] using this
            have hpl := Fact.mk hpl
            by_cases hlt2 : j < q
            · obtain ⟨bo, oo, rfl⟩ := outerL_addr hm (List.mem_append_right _ m0) j hlt2
              have hm1 := ch_get exL pll0 (k := j) (by have := hpl.out; omega) hm
              have hfst : (ps.getD j pll0).1 = zs.getD j ll0 := by
                have e := hp.out.1
                rw [← e, getD_map Prod.fst ps j pll0 ll0 (by have := hpl.out; omega)]
              have hsnd := hp.out.2.1 j (Nat.le_refl _) hlt2
              have hpe : ps.getD j pll0 = (zs.getD j ll0, zs.getD j ll0) := Prod.ext hfst hsnd
              rw [hpe] at hm1
              have hy : zs.getD j ll0 ∈ zs := List.mem_of_getElem? (getD_some zs ll0 j (by have := hz.out.1; omega))
              have hxn := hz.out.2.1 _ hy
              have hat : Fact (∀ (W : World) (C : Chunk), Mem w0 W (C :: ((ps.eraseIdx j).map exL ++ (Own 1 (.slice (some ⟨bo, oo, none⟩) q c) (lws zs) :: Own 1 (.slice B j d) (lws ((ps.map Prod.snd).take j)) :: L))) → W.cell? ⟨bo, oo + j, none⟩ = some (lw (zs.getD j ll0))) := ⟨fun W C h => outerL_at h (.tail _ (List.mem_append_right _ m0)) j hlt2 hz.out.1⟩
              have hxe : ∃ x, Fact (zs.getD j ll0 = x) := ⟨_, ⟨rfl⟩⟩
              obtain ⟨x, hxe⟩ := hxe
              rw [hxe.out] at hat hm1 hxn
              obtain ⟨xA, xn, xc, xfs⟩ := x
              simp only [lw] at hat
              dsimp only at hxn
              have h1 := hat.out _ _ hm1
              clear hm hy hfst hsnd hpe
              go_wp2
              clear h1
              obtain ⟨wp, hwp⟩ : ∃ wp : World, wp = wr := ⟨_, rfl⟩
              rw [← hwp] at hm1 ⊢
              clear hwp
              go_loopw [10, 11] (fun l v w' => ∃ (i : Nat) (C : Option Addr) (e : Nat), v = .int .i64 i ∧ i ≤ 64 ∧ l = .slice C (xn + i) e ∧ Mem w0 w' (Ext 1 (.slice C (xn + i) e) (nums .i64 (xfs ++ List.replicate i (markB j))) (.slice xA xn xc) (nums .i64 xfs) :: ((ps.eraseIdx j).map exL ++ (Own 1 (.slice (some ⟨bo, oo, none⟩) q c) (lws zs) :: Own 1 (.slice B j d) (lws ((ps.map Prod.snd).take j)) :: L)))) (fun _ v _ => 64 - (intOf v).toNat)
              case atStart => exact ⟨0, xA, xc, rfl, by omega, rfl, by simpa [exL, lw] using hm1⟩
              case round =>
                clear hm1
                obtain ⟨i, C, e, rfl, hi1, rfl, hm⟩ := hrel
                by_cases hlt3 : i < 64
                · go_wp2_with (at_builtin; refine wp_appe rfl _ _ _ rfl 2 iV _ 1 8 ty_longs vi vz0 vz1 vz2 rfl C (xn + i) e _ _ _ rfl (L := Blk _ _ :: _) (hm.alloc _).swap _ 1 1 [.int .i64 (-7 - (j : Int))] rfl (RdC.lit _ _ _ _ _ rfl (by simp [maxLen]) (One.nums .i64 [markB j])) (by unfold maxLen; omega) (by omega) ?_; intro C1 e1 w2 hm2)
                  go_roundw
                  case rel =>
                    refine ⟨i + 1, C1, e1, by go_num, by omega, rfl, ?_⟩
                    have hm3 := hm2.sub (.cons_cons _ (.cons _ (List.Sublist.refl _)))
                    rw [show xn + (i + 1) = xn + i + 1 by omega, List.replicate_succ', ← List.append_assoc, nums_append]
                    exact hm3
                  case measure => simp [intOf]; omega
                · obtain rfl : i = 64 := by omega
                  go_wp2_with (at_builtin; refine wp_app rfl _ _ _ rfl 34 iS _ 1 24 ty_LLs si sz0 sz1 sz2 rfl B j d _ rfl (Mem.mid2 (A := _ :: _ :: (ps.eraseIdx j).map exL) (hm.alloc _)) _ 1 1 [.slice C (xn + 64) e] rfl (RdC.lit _ _ _ _ _ rfl (by simp [maxLen]) (lws_one [⟨C, xn + 64, e, []⟩])) (by unfold maxLen; omega) (by omega) ?_; intro B1 d1 w2 hm2)
                  go_roundw
                  case rel =>
                    have hm3 := Mem.unmid2 (A := exL (⟨xA, xn, xc, xfs⟩, ⟨C, xn + 64, e, xfs ++ List.replicate 64 (markB j)⟩) :: (ps.eraseIdx j).map exL) (hm2.sub (.cons_cons _ (.cons _ (List.Sublist.refl _))))
                    have hm4 := ch_put exL (k := j) (by have := hpl.out; omega) hm3
                    have hp1 := hp.out
                    have e0 : (ps.map Prod.snd).take j ++ [⟨C, xn + 64, e, xfs ++ List.replicate 64 (markB j)⟩] = ((ps.set j (⟨xA, xn, xc, xfs⟩, ⟨C, xn + 64, e, xfs ++ List.replicate 64 (markB j)⟩)).map Prod.snd).take (j + 1) := by
                      rw [List.map_set, List.take_succ_eq_append_getElem (by simp; have := hpl.out; omega), List.take_set_of_le (Nat.le_refl _)]
                      simp
                    refine ⟨j + 1, B1, d1, ps.set j (⟨xA, xn, xc, xfs⟩, ⟨C, xn + 64, e, xfs ++ List.replicate 64 (markB j)⟩), by go_num, by omega, rfl, ?_, ⟨?_, fun i h1 h2 => ?_, fun i h1 => ?_⟩⟩
                    rotate_left 1
                    · rw [List.map_set, hp1.1]
                      apply List.ext_getElem?
                      intro i
                      rw [List.getElem?_set]
                      by_cases e : j = i
                      · subst e
                        have := hz.out.1
                        rw [if_pos rfl, if_pos (by omega), getD_some zs ll0 j (by omega), hxe.out]
                      · rw [if_neg e]
                    · rw [getD_set _ _ _ _ _ (by have := hpl.out; omega), if_neg (by omega)]
                      exact hp1.2.1 i (by omega) h2
                    · rw [getD_set _ _ _ _ _ (by have := hpl.out; omega)]
                      by_cases e : i = j
                      · subst e; rw [if_pos rfl, hxe.out]; exact ⟨rfl, rfl⟩
                      · rw [if_neg e]; exact hp1.2.2 i (by omega)
                    · rw [← e0]
                      simpa [lws, lw] using hm4
                  case measure => simp [intOf]; omega
            · obtain rfl : j = q := by omega
              have hps : (ps.map Prod.snd).take j = ps.map Prod.snd := List.take_of_length_le (by simp; have := hpl.out; omega)
              rw [hps] at hm
              clear hps hlt2
              go_wp2
              obtain ⟨wo, hwo⟩ : ∃ wo : World, wo = wr := ⟨_, rfl⟩
              rw [← hwo] at hm ⊢
              clear hwo
              go_loopw [12] (fun v w' => ∃ (p : Nat), v = .int .i64 p ∧ p ≤ j ∧ w' = wo) (fun v _ => j - (intOf v).toNat)
              case atStart => exact ⟨0, rfl, by omega, rfl⟩
              case round =>
                obtain ⟨p, rfl, hp1, rfl⟩ := hrel
                by_cases hlt2 : p < j
                · obtain ⟨bo, oo, rfl⟩ := outerL_addr hm (List.mem_append_right _ m0) p hlt2
                  obtain ⟨bg, og, rfl⟩ := outerL_addr hm (List.mem_append_right _ m1) p hlt2
                  have h1 := outerL_at hm (List.mem_append_right _ m0) p hlt2 hz.out.1
                  have g1 := outerL_at hm (List.mem_append_right _ m1) p hlt2 (by simpa using hpl.out)
                  rw [getD_map Prod.snd ps p pll0 ll0 (by have := hpl.out; omega)] at g1
                  have hfst : (ps.getD p pll0).1 = zs.getD p ll0 := by
                    have e := hp.out.1
                    rw [← e, getD_map Prod.fst ps p pll0 ll0 (by have := hpl.out; omega)]
                  have hpm : ps.getD p pll0 ∈ ps := List.mem_of_getElem? (getD_some ps pll0 p (by have := hpl.out; omega))
                  have hext := hm.ok (exL (ps.getD p pll0)) (List.mem_append.2 (.inl (List.mem_map.2 ⟨_, hpm, rfl⟩)))
                  have q1 := (hp.out.2.2 p (by omega)).1
                  have q2 := (hp.out.2.2 p (by omega)).2
                  have q3 := hz.out.2.2 p (by omega)
                  have hy : zs.getD p ll0 ∈ zs := List.mem_of_getElem? (getD_some zs ll0 p (by have := hz.out.1; omega))
                  have q4 := hz.out.2.1 _ hy
                  have r1 := hext.1.rd
                  have r2 := ExtAt.rd0 hext
                  rw [hfst] at r2
                  clear hfst hpm hext hy hm hp hz
                  generalize zs.getD p ll0 = x at *
                  generalize (ps.getD p pll0).2 = y at *
                  obtain ⟨xA, xn, xc, xfs⟩ := x
                  obtain ⟨yA, yn, yc, yfs⟩ := y
                  simp only [lw] at h1 g1 r1 r2
                  try dsimp only at q1 q2 q3 q4
                  subst q1
                  subst q2
                  have hxl : xfs.length = xn := r2.nlen
                  have r1 := Fact.mk r1
                  have r2 := Fact.mk r2
                  have q3 := Fact.mk q3
                  have hxl := Fact.mk hxl
                  go_wp2
                  go_loopw [13] (fun v w' => ∃ (i : Nat), v = .int .i64 i ∧ i ≤ xn + 64 ∧ w' = wr) (fun v _ => xn + 64 - (intOf v).toNat)
                  case atStart => exact ⟨0, rfl, by omega, rfl⟩
                  case round =>
                    obtain ⟨i, rfl, hi2, rfl⟩ := hrel
                    by_cases hlt3 : i < xn + 64
                    · obtain ⟨ba, oa, e, a1, _⟩ := r1.out.num i hlt3
                      subst e
                      by_cases hlt4 : i < xn
                      · obtain ⟨bb, ob, e, b1, _⟩ := r2.out.num i hlt4
                        subst e
                        have e1 : (xfs ++ List.replicate 64 (markB p)).getD i 0 = (p : Int) * 1048576 + (i : Int) := by
                          rw [List.getD_eq_getElem?_getD, List.getElem?_append_left (by have := hxl.out; omega), ← List.getD_eq_getElem?_getD]
                          exact q3.out i hlt4
                        have e2 : xfs.getD i 0 = (p : Int) * 1048576 + (i : Int) := q3.out i hlt4
                        rw [e1] at a1
                        rw [e2] at b1
                        clear e1 e2
                        have e3 : ((i : Int) ≥ (xn : Int)) = False := eq_false (by omega)
                        go_wp2
                        go_roundw
                        case rel => exact ⟨i + 1, by go_num, by omega, trivial⟩
                        case measure => simp [intOf]; omega
                      · have e1 : (xfs ++ List.replicate 64 (markB p)).getD i 0 = -7 - (p : Int) := by
                          rw [List.getD_eq_getElem?_getD, List.getElem?_append_right (by have := hxl.out; omega), List.getElem?_replicate, if_pos (by have := hxl.out; omega)]
                          rfl
                        rw [e1] at a1
                        clear e1
                        have e3 : ((i : Int) ≥ (xn : Int)) = True := eq_true (by omega)
                        go_wp2
                        go_roundw
                        case rel => exact ⟨i + 1, by go_num, by omega, trivial⟩
                        case measure => simp [intOf]; omega
                    · go_wp2
                      go_roundw
                      case rel => exact ⟨p + 1, by go_num, by omega, trivial⟩
                      case measure => simp [intOf]; omega
                · go_wp2
                  go_ret
                  exact ⟨rfl, hm.sub ((List.sublist_cons_self _ _).trans ((List.sublist_cons_self _ _).trans (List.sublist_append_right _ _)))⟩
end Go.Proofs.YtgflfpepfpekhaaGreat
namespace Go.Proofs.YtgflfpepfpekhaaGreat
open Go.RowKit Go.Mm Go.WideShapes
set_option maxRecDepth 100000
set_option linter.unusedSimpArgs false
structure OpL where
  on : Int
  kd : Int
  N : Int
  A : Option Addr
  n : Nat
  c : Nat
  xs : List Int
def cO (x : OpL) : List Value := [.int .i64 x.on, .int .i64 x.kd, .int .i64 x.N, .slice x.A x.n x.c]
theorem cO_len (x : OpL) : (cO x).length = 4 := rfl
theorem cO_one (x : OpL) : One (cO x) := fun u hu => by simp [cO] at hu; rcases hu with rfl | rfl | rfl | rfl <;> rfl
theorem row_Op : (Tryz.prog.underlying 66).map (·.isRow) = some true := by kernel_rfl
theorem szO : (Tryz.prog.info? 66).map (·.size) = some 4 := by kernel_rfl
def op0 : OpL := ⟨0, 0, 0, none, 0, 0, []⟩
def tot : List OpL → Nat
  | [] => 0
  | x :: l => 1 + x.n + tot l
theorem tot_app (a b : List OpL) : tot (a ++ b) = tot a + tot b := by
  induction a with
  | nil => simp [tot]
  | cons x a ih => simp [tot, ih]; omega
theorem tot_succ (ops : List OpL) (k : Nat) (h : k < ops.length) : tot (ops.take (k + 1)) = tot (ops.take k) + 1 + (ops.getD k op0).n := by
  rw [List.take_succ_eq_append_getElem h, tot_app]
  simp [tot, h]; omega
theorem tot_take (ops : List OpL) (k : Nat) : tot (ops.take k) ≤ tot ops := by
  conv => rhs; rw [← List.take_append_drop k ops, tot_app]
  omega
structure ScrOk (w : World) (A : Option Addr) (m c : Nat) (ops : List OpL) : Prop where
  rd : RdC w 4 (.slice A m c) (ops.flatMap cO)
  each : ∀ x, x ∈ ops → RdC w 1 (.slice x.A x.n x.c) (nums .i64 x.xs) ∧ x.n ≤ 1048576 ∧ x.N ≤ 9223372036854775807
section
variable {H : Type} {enc : TypeId × Value → H} {w : World}
end
end Go.Proofs.YtgflfpepfpekhaaGreat
