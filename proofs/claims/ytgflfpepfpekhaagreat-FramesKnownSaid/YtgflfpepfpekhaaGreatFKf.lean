/- Lemmas of the heap (a part of the heap's texts; written by slice.py). -/
import Derived.BigQuiet
import Derived.Carry
import Derived.ChangeKeysEq
import Derived.Deep.CutBlock
import Derived.Deep.DeepCutAuto
import Derived.Deep.DeepFit
import Derived.Deep.DeepMust
import Derived.Deep.Draws
import Derived.Deep.LoopGhost
import Derived.Deep.MidRow
import Derived.Deep.QuietTactic
import Derived.Deep.RegionHeld3
import Derived.Deep.RegionLaw
import Derived.Deep.Slices
import Derived.KernelRfl
import Derived.Laws.MakeOwn
import Derived.Lib.SliceRun
import Derived.Maps.Own
import Derived.Maps.OwnSet
import Derived.Maps.Views
import Derived.OpenShut
import Derived.OrdersHeld
import Derived.Outline
import Derived.OwnWalk
import Derived.SizedLaws
import Derived.StillTail
import Derived.StillTailTactics
import Derived.WalkKit
import Derived.WalkSpells
import Derived.Test.YtgflfpepfpekhaaGreatProg
import Derived.Test.YtgflfpepfpekhaaGreatFKe
set_option linter.unusedVariables false
set_option linter.unusedSimpArgs false
namespace Go.Proofs.YtgflfpepfpekhaaGreat
open Go.RowKit Go.Mm
set_option maxHeartbeats 2000000
set_option maxRecDepth 100000
set_option linter.unusedSimpArgs false
theorem refCatch_ok (w : World) (p : Pg) (hp : Fact (PgOk w p)) (N : Nat) (A : Option Addr) (n c : Nat) (xs : List Fr) (hx : Fact (FrsOk N w A n c xs)) (v : V2) (hn : n ≤ 1048577) (hN : N ≤ 1999999) :
    Calls Tryz.prog 44 #[vP p, .slice A n c, .agg (cV v).toArray] w fun e w' => CatchR w w' (N + 1) (catchD p v (xs.map Fr.data) n) e := by
  obtain ⟨iV, vi, vz0, vz1, vz2⟩ := info_parts inf_V
  have hl := Fact.mk hx.out.len
  have htk := fun (f : Fr) (hf : f.n ≤ 2000000) (W : World) (hW : Gr w W) => refTakes_ok W p ⟨hp.out.gr hW⟩ f hf
  have hfa : Fact (∀ i g, fnAt p i = some g → ∃ b o k, i = ((k : Nat) : Int) ∧ p.fA = some ⟨b, o, none⟩ ∧ w.rangeAt b (o + k * 5) (cF g) ∧ k < p.fn ∧ FnOk w g ∧ g.hn ≤ 1048576) := ⟨fun i g h => by
    unfold fnAt at h
    split at h
    · rename_i hi
      cases h
      have hl : p.fns.length = p.fn := rd_len cF_len (by omega) hp.out.fns
      have hm : p.fns.getD i.toNat fn0 ∈ p.fns := List.mem_of_getElem? (getD_some p.fns fn0 i.toNat (by omega))
      obtain ⟨b, o, eA, hr, _, _⟩ := rd_at cF_len (by omega) fn0 hp.out.fns i.toNat (by omega)
      exact ⟨b, o, i.toNat, by omega, eA, hr, by omega, hp.out.each _ hm, (hp.out.small.2 _ hm).1⟩
    · cases h⟩
  obtain ⟨v1, v2⟩ := v
  obtain ⟨kA, kn, kc, consts, fA, fnn, fc, fns⟩ := p
  simp only [vP, cV] at htk ⊢
  go_enter Tryz.func44, Tryz.ntmps44
  go_upto_region 1 with (fail)
  have hm := (((Mem.start w).alloc (.cells [.slice kA kn kc, .slice fA fnn fc].toArray 26)).alloc (.cells [.int .i64 v1, .int .i64 v2].toArray 36))
  simp only [World.size_alloc] at hm
  generalize hgX : w.heap.size = g at hm ⊢
  generalize hwX : ((w.alloc (.cells [.slice kA kn kc, .slice fA fnn fc].toArray 26)).alloc (.cells [.int .i64 v1, .int .i64 v2].toArray 36)) = w1 at hm
  try refine wp_world hwX ?_
  clear hwX hgX
  go_wp2
  go_loopw [8] (fun i w' => ∃ (k : Nat), i = .int .i64 (k : Int) ∧ k ≤ n ∧ Fact (catchD ⟨kA, kn, kc, consts, fA, fnn, fc, fns⟩ (v1, v2) (xs.map Fr.data) n = catchD ⟨kA, kn, kc, consts, fA, fnn, fc, fns⟩ (v1, v2) (xs.map Fr.data) k) ∧ Mem w w' [Blk (g + 1) (.cells [.int .i64 v1, .int .i64 v2].toArray 36), Blk g (.cells [.slice kA kn kc, .slice fA fnn fc].toArray 26)]) (fun i _ => (intOf i).toNat)
  case atStart => exact ⟨n, rfl, by omega, ⟨rfl⟩, hm⟩
  case round =>
    clear hm
    obtain ⟨k, rfl, hk, hc, hm⟩ := hrel
    cases k with
    | zero =>
      go_wp2
      go_ret2
      rw [hc.out]
      exact ⟨rfl, hm.below⟩
    | succ k =>
      have e0 : ((k + 1 : Nat) : Int) = (k : Int) + 1 := by omega
      rw [e0]
      clear e0
      have hgt : ((k : Int) + 1 > 0) = True := eq_true (by omega)
      have e1 : (k : Int) + 1 - 1 = (k : Int) := Int.add_sub_cancel _ _
      have hkn : k < n := by omega
      obtain ⟨b, o, rfl, r1, hok, _⟩ := hx.out.at k (by omega)
      have hxe : ∃ x, Fact (xs.getD k fr0 = x) := ⟨_, ⟨rfl⟩⟩
      obtain ⟨x, hxe⟩ := hxe
      rw [hxe.out] at r1 hok
      have r1 := rng_gr r1 hm.below
      have hxn := hok.2
      have hkc : k + 1 ≤ c := by obtain ⟨_, _, _, e, _, h, _⟩ := hx.out.rd; cases e; omega
      have hxl := Fact.mk hok.len
      have hok := Fact.mk hok
      have htx := fun (W : World) (hW : Gr w W) => htk x (by omega) W hW
      obtain ⟨xfn, xpc, xA, xn, xc, xsl⟩ := x
      simp only [cR] at htx r1 hxl hxn
      have hcd : Fact (catchD ⟨kA, kn, kc, consts, fA, fnn, fc, fns⟩ (v1, v2) (xs.map Fr.data) (k + 1) = match takesG (fnAt ⟨kA, kn, kc, consts, fA, fnn, fc, fns⟩ xfn) xpc xn with
        | some (t, st) => some ((xs.map Fr.data).take k ++ [(xfn, t, xsl.take st ++ [(v1, v2)])])
        | none => catchD ⟨kA, kn, kc, consts, fA, fnn, fc, fns⟩ (v1, v2) (xs.map Fr.data) k) := ⟨by
        rw [catchD, data_getD, hxe.out]; simp only [Fr.data, hxl.out]
        generalize takesG _ xpc xn = T
        rcases T with _ | ⟨t, st⟩ <;> rfl⟩
      go_upto_region 5 with (first | (refine wp_rng rfl 30 _ rfl b _ rfl [.int .i64 xfn, .int .i64 xpc, .slice xA xn xc] r1 row_R szR ?_) | (refine wp_setrow rfl 30 _ _ rfl _ rfl 30 _ [.int .i64 xfn, .int .i64 xpc, .slice xA xn xc] rfl (hm.alloc _) szR rfl (cR_one ⟨xfn, xpc, xA, xn, xc, xsl⟩) ?_; intro w4 hm4))
      generalize wr.heap.size = g9 at hm4 ⊢
      clear r1 htk
      go_wp2_with (first | (refine wp_rng rfl 26 _ rfl g 0 rfl [.slice kA kn kc, .slice fA fnn fc] (rng_blk hm4 m2) row_P szP ?_) | (refine wp_rng rfl 30 _ rfl g9 0 rfl [.int .i64 xfn, .int .i64 xpc, .slice xA xn xc] (rng_blk hm4 m0) row_R szR ?_))
      refine (htx w4 hm4.below).mono ?_
      rintro e w5 ⟨hT, hg5⟩
      have hm5 := hm4.gr hg5
      clear hm4 hg5 htx
      unfold TakesI at hT
      cases hG : takesG (fnAt ⟨kA, kn, kc, consts, fA, fnn, fc, fns⟩ xfn) xpc xn with
      | none =>
        rw [hG] at hT hcd
        subst hT
        go_wp2
        go_roundw
        case rel => exact ⟨k, by go_num, by omega, ⟨hc.out.trans hcd.out⟩, hm5.tail⟩
        case measure => simp [intOf]
      | some r =>
        obtain ⟨t, st⟩ := r
        rw [hG] at hT hcd
        obtain ⟨h, gf, rfl, hge, hkh, ht, hst, hstn⟩ := hT
        obtain ⟨fb, fo, j, rfl, eA, fr, hkf, hFn, hhn⟩ := hfa.out _ _ hge
        try dsimp only at eA hkf
        subst eA
        clear hge hG hfa
        have hrh := Fact.mk hFn.2
        have hFinal : Fact (catchD ⟨kA, kn, kc, consts, (some ⟨fb, fo, none⟩), fnn, fc, fns⟩ (v1, v2) (xs.map Fr.data) n = some ((xs.map Fr.data).take k ++ [((j : Int), t, xsl.take st ++ [(v1, v2)])])) := ⟨hc.out.trans hcd.out⟩
        clear hcd hc hFn
        obtain ⟨name, params, locals, cA, cn, cc, code, hA, hhn', hhc, hands⟩ := gf
        simp only [cF] at fr hst hrh hkh hhn ht
        obtain ⟨hb, ho, eh, rh, _, _⟩ := rd_at cH_len (by omega) (0, 0, 0, 0) hrh.out h hkh
        subst eh
        generalize hands.getD h (0, 0, 0, 0) = hx4 at ht hst rh
        obtain ⟨x1, x2, x3, x4⟩ := hx4
        dsimp only at ht hst
        subst ht
        have fr := rng_gr fr hm5.below
        have c1 := hm5.cell m2 1 rfl
        have c3 := hm5.cell m0 0 rfl
        go_upto_region 8 with (first | (refine wp_rng rfl 47 _ rfl fb _ rfl [.string name, .int .i64 params, .int .i64 locals, .slice cA cn cc, .slice (some ⟨hb, ho, none⟩) hhn' hhc] fr row_F szF ?_) | (refine wp_setrow rfl 47 _ _ rfl _ rfl 47 _ [.string name, .int .i64 params, .int .i64 locals, .slice cA cn cc, .slice (some ⟨hb, ho, none⟩) hhn' hhc] rfl (hm5.alloc _) szF rfl (cF_one ⟨name, params, locals, cA, cn, cc, code, (some ⟨hb, ho, none⟩), hhn', hhc, hands⟩) ?_; intro w6 hm6))
        generalize w5.heap.size = g11 at hm6 ⊢
        clear c1 c3 fr hm5 hrh
        go_wp2_with fail
        refine (copyFrames_ok w6 N (some ⟨b, o, none⟩) (k + 1) c (xs.take (k + 1)) ⟨(hx.out.pre (k + 1) (by omega)).gr hm6.below⟩ (by omega) (by omega)).mono ?_
        rintro e w7 ⟨A', c', ys, rfl, hm7, hyd, hyn⟩
        have htk : Fact (xs.take (k + 1) = xs.take k ++ [xs.getD k fr0]) := ⟨take_snoc _ _ _ (by have := hl.out; omega)⟩
        obtain ⟨ys0, y, rfl, hy0⟩ := snoc_of_len (l := ys) (k := k) (by have := data_len hyd; rw [this, List.length_take]; have := hl.out; omega)
        obtain ⟨gA, oA, rfl⟩ := OwnAt.addr (hm7.ok _ m0) (by have := OwnAt.cap (hm7.ok _ m0); omega)
        have hyy : ys0.map Fr.data = (xs.take k).map Fr.data ∧ y.data = (xs.getD k fr0).data := by
          rw [htk.out, List.map_append, List.map_append] at hyd
          have := List.append_inj' hyd rfl
          exact ⟨this.1, by simpa using this.2⟩
        rw [hxe.out] at hyy
        have hyy := Fact.mk hyy
        have hyn := Fact.mk hyn
        have hmj : Mem w w7 (Own 3 (.slice (some ⟨gA, oA, none⟩) (k + 1) c') (fR (ys0 ++ [y])) :: (slots ys0 ++ (slot y :: [Blk g11 (.cells [.string name, .int .i64 params, .int .i64 locals, .slice cA cn cc, .slice (some ⟨hb, ho, none⟩) hhn' hhc].toArray 47), Blk g9 (.cells [.int .i64 (j : Int), .int .i64 xpc, .slice xA xn xc].toArray 30), Blk (g + 1) (.cells [.int .i64 v1, .int .i64 v2].toArray 36), Blk g (.cells [.slice kA kn kc, .slice (some ⟨fb, fo, none⟩) fnn fc].toArray 26)]))) := by
          have := hm6.join hm7
          rw [slots_app, List.cons_append, List.append_assoc] at this
          exact this
        obtain ⟨yfn, ypc, yA, yn, yc, ysl⟩ := y
        have hj2 : Fact ((fR (ys0 ++ [⟨yfn, ypc, yA, yn, yc, ysl⟩]))[k * 3 + 2]? = some (.slice yA yn yc)) := ⟨by rw [fR, flatMap_at cR 3 cR_len _ k 2 (by omega), List.getElem?_append_right (by omega), hy0, Nat.sub_self]; rfl⟩
        have q2 := hmj.cell (g := g11) (t := 47) (fr := (0, 0)) (cs := [.string name, .int .i64 params, .int .i64 locals, .slice cA cn cc, .slice (some ⟨hb, ho, none⟩) hhn' hhc]) (by simp) 2 rfl
        have q4 := hmj.cell (g := g11) (t := 47) (fr := (0, 0)) (cs := [.string name, .int .i64 params, .int .i64 locals, .slice cA cn cc, .slice (some ⟨hb, ho, none⟩) hhn' hhc]) (by simp) 4 rfl
        have rh0 : Fact (∀ W, Gr w W → W.rangeAt hb (ho + h * 4) (cH (x1, x2, x3, x4))) := ⟨fun W hW => rng_gr rh hW⟩
        have rh := rng_gr rh hmj.below
        have z3 : w7.cell? ⟨hb, ho + h * 4 + 3, none⟩ = some (.int .i64 x4) := rh 3 _ rfl
        have e2 : locals + x4 = (st : Int) := hst
        have e3 : IntKind.i64.wrap (st : Int) = (st : Int) := IntWalk.i64_in _ (by omega)
        clear hm6 hm7 hyd
        go_upto_region 9 with (fail)
        go_quiet (fail)
        have hg9 : Gr w7 (w7.drewN nq) := (Gr.refl _).drewN _
        have hm8 := hmj.gr hg9
        have rx := Fact.mk (Gr.trans hmj.below hg9)
        clear hmj hg9 q2 q4 z3 e2 e3 hst
        generalize w7.drewN nq = w8 at *
        have hxp : Fact (RdC w8 2 (.slice xA st xc) (fV (xsl.take st))) := ⟨by have h := (hok.out.gr rx.out).1.pre st hstn; rwa [← fV_take] at h⟩
        have hsc : st ≤ xc := by obtain ⟨_, _, _, e, _, h, _⟩ := hxp.out; cases e; exact h
        have k3 := hm8.cell (g := g9) (t := 30) (fr := (0, 0)) (cs := [.int .i64 (j : Int), .int .i64 xpc, .slice xA xn xc]) (by simp) 2 rfl
        have k5 := hm8.cell (g := g + 1) (t := 36) (fr := (0, 0)) (cs := [.int .i64 v1, .int .i64 v2]) (by simp) 0 rfl
        have k6 := hm8.cell (g := g + 1) (t := 36) (fr := (0, 0)) (cs := [.int .i64 v1, .int .i64 v2]) (by simp) 1 rfl
        have e2 : IntKind.i64.wrap (k : Int) = (k : Int) := IntWalk.i64_in _ (by omega)
        have e4 : (k : Int) < (k : Int) + 1 := by omega
        go_upto_region 10 with (fail)
        go_cut [] (fun W => ∃ (C : Option Addr) (cc' : Nat), Mem w W (Own 3 (.slice (some ⟨gA, oA, none⟩) (k + 1) c') (fR (ys0 ++ [⟨yfn, ypc, C, st + 1, cc', xsl.take st ++ [(v1, v2)]⟩])) :: Own 2 (.slice C (st + 1) cc') (fV (xsl.take st ++ [(v1, v2)])) :: (slots ys0 ++ (slot ⟨yfn, ypc, yA, yn, yc, ysl⟩ :: [Blk g11 (.cells [.string name, .int .i64 params, .int .i64 locals, .slice cA cn cc, .slice (some ⟨hb, ho, none⟩) hhn' hhc].toArray 47), Blk g9 (.cells [.int .i64 (j : Int), .int .i64 xpc, .slice xA xn xc].toArray 30), Blk (g + 1) (.cells [.int .i64 v1, .int .i64 v2].toArray 36), Blk g (.cells [.slice kA kn kc, .slice (some ⟨fb, fo, none⟩) fnn fc].toArray 26)]))))
        case first =>
          as_aux_lemma =>
            have hgS := (Gr.refl w8).drew
            have hmS := (Mem.start w8).drew
            refine wp_region_until (S := fun W => W.cell? ⟨g9, 2, none⟩ = some (.slice xA xn xc) ∧ W.cell? ⟨g + 1, 0, none⟩ = some (.int .i64 v1) ∧ W.cell? ⟨g + 1, 1, none⟩ = some (.int .i64 v2)) 11 (by kernel_rfl) ?_
            generalize w8.drew = wd at hgS hmS ⊢
            refine wpAnyU_take 0 (v := ?vv101) rfl (by kernel_rfl) (by kernel_rfl) (fun _ _ _ h => h) ⟨Gr.cell hgS k3, Gr.cell hgS k5, Gr.cell hgS k6⟩ (Or.inl ⟨rfl, ?yv101⟩) ?rv101
            case yv101 =>
              intro W hW
              obtain ⟨hW0, hW1, hW2⟩ := hW
              go_simp
              try with_reducible rfl
            try simp only [Act.put, List.getElem_toArray, List.getElem_cons_succ, List.getElem_cons_zero, List.setIfInBounds_toArray, List.set_cons_zero, List.set_cons_succ]
            refine wpAnyU_take 1 (v := ?vv102) rfl (by kernel_rfl) (by kernel_rfl) (fun _ _ _ h => h) ⟨Gr.cell hgS k3, Gr.cell hgS k5, Gr.cell hgS k6⟩ (Or.inl ⟨rfl, ?yv102⟩) ?rv102
            case yv102 =>
              intro W hW
              obtain ⟨hW0, hW1, hW2⟩ := hW
              go_simp
              try with_reducible rfl
            try simp only [Act.put, List.getElem_toArray, List.getElem_cons_succ, List.getElem_cons_zero, List.setIfInBounds_toArray, List.set_cons_zero, List.set_cons_succ]
            refine wpAnyU_take 2 (v := ?vv103) rfl (by kernel_rfl) (by kernel_rfl) (fun _ _ _ h => h) ⟨Gr.cell hgS k3, Gr.cell hgS k5, Gr.cell hgS k6⟩ (Or.inl ⟨rfl, ?yv103⟩) ?rv103
            case yv103 =>
              intro W hW
              obtain ⟨hW0, hW1, hW2⟩ := hW
              go_simp
              try with_reducible rfl
            try simp only [Act.put, List.getElem_toArray, List.getElem_cons_succ, List.getElem_cons_zero, List.setIfInBounds_toArray, List.set_cons_zero, List.set_cons_succ]
            refine wpAnyU_take 3 (v := ?vv104) rfl (by kernel_rfl) (by kernel_rfl) (fun _ _ _ h => h) ⟨Gr.cell hgS k3, Gr.cell hgS k5, Gr.cell hgS k6⟩ (Or.inl ⟨rfl, ?yv104⟩) ?rv104
            case yv104 =>
              intro W hW
              obtain ⟨hW0, hW1, hW2⟩ := hW
              go_simp
              try with_reducible rfl
            try simp only [Act.put, List.getElem_toArray, List.getElem_cons_succ, List.getElem_cons_zero, List.setIfInBounds_toArray, List.set_cons_zero, List.set_cons_succ]
            refine wpAnyU_take 4 (v := ?vv105) rfl (by kernel_rfl) (by kernel_rfl) (fun _ _ _ h => h) ⟨Gr.cell hgS k3, Gr.cell hgS k5, Gr.cell hgS k6⟩ (Or.inl ⟨rfl, ?yv105⟩) ?rv105
            case yv105 =>
              intro W hW
              obtain ⟨hW0, hW1, hW2⟩ := hW
              go_simp
              try with_reducible rfl
            try simp only [Act.put, List.getElem_toArray, List.getElem_cons_succ, List.getElem_cons_zero, List.setIfInBounds_toArray, List.set_cons_zero, List.set_cons_succ]
            refine wpAnyU_take 5 (v := ?vv106) rfl (by kernel_rfl) (by kernel_rfl) (fun _ _ _ h => h) ⟨Gr.cell hgS k3, Gr.cell hgS k5, Gr.cell hgS k6⟩ (Or.inl ⟨rfl, ?yv106⟩) ?rv106
            case yv106 =>
              intro W hW
              obtain ⟨hW0, hW1, hW2⟩ := hW
              go_simp
              try with_reducible rfl
            try simp only [Act.put, List.getElem_toArray, List.getElem_cons_succ, List.getElem_cons_zero, List.setIfInBounds_toArray, List.set_cons_zero, List.set_cons_succ]
            refine wpAnyU_take 6 (v := ?vv107) rfl (by kernel_rfl) (by kernel_rfl) (fun _ _ _ h => h) ⟨Gr.cell hgS k3, Gr.cell hgS k5, Gr.cell hgS k6⟩ (Or.inl ⟨rfl, ?yv107⟩) ?rv107
            case yv107 =>
              intro W hW
              obtain ⟨hW0, hW1, hW2⟩ := hW
              go_simp
              try with_reducible rfl
            try simp only [Act.put, List.getElem_toArray, List.getElem_cons_succ, List.getElem_cons_zero, List.setIfInBounds_toArray, List.set_cons_zero, List.set_cons_succ]
            refine wpAnyU_take 8 (v := ?vv108) rfl (by kernel_rfl) (by kernel_rfl) (fun _ _ _ h => h) ⟨Gr.cell hgS k3, Gr.cell hgS k5, Gr.cell hgS k6⟩ (Or.inl ⟨rfl, ?yv108⟩) ?rv108
            case yv108 =>
              intro W hW
              obtain ⟨hW0, hW1, hW2⟩ := hW
              go_simp
              try with_reducible rfl
            try simp only [Act.put, List.getElem_toArray, List.getElem_cons_succ, List.getElem_cons_zero, List.setIfInBounds_toArray, List.set_cons_zero, List.set_cons_succ]
            refine wpAnyU_two 7 9 (by kernel_rfl) rfl rfl (fun K hK => ?_) (fun K hK => ?_)
            · refine step_callw rfl 65 Tryz.f65 Tryz.func65 (by kernel_rfl) (by kernel_rfl) _ _ rfl #[.slice xA st xc] (by simp [Act.eval]) ?_
              refine (copyValues_ok wd xA st xc (xsl.take st) ⟨hxp.out.gr hgS⟩ (by omega)).mono ?_
              rintro e u1 ⟨A2, c3, rfl, hz4⟩
              have g5 := Gr.trans hgS hz4.gr
              have hm6 := hmS.new hz4
              refine ⟨_, rfl, hK _ _ (fun _ => ⟨Gr.cell g5 k3, Gr.cell g5 k5, Gr.cell g5 k6⟩) ?_⟩
              clear hK K
              try simp only [Act.put, List.getElem_toArray, List.getElem_cons_succ, List.getElem_cons_zero, List.setIfInBounds_toArray, List.set_cons_zero, List.set_cons_succ]
              refine wpAnyU_one 9 (by kernel_rfl) rfl (fun K hK => ?_)
              go_simp
              have g10 := Gr.alloc g5 (.cells [.int .i64 v1, .int .i64 v2].toArray 36)
              have hm9 := hm6.gr (Gr.alloc (Gr.refl u1) (.cells [.int .i64 v1, .int .i64 v2].toArray 36))
              have r11 : RdC (u1.alloc (.cells [.int .i64 v1, .int .i64 v2].toArray 36)) 2 (.slice (some ⟨u1.heap.size, 0, none⟩) 1 1) (cV (v1, v2)) := RdC.lit _ (cV (v1, v2)) _ 1 2 rfl (by simp [maxLen]) (cV_one _)
              generalize u1.heap.size = a8 at r11 ⊢
              generalize u1.alloc (.cells [.int .i64 v1, .int .i64 v2].toArray 36) = u7 at g10 hm9 r11 ⊢
              refine hK _ _ (fun _ => ⟨Gr.cell g10 k3, Gr.cell g10 k5, Gr.cell g10 k6⟩) ?_
              clear hK K
              try simp only [Act.put, List.getElem_toArray, List.getElem_cons_succ, List.getElem_cons_zero, List.setIfInBounds_toArray, List.set_cons_zero, List.set_cons_succ]
              refine wpAnyU_one 10 (by kernel_rfl) rfl (fun K hK => ?_)
              refine step_appw rfl _ _ _ rfl 36 iV _ 2 16 ty_Vs vi vz0 vz1 vz2 rfl A2 st c3 _ rfl hm9 _ 1 1 (cV (v1, v2)) rfl r11 (by unfold maxLen; omega) (by omega) ?_
              intro A13 c14 u12 hm15
              have g16 := hm15.below
              have hme17 := hm8.join hm15
              obtain ⟨q3, q4⟩ := hme17.own_cell m1 (k * 3 + 2) hj2.out
              rw [← Nat.add_assoc] at q3 q4
              have hmf18 := hme17.swap.own_set (k * 3 + 2) (by rw [fR_len]; simp; omega) (.slice A13 (st + 1) c14) rfl
              rw [fR, flatMap_set cR 3 cR_len fr0 _ k 2 ⟨yfn, ypc, A13, st + 1, c14, xsl.take st ++ [(v1, v2)]⟩ _ (by simp; omega) (by omega) (by rw [getD_snoc_eq _ _ _ _ hy0.symm]; rfl), List.set_append_right _ _ (by omega), hy0, Nat.sub_self, List.set_cons_zero, ← Nat.add_assoc] at hmf18
              refine hK _ _ (fun _ => ⟨Gr.cell g16 k3, Gr.cell g16 k5, Gr.cell g16 k6⟩) ?_
              clear hK K
              try simp only [Act.put, List.getElem_toArray, List.getElem_cons_succ, List.getElem_cons_zero, List.setIfInBounds_toArray, List.set_cons_zero, List.set_cons_succ]
              refine wpAnyU_one 11 (by kernel_rfl) rfl (fun K hK => ?_)
              go_simp
              refine hK _ _ (fun h => absurd h (by decide)) ?_
              clear hK K
              refine wpAnyU_one 12 (by kernel_rfl) rfl (fun K hK => ?_)
              go_simp
              refine hK _ _ (fun h => absurd h (by decide)) ?_
              clear hK K
              refine wpAnyU_one 13 (by kernel_rfl) rfl (fun K hK => ?_)
              go_simp
              refine hK _ _ (fun h => absurd h (by decide)) ?_
              clear hK K
              refine wpAnyU_done (by kernel_rfl) ?_ _
              go_wp2
              try simp only [Act.put, List.getElem_toArray, List.getElem_cons_succ, List.getElem_cons_zero, List.setIfInBounds_toArray, List.set_cons_succ, List.set_cons_zero]
              go_meet
              case rel => exact ⟨_, _, by rw [fV_app]; exact hmf18⟩
            · go_simp
              have g22 := Gr.alloc hgS (.cells [.int .i64 v1, .int .i64 v2].toArray 36)
              have hm21 := hmS.gr (Gr.alloc (Gr.refl wd) (.cells [.int .i64 v1, .int .i64 v2].toArray 36))
              have r23 : RdC (wd.alloc (.cells [.int .i64 v1, .int .i64 v2].toArray 36)) 2 (.slice (some ⟨wd.heap.size, 0, none⟩) 1 1) (cV (v1, v2)) := RdC.lit _ (cV (v1, v2)) _ 1 2 rfl (by simp [maxLen]) (cV_one _)
              generalize wd.heap.size = a20 at r23 ⊢
              generalize wd.alloc (.cells [.int .i64 v1, .int .i64 v2].toArray 36) = u19 at g22 hm21 r23 ⊢
              refine hK _ _ (fun _ => ⟨Gr.cell g22 k3, Gr.cell g22 k5, Gr.cell g22 k6⟩) ?_
              clear hK K
              try simp only [Act.put, List.getElem_toArray, List.getElem_cons_succ, List.getElem_cons_zero, List.setIfInBounds_toArray, List.set_cons_zero, List.set_cons_succ]
              refine wpAnyU_one 7 (by kernel_rfl) rfl (fun K hK => ?_)
              refine step_callw rfl 65 Tryz.f65 Tryz.func65 (by kernel_rfl) (by kernel_rfl) _ _ rfl #[.slice xA st xc] (by simp [Act.eval]) ?_
              refine (copyValues_ok u19 xA st xc (xsl.take st) ⟨hxp.out.gr g22⟩ (by omega)).mono ?_
              rintro e u24 ⟨A25, c26, rfl, hz27⟩
              have g28 := Gr.trans g22 hz27.gr
              have hm29 := hm21.new hz27
              have r30 := r23.gr hz27.gr
              refine ⟨_, rfl, hK _ _ (fun _ => ⟨Gr.cell g28 k3, Gr.cell g28 k5, Gr.cell g28 k6⟩) ?_⟩
              clear hK K
              try simp only [Act.put, List.getElem_toArray, List.getElem_cons_succ, List.getElem_cons_zero, List.setIfInBounds_toArray, List.set_cons_zero, List.set_cons_succ]
              refine wpAnyU_one 10 (by kernel_rfl) rfl (fun K hK => ?_)
              refine step_appw rfl _ _ _ rfl 36 iV _ 2 16 ty_Vs vi vz0 vz1 vz2 rfl A25 st c26 _ rfl hm29 _ 1 1 (cV (v1, v2)) rfl r30 (by unfold maxLen; omega) (by omega) ?_
              intro A32 c33 u31 hm34
              have g35 := hm34.below
              have hme36 := hm8.join hm34
              obtain ⟨q3, q4⟩ := hme36.own_cell m1 (k * 3 + 2) hj2.out
              rw [← Nat.add_assoc] at q3 q4
              have hmf37 := hme36.swap.own_set (k * 3 + 2) (by rw [fR_len]; simp; omega) (.slice A32 (st + 1) c33) rfl
              rw [fR, flatMap_set cR 3 cR_len fr0 _ k 2 ⟨yfn, ypc, A32, st + 1, c33, xsl.take st ++ [(v1, v2)]⟩ _ (by simp; omega) (by omega) (by rw [getD_snoc_eq _ _ _ _ hy0.symm]; rfl), List.set_append_right _ _ (by omega), hy0, Nat.sub_self, List.set_cons_zero, ← Nat.add_assoc] at hmf37
              refine hK _ _ (fun _ => ⟨Gr.cell g35 k3, Gr.cell g35 k5, Gr.cell g35 k6⟩) ?_
              clear hK K
              try simp only [Act.put, List.getElem_toArray, List.getElem_cons_succ, List.getElem_cons_zero, List.setIfInBounds_toArray, List.set_cons_zero, List.set_cons_succ]
              refine wpAnyU_one 11 (by kernel_rfl) rfl (fun K hK => ?_)
              go_simp
              refine hK _ _ (fun h => absurd h (by decide)) ?_
              clear hK K
              refine wpAnyU_one 12 (by kernel_rfl) rfl (fun K hK => ?_)
              go_simp
              refine hK _ _ (fun h => absurd h (by decide)) ?_
              clear hK K
              refine wpAnyU_one 13 (by kernel_rfl) rfl (fun K hK => ?_)
              go_simp
              refine hK _ _ (fun h => absurd h (by decide)) ?_
              clear hK K
              refine wpAnyU_done (by kernel_rfl) ?_ _
              go_wp2
              try simp only [Act.put, List.getElem_toArray, List.getElem_cons_succ, List.getElem_cons_zero, List.setIfInBounds_toArray, List.set_cons_succ, List.set_cons_zero]
              go_meet
              case rel => exact ⟨_, _, by rw [fV_app]; exact hmf37⟩
        case rest =>
          obtain ⟨w9, rfl⟩ : ∃ w9 : World, w9 = wc := ⟨_, rfl⟩
          obtain ⟨C, cc', hm9⟩ := hcut
          have q4 := hm9.cell (g := g11) (t := 47) (fr := (0, 0)) (cs := [.string name, .int .i64 params, .int .i64 locals, .slice cA cn cc, .slice (some ⟨hb, ho, none⟩) hhn' hhc]) (by simp) 4 rfl
          have z2 : w9.cell? ⟨hb, ho + h * 4 + 2, none⟩ = some (.int .i64 x3) := rh0.out w9 hm9.below 2 _ rfl
          have hj4 : (fR (ys0 ++ [⟨yfn, ypc, C, st + 1, cc', xsl.take st ++ [(v1, v2)]⟩]))[k * 3 + 1]? = some (.int .i64 ypc) := by rw [fR, flatMap_at cR 3 cR_len _ k 1 (by omega), List.getElem?_append_right (by omega), hy0, Nat.sub_self]; rfl
          obtain ⟨o1, o2⟩ := hm9.own_cell m0 (k * 3 + 1) hj4
          rw [← Nat.add_assoc] at o1 o2
          have hm10 := hm9.own_set (k * 3 + 1) (by rw [fR_len]; simp; omega) (.int .i64 x3) rfl
          rw [fR, flatMap_set cR 3 cR_len fr0 _ k 1 ⟨yfn, x3, C, st + 1, cc', xsl.take st ++ [(v1, v2)]⟩ _ (by simp; omega) (by omega) (by rw [getD_snoc_eq _ _ _ _ hy0.symm]; rfl), List.set_append_right _ _ (by omega), hy0, Nat.sub_self, List.set_cons_zero, ← Nat.add_assoc] at hm10
          have hyl : yfn = (j : Int) := congrArg Prod.fst hyy.out.2
          have fin : Frames w (w9.setCell ⟨gA, oA + k * 3 + 1, none⟩ (.int .i64 x3)) (N + 1) ((xs.map Fr.data).take k ++ [((j : Int), x3, xsl.take st ++ [(v1, v2)])]) (.returned (.tuple #[.slice (some ⟨gA, oA, none⟩) (k + 1) c', .bool true])) := by
            refine ⟨some ⟨gA, oA, none⟩, k + 1, c', ys0 ++ [⟨yfn, x3, C, st + 1, cc', xsl.take st ++ [(v1, v2)]⟩], rfl, ?_, ?_, fun z hz => ?_⟩
            · rw [slots_app]
              have h3 : Mem w (w9.setCell ⟨gA, oA + k * 3 + 1, none⟩ (.int .i64 x3)) (Own 3 (.slice (some ⟨gA, oA, none⟩) (k + 1) c') (fR (ys0 ++ [⟨yfn, x3, C, st + 1, cc', xsl.take st ++ [(v1, v2)]⟩])) :: slot ⟨yfn, x3, C, st + 1, cc', xsl.take st ++ [(v1, v2)]⟩ :: (slots ys0 ++ (slot ⟨yfn, ypc, yA, yn, yc, ysl⟩ :: [Blk g11 (.cells [.string name, .int .i64 params, .int .i64 locals, .slice cA cn cc, .slice (some ⟨hb, ho, none⟩) hhn' hhc].toArray 47), Blk g9 (.cells [.int .i64 (j : Int), .int .i64 xpc, .slice xA xn xc].toArray 30), Blk (g + 1) (.cells [.int .i64 v1, .int .i64 v2].toArray 36), Blk g (.cells [.slice kA kn kc, .slice (some ⟨fb, fo, none⟩) fnn fc].toArray 26)]))) := hm10
              exact (h3.perm (.cons _ List.perm_middle.symm)).sub (.cons_cons _ (List.Sublist.append (List.Sublist.refl _) (.cons_cons _ (List.nil_sublist _))))
            · rw [List.map_append, hyy.out.1, List.map_take, hyl]; rfl
            · rcases List.mem_append.1 hz with hz | hz
              · have := hyn.out z (by simp [hz]); omega
              · simp at hz; subst hz; show st + 1 ≤ N + 1; omega
          have fin := Fact.mk fin
          clear hm10 hj4
          go_wp2
          go_ret2
          rw [hFinal.out]
          exact fin.out
end Go.Proofs.YtgflfpepfpekhaaGreat
namespace Go.Proofs.YtgflfpepfpekhaaGreat
open Go.RowKit Go.Mm Go.WideShapes
set_option maxHeartbeats 16000000
set_option maxRecDepth 100000
set_option linter.unusedSimpArgs false
theorem catch_own {w w' : World} {N : Nat} {r : Option (List FrD)} {e : Ending} (h : CatchR w w' N r e) : ∃ (b : Bool) (A : Option Addr) (n c : Nat) (zs : List Fr), e = .returned (.tuple #[.slice A n c, .bool b]) ∧ Fact (b = r.isSome) ∧ Mem w w' (Own 3 (.slice A n c) (fR zs) :: slots zs) ∧ zs.map Fr.data = r.getD [] ∧ ∀ z, z ∈ zs → z.n ≤ N := by
  cases r with
  | none =>
    obtain ⟨rfl, hg⟩ := h
    exact ⟨false, none, 0, 0, [], rfl, ⟨rfl⟩, ((Mem.start w).gr hg).nil 3 none, rfl, by simp⟩
  | some D =>
    obtain ⟨A, n, c, zs, rfl, hm, hd, hn⟩ := h
    exact ⟨true, A, n, c, zs, rfl, ⟨rfl⟩, hm, hd, hn⟩
theorem takesG_lent {w : World} {p : Pg} {KA : Option Addr} {kc : Nat} {FA : Option Addr} {fc : Nat} {hs : List Fn} (h : LentOk w p KA kc FA fc hs) (hp : PgOk w p) (fn pc : Int) (m : Nat) :
    takesG (fnAt (lentP p KA kc FA fc hs) fn) pc m = takesG (fnAt p fn) pc m := by
  have hfl : p.fns.length = p.fn := rd_len cF_len (by omega) hp.fns
  have hl := h.len
  unfold fnAt lentP
  by_cases hi : 0 ≤ fn ∧ fn < p.fn
  · simp only [if_pos hi]
    have e : (List.zipWith lentF p.fns hs).getD fn.toNat fn0 = lentF (p.fns.getD fn.toNat fn0) (hs.getD fn.toNat fn0) := by
      have h1 := getD_some p.fns fn0 fn.toNat (by omega)
      have h2 := getD_some hs fn0 fn.toNat (by omega)
      rw [List.getD_eq_getElem?_getD, List.getElem?_zipWith, h1, h2]
      rfl
    rw [e]
    rfl
  · simp only [if_neg hi]
theorem catchD_lent {w : World} {p : Pg} {KA : Option Addr} {kc : Nat} {FA : Option Addr} {fc : Nat} {hs : List Fn} (h : LentOk w p KA kc FA fc hs) (hp : PgOk w p) (v : V2) (D : List FrD) : ∀ n, catchD (lentP p KA kc FA fc hs) v D n = catchD p v D n
  | 0 => rfl
  | n + 1 => by rw [catchD, catchD, takesG_lent h hp, catchD_lent h hp v D n]
theorem catch_walk (w : World) (p : Pg) (hp : Fact (PgOk w p)) (hk : p.kn ≤ 1048576) (N : Nat) (A : Option Addr) (n c : Nat) (xs : List Fr) (hx : Fact (FrsOk N w A n c xs)) (hn : n ≤ 1048576) (hN : N ≤ 1048576) (v1 v2 : Int) :
    Calls Tryz.prog 25 #[vP p, .slice A n c, .agg #[.int .i64 v1, .int .i64 v2]] w fun e w' => e = .returned (.bool true) ∧ Gr w w' := by
  have hxl : Fact (xs.length = n) := ⟨hx.out.len⟩
  have hcatR := Fact.mk (fun (W : World) (hg : Gr w W) (N : Nat) (A : Option Addr) (n c : Nat) (xs : List Fr) (hx : Fact (FrsOk N W A n c xs)) (hn : n ≤ 1048577) (hN : N ≤ 1999999) => (refCatch_ok W p ⟨hp.out.gr hg⟩ N A n c xs hx (v1, v2) hn hN).mono (fun _ _ h => catch_own h))
  have hcatQ := Fact.mk (fun (W : World) (hg : Gr w W) KA kc FA fc hs (hL : LentOk W p KA kc FA fc hs) (N : Nat) (A : Option Addr) (n c : Nat) (xs : List Fr) (hx : Fact (FrsOk N W A n c xs)) (hn : n ≤ 1048577) (hN : N ≤ 1999999) => (catch_ok W (lentP p KA kc FA fc hs) ⟨hL.pg (hp.out.gr hg)⟩ N A n c xs hx (v1, v2) hn hN).mono (fun _ _ h => by rw [catchD_lent hL (hp.out.gr hg)] at h; exact catch_own h))
  have hlent := fun (w1 : World) (hg : Gr w w1) => lentProgram_ok w1 p ⟨hp.out.gr hg⟩ hk
  have hkept := Fact.mk (fun (w1 : World) (hg : Gr w w1) KA kc FA fc hs (hL : LentOk w1 p KA kc FA fc hs) => keptProgram_ok w1 p ⟨hp.out.gr hg⟩ hk KA kc FA fc hs ⟨hL⟩)
  obtain ⟨kA, kn, kc, consts, fA, fnn, fc, fns⟩ := p
  simp only [vP] at hlent ⊢
  have hlent := Fact.mk hlent
  go_enter Tryz.func25, Tryz.ntmps25
  go_upto_region 1 with (fail)
  have hm := (((Mem.start w).alloc (.cells [.slice kA kn kc, .slice fA fnn fc].toArray 26)).alloc (.cells [.int .i64 v1, .int .i64 v2].toArray 36))
  simp only [World.size_alloc] at hm
  generalize hgX : w.heap.size = g at hm ⊢
  generalize hwX : ((w.alloc (.cells [.slice kA kn kc, .slice fA fnn fc].toArray 26)).alloc (.cells [.int .i64 v1, .int .i64 v2].toArray 36)) = w1 at hm
  try refine wp_world hwX ?_
  clear hwX hgX
  go_wp2_with (refine wp_rng rfl 26 _ rfl g 0 rfl [.slice kA kn kc, .slice fA fnn fc] (rng_blk hm m1) row_P szP ?_)
  refine (hlent.out w1 hm.below).mono ?_
  rintro e wb ⟨KA, kc', FA, fc', hsP, rfl, hgb, hL⟩
  have hmb := hm.gr hgb
  have hgw := Fact.mk hmb.below
  clear hm hgb
  simp only [vP, lentP]
  go_upto_region 2 with (refine wp_setrow rfl 26 _ _ rfl _ rfl 26 _ [.slice KA kn kc', .slice FA fnn fc'] rfl ((Mem.start wb).alloc _) szP rfl (svone _ _) ?_; intro w2 hm2)
  generalize wb.heap.size = g7 at hm2 ⊢
  have hgb2 := hm2.below
  have hg0 := Fact.mk (Gr.trans hgw.out hgb2)
  have hL := Fact.mk (hL.gr hgb2)
  have hmb := Fact.mk (hmb.gr hgb2)
  have k52 : Fact (w2.cell? ⟨g + 1, 0, none⟩ = some (.int .i64 v1)) := ⟨hmb.out.cell m0 0 rfl⟩
  have k62 : Fact (w2.cell? ⟨g + 1, 1, none⟩ = some (.int .i64 v2)) := ⟨hmb.out.cell m0 1 rfl⟩
  have hm2 := hm2.gr (Gr.refl w2)
  obtain ⟨wo, hwo⟩ : ∃ wo : World, wo = w2 := ⟨_, rfl⟩
  have hq : Fact (∀ W, Gr w2 W → W.rangeAt g7 0 [.slice KA kn kc', .slice FA fnn fc']) := ⟨fun W h => rng_blk (hm2.gr h) m0⟩
  have hpr : Fact (∀ W, Gr w2 W → W.rangeAt g 0 [.slice kA kn kc, .slice fA fnn fc]) := ⟨fun W h => rng_blk (hmb.out.gr h) m1⟩
  clear hm2 hgb2 hgw hwo hlent hmb
  go_wp2_with fail
  refine (lentFrames_ok w2 N A n c xs ⟨hx.out.gr hg0.out⟩ hn (by omega)).mono ?_
  rintro e w3 ⟨B, d, hs, rfl, hm3, hhl, hfu⟩
  have hcd := OwnAt.cap (hm3.ok _ m0)
  obtain ⟨gb, ob, rfl⟩ := OwnAt.addr (hm3.ok _ m0) (by omega)
  obtain ⟨hio, hid⟩ := insOk_of hx.out hhl hfu
  generalize List.zipWith lentR xs hs = ins at hm3 hio hid
  have hio := Fact.mk hio
  have hid := Fact.mk hid
  have hnd : n ≤ d := by omega
  clear hhl hfu hcd
  have k5 := Gr.cell hm3.below k52.out
  have k6 := Gr.cell hm3.below k62.out
  go_wp2_with (refine wp_rng rfl 26 _ rfl g 0 rfl [.slice kA kn kc, .slice fA fnn fc] (hpr.out _ hm3.below) row_P szP ?_)
  refine (hcatR.out w3 (Gr.trans hg0.out hm3.below) N A n c xs ⟨hx.out.gr (Gr.trans hg0.out hm3.below)⟩ (by omega) (by omega)).mono ?_
  rintro e w4 ⟨b1, R, rn, rc, zr, rfl, hb1, hm4, hdr, hnr⟩
  have hm4 := hm3.join hm4
  clear hm3 k5 k6
  have k5 := Gr.cell hm4.below k52.out
  have k6 := Gr.cell hm4.below k62.out
  go_wp2_with (refine wp_rng rfl 26 _ rfl g7 0 rfl [.slice KA kn kc', .slice FA fnn fc'] (hq.out _ hm4.below) row_P szP ?_)
  refine (hcatQ.out w4 (Gr.trans hg0.out hm4.below) KA kc' FA fc' hsP (hL.out.gr hm4.below) N (some ⟨gb, ob, none⟩) n d ins ⟨(hio.out.lent hm4 (List.mem_append_right _ m0) (fun x h => List.mem_append_right _ (.tail _ (slots_mem h)))).frs⟩ (by omega) (by omega)).mono ?_
  rintro e w5 ⟨b1', G, gn, gc, z1, rfl, hb1', hm5, hd1, hn1⟩
  rw [hid.out] at hb1' hd1
  obtain rfl : b1' = b1 := hb1'.out.trans hb1.out.symm
  have hm5 := mem_front (hm4.join hm5)
  clear hm4 k5 k6
  have hdd : Fact (z1.map Fr.data = zr.map Fr.data) := ⟨hd1.trans hdr.symm⟩
  have hgr : gn = rn := by
    have h1 : z1.length = gn := rd_len cR_len (by omega) (hm5.rd (.tail _ (List.mem_append_left _ (List.mem_append_left _ m0))))
    have h2 : zr.length = rn := rd_len cR_len (by omega) (hm5.rd (.tail _ (List.mem_append_left _ (List.mem_append_right _ m0))))
    have h3 := data_len hdd.out
    omega
  have hrn : rn ≤ n := by
    have h2 : zr.length = rn := rd_len cR_len (by omega) (hm5.rd (.tail _ (List.mem_append_left _ (List.mem_append_right _ m0))))
    have h3 := congrArg List.length hdr
    have h4 := catchD_len ⟨kA, kn, kc, consts, fA, fnn, fc, fns⟩ (v1, v2) (xs.map Fr.data) n
    have h5 := hxl.out
    rw [← h3, List.length_map] at h4
    omega
  subst hgr
  have hn1 := Fact.mk hn1
  have hnr := Fact.mk hnr
  have hf1 : Fact (∀ W C, Mem w2 W (C :: (((Own 3 (.slice G gn gc) (fR z1) :: slots z1) ++ (Own 3 (.slice R gn rc) (fR zr) :: slots zr)) ++ slots hs)) → FrsOk (N + 1) W G gn gc z1 ∧ FrsOk (N + 1) W R gn rc zr) := ⟨fun W C h => ⟨frs_mem h (.tail _ (List.mem_append_left _ (List.mem_append_left _ m0))) (fun z hz => .tail _ (List.mem_append_left _ (List.mem_append_left _ (.tail _ (slots_mem hz))))) hn1.out, frs_mem h (.tail _ (List.mem_append_left _ (List.mem_append_right _ m0))) (fun z hz => .tail _ (List.mem_append_left _ (List.mem_append_right _ (.tail _ (slots_mem hz))))) hnr.out⟩⟩
  clear hd1 hdr hb1 hb1'
  cases b1'
  all_goals
    go_wp2_with fail
    refine (sameFrames_ok w5 G R (N + 1) gn gc rc z1 zr ⟨(hf1.out _ _ hm5).1⟩ ⟨(hf1.out _ _ hm5).2⟩ hdd (by omega) (by omega)).mono ?_
    rintro e w6 ⟨rfl, hg6⟩
    have hm6 := hm5.gr hg6
    clear hg6 hm5
    go_wp2_with (first | (refine wp_rng rfl 26 _ rfl g7 0 rfl [.slice KA kn kc', .slice FA fnn fc'] (hq.out _ hm6.below) row_P szP ?_) | (refine wp_rng rfl 26 _ rfl g 0 rfl [.slice kA kn kc, .slice fA fnn fc] (hpr.out _ hm6.below) row_P szP ?_))
    refine (hkept.out w6 (Gr.trans hg0.out hm6.below) KA kc' FA fc' hsP (hL.out.gr hm6.below)).mono ?_
    rintro e w7 ⟨rfl, hg7⟩
    have hm7 := hm6.gr hg7
    clear hg7 hm6
    go_wp2_with fail
    refine (keptFrames_ok w7 N (some ⟨gb, ob, none⟩) n d ins hs ⟨hio.out.lent hm7 m0 (fun x h => .tail _ (List.mem_append_right _ (slots_mem h)))⟩ A c xs ⟨hx.out.gr (Gr.trans hg0.out hm7.below)⟩ hid hn (by omega)).mono ?_
    rintro e w8 ⟨rfl, hg8⟩
    have hm8 := hm7.gr hg8
    clear hg8 hm7
    by_cases hz0 : n = 0
  focus
    have e7 : (0 < n) = False := eq_false (by omega)
    clear hz0
    go_upto_region 9 with (fail)
    obtain ⟨w9, hw9⟩ : ∃ w9 : World, w9 = w8 := ⟨_, rfl⟩
    obtain ⟨ins9, hi9⟩ : ∃ J, J = ins := ⟨_, rfl⟩
    rw [← hw9, ← hi9] at hm8
    rw [← hw9]
    rw [← hi9] at hio
    have hm9 := hm8
    have hio9 := hio
    clear hw9 hi9 e7 hm8 hio hid
  rotate_left
  focus
    obtain ⟨q, hqn⟩ : ∃ q, Fact (n = q + 1) := ⟨n - 1, ⟨by omega⟩⟩
    have hq1 : q < n := by have := hqn.out; omega
    have hil : ins.length = n := hio.out.l1
    have e7 : (0 < n) = True := eq_true (by omega)
    have e8 : ((n : Int) - 1) = (q : Int) := by have := hqn.out; omega
    clear hz0
    have hql : q < (ins ++ (hs ++ marksR n 64)).length := by rw [List.length_append]; omega
    have hqe : (ins ++ (hs ++ marksR n 64)).getD q fr0 = ins.getD q fr0 := by rw [List.getD_eq_getElem?_getD, List.getElem?_append_left (by omega), ← List.getD_eq_getElem?_getD]
    have hj0 : (fR (ins ++ (hs ++ marksR n 64)))[q * 3 + 1]? = some (.int .i64 (ins.getD q fr0).pc) := by rw [fR, flatMap_at cR 3 cR_len _ q 1 (by omega), getD_some _ fr0 q hql, hqe]; rfl
    obtain ⟨g1, g2⟩ := hm8.own_cell m0 (q * 3 + 1) hj0
    have hm9 := hm8.own_set (q * 3 + 1) (by rw [fR_len]; omega) (.int .i64 (wrap64 ((ins.getD q fr0).pc + 1))) rfl
    rw [fR_pc _ q _ hql, hqe, List.set_append_left q _ (by omega)] at hm9
    have hio9 := Fact.mk (hio.out.set q hq1 { ins.getD q fr0 with pc := wrap64 ((ins.getD q fr0).pc + 1) } ⟨rfl, rfl, rfl, rfl⟩)
    rw [← Nat.add_assoc] at g1 g2 hm9
    generalize ins.set q { ins.getD q fr0 with pc := wrap64 ((ins.getD q fr0).pc + 1) } = ins9 at hm9 hio9
    generalize (ins.getD q fr0).pc = qf at g1 g2 hm9
    go_upto_region 9 with (fail)
    generalize w8.setCell _ _ = w9 at hm9 ⊢
    clear g1 g2 hj0 hqe hql e8 e7 hil hm8 hio hid hqn hq1
  rotate_left
  focus
    have e7 : (0 < n) = False := eq_false (by omega)
    clear hz0
    go_upto_region 9 with (fail)
    obtain ⟨w9, hw9⟩ : ∃ w9 : World, w9 = w8 := ⟨_, rfl⟩
    obtain ⟨ins9, hi9⟩ : ∃ J, J = ins := ⟨_, rfl⟩
    rw [← hw9, ← hi9] at hm8
    rw [← hw9]
    rw [← hi9] at hio
    have hm9 := hm8
    have hio9 := hio
    clear hw9 hi9 e7 hm8 hio hid
  rotate_left
  focus
    obtain ⟨q, hqn⟩ : ∃ q, Fact (n = q + 1) := ⟨n - 1, ⟨by omega⟩⟩
    have hq1 : q < n := by have := hqn.out; omega
    have hil : ins.length = n := hio.out.l1
    have e7 : (0 < n) = True := eq_true (by omega)
    have e8 : ((n : Int) - 1) = (q : Int) := by have := hqn.out; omega
    clear hz0
    have hql : q < (ins ++ (hs ++ marksR n 64)).length := by rw [List.length_append]; omega
    have hqe : (ins ++ (hs ++ marksR n 64)).getD q fr0 = ins.getD q fr0 := by rw [List.getD_eq_getElem?_getD, List.getElem?_append_left (by omega), ← List.getD_eq_getElem?_getD]
    have hj0 : (fR (ins ++ (hs ++ marksR n 64)))[q * 3 + 1]? = some (.int .i64 (ins.getD q fr0).pc) := by rw [fR, flatMap_at cR 3 cR_len _ q 1 (by omega), getD_some _ fr0 q hql, hqe]; rfl
    obtain ⟨g1, g2⟩ := hm8.own_cell m0 (q * 3 + 1) hj0
    have hm9 := hm8.own_set (q * 3 + 1) (by rw [fR_len]; omega) (.int .i64 (wrap64 ((ins.getD q fr0).pc + 1))) rfl
    rw [fR_pc _ q _ hql, hqe, List.set_append_left q _ (by omega)] at hm9
    have hio9 := Fact.mk (hio.out.set q hq1 { ins.getD q fr0 with pc := wrap64 ((ins.getD q fr0).pc + 1) } ⟨rfl, rfl, rfl, rfl⟩)
    rw [← Nat.add_assoc] at g1 g2 hm9
    generalize ins.set q { ins.getD q fr0 with pc := wrap64 ((ins.getD q fr0).pc + 1) } = ins9 at hm9 hio9
    generalize (ins.getD q fr0).pc = qf at g1 g2 hm9
    go_upto_region 9 with (fail)
    generalize w8.setCell _ _ = w9 at hm9 ⊢
    clear g1 g2 hj0 hqe hql e8 e7 hil hm8 hio hid hqn hq1
  rotate_left
  · skip
    have k5 := Gr.cell hm9.below k52.out
    have k6 := Gr.cell hm9.below k62.out
    have k1 : w9.cell? ⟨g, 0, none⟩ = some (.slice kA kn kc) := hpr.out _ hm9.below 0 _ rfl
    have k2 : w9.cell? ⟨g, 1, none⟩ = some (.slice fA fnn fc) := hpr.out _ hm9.below 1 _ rfl
    have hfi : Fact (FrsOk N w9 (some ⟨gb, ob, none⟩) n d ins9) := ⟨(hio9.out.lent hm9 m0 (fun x h => .tail _ (List.mem_append_right _ (slots_mem h)))).frs⟩
    go_cut [13, 14] (fun s13 s14 W => ∃ (b : Bool) (A9 : Option Addr) (n9 c9 : Nat) (zs : List Fr), s13 = .slice A9 n9 c9 ∧ s14 = .bool b ∧ Gr w9 W ∧ FrsOk (N + 1) W A9 n9 c9 zs ∧ Fact (b = (catchD ⟨kA, kn, kc, consts, fA, fnn, fc, fns⟩ (v1, v2) (ins9.map Fr.data) n).isSome) ∧ Fact (zs.map Fr.data = (catchD ⟨kA, kn, kc, consts, fA, fnn, fc, fns⟩ (v1, v2) (ins9.map Fr.data) n).getD []))
    case first =>
      as_aux_lemma =>
        have hgS := (Gr.refl w9).drew
        have hmS := (Mem.start w9).drew
        refine wp_region_until (S := fun W => W.cell? ⟨g, 0, none⟩ = some (.slice kA kn kc) ∧ W.cell? ⟨g, 1, none⟩ = some (.slice fA fnn fc) ∧ W.cell? ⟨g + 1, 0, none⟩ = some (.int .i64 v1) ∧ W.cell? ⟨g + 1, 1, none⟩ = some (.int .i64 v2)) 9 (by kernel_rfl) ?_
        generalize w9.drew = wd at hgS hmS ⊢
        refine wpAnyU_take 0 (v := ?vv91) rfl (by kernel_rfl) (by kernel_rfl) (fun _ _ _ h => h) ⟨Gr.cell hgS k1, Gr.cell hgS k2, Gr.cell hgS k5, Gr.cell hgS k6⟩ (Or.inl ⟨rfl, ?yv91⟩) ?rv91
        case yv91 =>
          intro W hW
          obtain ⟨hW0, hW1, hW2, hW3⟩ := hW
          go_simp
          try with_reducible rfl
        try simp only [Act.put, List.getElem_toArray, List.getElem_cons_succ, List.getElem_cons_zero, List.setIfInBounds_toArray, List.set_cons_zero, List.set_cons_succ]
        refine wpAnyU_take 1 (v := ?vv92) rfl (by kernel_rfl) (by kernel_rfl) (fun _ _ _ h => h) ⟨Gr.cell hgS k1, Gr.cell hgS k2, Gr.cell hgS k5, Gr.cell hgS k6⟩ (Or.inl ⟨rfl, ?yv92⟩) ?rv92
        case yv92 =>
          intro W hW
          obtain ⟨hW0, hW1, hW2, hW3⟩ := hW
          go_simp
          try with_reducible rfl
        try simp only [Act.put, List.getElem_toArray, List.getElem_cons_succ, List.getElem_cons_zero, List.setIfInBounds_toArray, List.set_cons_zero, List.set_cons_succ]
        refine wpAnyU_take 3 (v := ?vv93) rfl (by kernel_rfl) (by kernel_rfl) (fun _ _ _ h => h) ⟨Gr.cell hgS k1, Gr.cell hgS k2, Gr.cell hgS k5, Gr.cell hgS k6⟩ (Or.inl ⟨rfl, ?yv93⟩) ?rv93
        case yv93 =>
          intro W hW
          obtain ⟨hW0, hW1, hW2, hW3⟩ := hW
          go_simp
          try with_reducible rfl
        try simp only [Act.put, List.getElem_toArray, List.getElem_cons_succ, List.getElem_cons_zero, List.setIfInBounds_toArray, List.set_cons_zero, List.set_cons_succ]
        refine wpAnyU_one 2 (by kernel_rfl) rfl (fun K hK => ?_)
        refine step_callw rfl 46 Tryz.f46 Tryz.func46 (by kernel_rfl) (by kernel_rfl) _ _ rfl #[.slice (some ⟨gb, ob, none⟩) n d] (by simp [Act.eval]) ?_
        refine (copyFrames_ok wd N (some ⟨gb, ob, none⟩) n d ins9 ⟨hfi.out.gr hgS⟩ (by omega) (by omega)).mono ?_
        rintro e u1 ⟨A2, c3, ys4, rfl, hz5, hd6, hn7⟩
        have g8 := Gr.trans hgS hz5.below
        have hf9 : FrsOk N u1 A2 n c3 ys4 := frs_ofU hz5 hn7
        refine ⟨_, rfl, hK _ _ (fun _ => ⟨Gr.cell g8 k1, Gr.cell g8 k2, Gr.cell g8 k5, Gr.cell g8 k6⟩) ?_⟩
        clear hK K
        try simp only [Act.put, List.getElem_toArray, List.getElem_cons_succ, List.getElem_cons_zero, List.setIfInBounds_toArray, List.set_cons_zero, List.set_cons_succ]
        refine wpAnyU_one 4 (by kernel_rfl) rfl (fun K hK => ?_)
        refine step_callw rfl 44 Tryz.f44 Tryz.func44 (by kernel_rfl) (by kernel_rfl) _ _ rfl #[.agg #[.slice kA kn kc, .slice fA fnn fc], .slice A2 n c3, .agg #[.int .i64 v1, .int .i64 v2]] (by simp [Act.eval]) ?_
        refine (hcatR.out u1 (Gr.trans hg0.out (Gr.trans hm9.below g8)) N A2 n c3 ys4 ⟨hf9⟩ (by omega) (by omega)).mono ?_
        rintro e u10 ⟨b11, A12, m13, c14, zs15, rfl, hb16, hz17, hd18, hn19⟩
        have g20 := Gr.trans g8 hz17.below
        have hf21 := frs_ofU hz17 hn19
        refine ⟨_, rfl, hK _ _ (fun _ => ⟨Gr.cell g20 k1, Gr.cell g20 k2, Gr.cell g20 k5, Gr.cell g20 k6⟩) ?_⟩
        clear hK K
        try simp only [Act.put, List.getElem_toArray, List.getElem_cons_succ, List.getElem_cons_zero, List.setIfInBounds_toArray, List.set_cons_zero, List.set_cons_succ]
        refine wpAnyU_take 5 (v := ?vv94) rfl (by kernel_rfl) (by kernel_rfl) (fun _ _ _ h => h) ⟨Gr.cell g20 k1, Gr.cell g20 k2, Gr.cell g20 k5, Gr.cell g20 k6⟩ (Or.inl ⟨rfl, ?yv94⟩) ?rv94
        case yv94 =>
          intro W hW
          obtain ⟨hW0, hW1, hW2, hW3⟩ := hW
          go_simp
          try with_reducible rfl
        try simp only [Act.put, List.getElem_toArray, List.getElem_cons_succ, List.getElem_cons_zero, List.setIfInBounds_toArray, List.set_cons_zero, List.set_cons_succ]
        refine wpAnyU_take 6 (v := ?vv95) rfl (by kernel_rfl) (by kernel_rfl) (fun _ _ _ h => h) ⟨Gr.cell g20 k1, Gr.cell g20 k2, Gr.cell g20 k5, Gr.cell g20 k6⟩ (Or.inl ⟨rfl, ?yv95⟩) ?rv95
        case yv95 =>
          intro W hW
          obtain ⟨hW0, hW1, hW2, hW3⟩ := hW
          go_simp
          try with_reducible rfl
        try simp only [Act.put, List.getElem_toArray, List.getElem_cons_succ, List.getElem_cons_zero, List.setIfInBounds_toArray, List.set_cons_zero, List.set_cons_succ]
        refine wpAnyU_take 7 (v := ?vv96) rfl (by kernel_rfl) (by kernel_rfl) (fun _ _ _ h => h) ⟨Gr.cell g20 k1, Gr.cell g20 k2, Gr.cell g20 k5, Gr.cell g20 k6⟩ (Or.inl ⟨rfl, ?yv96⟩) ?rv96
        case yv96 =>
          intro W hW
          obtain ⟨hW0, hW1, hW2, hW3⟩ := hW
          go_simp
          try with_reducible rfl
        try simp only [Act.put, List.getElem_toArray, List.getElem_cons_succ, List.getElem_cons_zero, List.setIfInBounds_toArray, List.set_cons_zero, List.set_cons_succ]
        refine wpAnyU_take 8 (v := ?vv97) rfl (by kernel_rfl) (by kernel_rfl) (fun _ _ _ h => h) ⟨Gr.cell g20 k1, Gr.cell g20 k2, Gr.cell g20 k5, Gr.cell g20 k6⟩ (Or.inl ⟨rfl, ?yv97⟩) ?rv97
        case yv97 =>
          intro W hW
          obtain ⟨hW0, hW1, hW2, hW3⟩ := hW
          go_simp
          try with_reducible rfl
        try simp only [Act.put, List.getElem_toArray, List.getElem_cons_succ, List.getElem_cons_zero, List.setIfInBounds_toArray, List.set_cons_zero, List.set_cons_succ]
        refine wpAnyU_one 9 (by kernel_rfl) rfl (fun K hK => ?_)
        go_simp
        refine hK _ _ (fun h => absurd h (by decide)) ?_
        clear hK K
        refine wpAnyU_done (by kernel_rfl) ?_ _
        go_wp2
        try simp only [Act.put, List.getElem_toArray, List.getElem_cons_succ, List.getElem_cons_zero, List.setIfInBounds_toArray, List.set_cons_succ, List.set_cons_zero]
        go_meet
        case rel => exact ⟨_, _, _, _, _, rfl, rfl, g20, hf21, ⟨by rw [← hd6]; exact hb16.out⟩, ⟨by rw [← hd6]; exact hd18⟩⟩
    case rest =>
      obtain ⟨w10, rfl⟩ : ∃ w10 : World, w10 = wc := ⟨_, rfl⟩
      obtain ⟨b2, W2, wn, wk, zw, rfl, rfl, hg10, hfw, hb2, hdw⟩ := hcut
      have hfw := Fact.mk hfw
      have hm10 := hm9.gr hg10
      clear hm9 hg10 k5 k6 k1 k2 hfi
      have k5 := Gr.cell hm10.below k52.out
      have k6 := Gr.cell hm10.below k62.out
      go_wp2_with (refine wp_rng rfl 26 _ rfl g7 0 rfl [.slice KA kn kc', .slice FA fnn fc'] (hq.out _ hm10.below) row_P szP ?_)
      refine (hcatQ.out w10 (Gr.trans hg0.out hm10.below) KA kc' FA fc' hsP (hL.out.gr hm10.below) N (some ⟨gb, ob, none⟩) n d ins9 ⟨(hio9.out.lent hm10 m0 (fun x h => .tail _ (List.mem_append_right _ (slots_mem h)))).frs⟩ (by omega) (by omega)).mono ?_
      rintro e w11 ⟨b2', H, hn2, hc, z2, rfl, hb2', hm11, hd2, hz2⟩
      obtain rfl : b2' = b2 := hb2'.out.trans hb2.out.symm
      clear hb2 hb2'
      have hfw := Fact.mk (hfw.out.gr hm11.below)
      have hm11 := hm10.join hm11
      clear hm10 k5 k6
      have hz2 := Fact.mk hz2
      have hd2 := Fact.mk (hd2.trans hdw.out.symm)
      have hf2 : FrsOk (N + 1) w11 H hn2 hc z2 := frs_mem hm11 m0 (fun z hz => List.mem_append_left _ (.tail _ (slots_mem hz))) hz2.out
      have hnw : hn2 = wn := by
        have h1 := hf2.len
        have h2 := hfw.out.len
        have h3 := data_len hd2.out
        omega
      subst hnw
      have hn2b : hn2 ≤ n := by
        have h1 := hfw.out.len
        have h2 := congrArg List.length hdw.out
        have h3 := catchD_len ⟨kA, kn, kc, consts, fA, fnn, fc, fns⟩ (v1, v2) (ins9.map Fr.data) n
        rw [← h2, List.length_map] at h3
        omega
      have hf2 := Fact.mk hf2
      clear hdw
      cases b2'
      all_goals
        go_wp2_with fail
        refine (sameFrames_ok w11 H W2 (N + 1) hn2 hc wk z2 zw hf2 hfw hd2 (by omega) (by omega)).mono ?_
        rintro e w12 ⟨rfl, hg12⟩
        have hm12 := hm11.gr hg12
        clear hm11 hg12 hfw hf2
        have hm12' := hm12.sub (List.sublist_append_right _ _)
        go_wp2_with fail
        refine (sameFrames_ok w12 G R (N + 1) gn gc rc z1 zr ⟨(hf1.out _ _ hm12').1⟩ ⟨(hf1.out _ _ hm12').2⟩ hdd (by omega) (by omega)).mono ?_
        rintro e w13 ⟨rfl, hg13⟩
        have hm13 := hm12.gr hg13
        clear hm12 hg13 hm12' hf1
        have hm13' := hm13.sub (List.sublist_append_right _ _)
        have hfi : Fact (FrsOk N w13 (some ⟨gb, ob, none⟩) n d ins9) := ⟨(hio9.out.lent hm13' m0 (fun x h => .tail _ (List.mem_append_right _ (slots_mem h)))).frs⟩
        clear hm13'
        go_wp2_with fail
        refine (copyFrames_ok w13 N (some ⟨gb, ob, none⟩) n d ins9 hfi (by omega) (by omega)).mono ?_
        rintro e w14 ⟨NA, nc, nx, rfl, hm14, hdn, hnn⟩
        have hm14 := hm13.join hm14
        have hdn := Fact.mk hdn
        have hnn := Fact.mk hnn
        clear hm13 hfi
        go_wp2_with fail
        have hA := hm14.alloc (.cells [.slice G gn gc, .slice H hn2 hc].toArray 38)
        have hA := hA.sub (L' := Blk w14.heap.size _ :: ((Own 3 (.slice NA n nc) (fR nx) :: slots nx) ++ ((Own 3 (.slice H hn2 hc) (fR z2) :: slots z2) ++ (Own 3 (.slice (some ⟨gb, ob, none⟩) (n + n + 64) d) (fR (ins9 ++ (hs ++ marksR n 64))) :: ((Own 3 (.slice G gn gc) (fR z1) :: slots z1) ++ slots hs))))) (.cons_cons _ (List.Sublist.append_left (List.Sublist.append_left (.cons_cons _ (List.Sublist.append_right (List.sublist_append_left _ _) _)) _) _))
        have hA := Mem.blk_own (n := 2) (size := 1) hA rfl (by simp [maxLen]) (lvs_one [⟨G, gn, gc, z1⟩, ⟨H, hn2, hc, z2⟩])
        have hA := hA.perm (perm_apart _ _ _ _ _ _ _ _)
        have hA' : Mem w2 (w14.alloc (.cells [.slice G gn gc, .slice H hn2 hc].toArray 38)) (slots ([⟨G, gn, gc, z1⟩, ⟨H, hn2, hc, z2⟩].flatMap FL.fs) ++ ([⟨G, gn, gc, z1⟩, ⟨H, hn2, hc, z2⟩].map lst ++ (Own 1 (.slice (some ⟨w14.heap.size, 0, none⟩) 2 2) (lvs [⟨G, gn, gc, z1⟩, ⟨H, hn2, hc, z2⟩]) :: (Own 3 (.slice (some ⟨gb, ob, none⟩) (n + n + 64) d) (fR (ins9 ++ (hs ++ marksR n 64))) :: (slots hs ++ (Own 3 (.slice NA n nc) (fR nx) :: slots nx)))))) := by
          simp only [List.flatMap_cons, List.flatMap_nil, List.append_nil, slots_app]
          exact hA
        refine (apartFrames_ok w2 _ (some ⟨w14.heap.size, 0, none⟩) 2 2 (N + 1) [⟨G, gn, gc, z1⟩, ⟨H, hn2, hc, z2⟩] _ hA' ⟨rfl⟩ ⟨fun l hl => by
          simp at hl
          rcases hl with rfl | rfl
          · exact ⟨by show gn ≤ _; omega, hn1.out⟩
          · exact ⟨by show hn2 ≤ _; omega, hz2.out⟩⟩ (by omega) (by omega)).mono ?_
        rintro e w15 ⟨rfl, hm15⟩
        clear hA hA' hm14
        have hfn : Fact (FrsOk N w15 NA n nc nx) := ⟨frs_mem hm15 (.tail _ (List.mem_append_right _ m0)) (fun z hz => .tail _ (List.mem_append_right _ (.tail _ (slots_mem hz)))) hnn.out⟩
        go_wp2_with fail
        refine (keptFrames_ok w15 N (some ⟨gb, ob, none⟩) n d ins9 hs ⟨hio9.out.lent hm15 m0 (fun x h => .tail _ (List.mem_append_left _ (slots_mem h)))⟩ NA nc nx hfn ⟨hdn.out.symm⟩ hn (by omega)).mono ?_
        rintro e w16 ⟨rfl, hg16⟩
        have hfin := Fact.mk (Gr.trans hg0.out (Gr.trans hm15.below hg16))
        clear hm15 hfn
        go_wp2
        go_ret
        exact ⟨rfl, hfin.out⟩
  · skip
    have k5 := Gr.cell hm9.below k52.out
    have k6 := Gr.cell hm9.below k62.out
    have k1 : w9.cell? ⟨g, 0, none⟩ = some (.slice kA kn kc) := hpr.out _ hm9.below 0 _ rfl
    have k2 : w9.cell? ⟨g, 1, none⟩ = some (.slice fA fnn fc) := hpr.out _ hm9.below 1 _ rfl
    have hfi : Fact (FrsOk N w9 (some ⟨gb, ob, none⟩) n d ins9) := ⟨(hio9.out.lent hm9 m0 (fun x h => .tail _ (List.mem_append_right _ (slots_mem h)))).frs⟩
    go_cut [13, 14] (fun s13 s14 W => ∃ (b : Bool) (A9 : Option Addr) (n9 c9 : Nat) (zs : List Fr), s13 = .slice A9 n9 c9 ∧ s14 = .bool b ∧ Gr w9 W ∧ FrsOk (N + 1) W A9 n9 c9 zs ∧ Fact (b = (catchD ⟨kA, kn, kc, consts, fA, fnn, fc, fns⟩ (v1, v2) (ins9.map Fr.data) n).isSome) ∧ Fact (zs.map Fr.data = (catchD ⟨kA, kn, kc, consts, fA, fnn, fc, fns⟩ (v1, v2) (ins9.map Fr.data) n).getD []))
    case first =>
      as_aux_lemma =>
        have hgS := (Gr.refl w9).drew
        have hmS := (Mem.start w9).drew
        refine wp_region_until (S := fun W => W.cell? ⟨g, 0, none⟩ = some (.slice kA kn kc) ∧ W.cell? ⟨g, 1, none⟩ = some (.slice fA fnn fc) ∧ W.cell? ⟨g + 1, 0, none⟩ = some (.int .i64 v1) ∧ W.cell? ⟨g + 1, 1, none⟩ = some (.int .i64 v2)) 9 (by kernel_rfl) ?_
        generalize w9.drew = wd at hgS hmS ⊢
        refine wpAnyU_take 0 (v := ?vv9_a_1) rfl (by kernel_rfl) (by kernel_rfl) (fun _ _ _ h => h) ⟨Gr.cell hgS k1, Gr.cell hgS k2, Gr.cell hgS k5, Gr.cell hgS k6⟩ (Or.inl ⟨rfl, ?yv9_a_1⟩) ?rv9_a_1
        case yv9_a_1 =>
          intro W hW
          obtain ⟨hW0, hW1, hW2, hW3⟩ := hW
          go_simp
          try with_reducible rfl
        try simp only [Act.put, List.getElem_toArray, List.getElem_cons_succ, List.getElem_cons_zero, List.setIfInBounds_toArray, List.set_cons_zero, List.set_cons_succ]
        refine wpAnyU_take 1 (v := ?vv9_a_2) rfl (by kernel_rfl) (by kernel_rfl) (fun _ _ _ h => h) ⟨Gr.cell hgS k1, Gr.cell hgS k2, Gr.cell hgS k5, Gr.cell hgS k6⟩ (Or.inl ⟨rfl, ?yv9_a_2⟩) ?rv9_a_2
        case yv9_a_2 =>
          intro W hW
          obtain ⟨hW0, hW1, hW2, hW3⟩ := hW
          go_simp
          try with_reducible rfl
        try simp only [Act.put, List.getElem_toArray, List.getElem_cons_succ, List.getElem_cons_zero, List.setIfInBounds_toArray, List.set_cons_zero, List.set_cons_succ]
        refine wpAnyU_take 3 (v := ?vv9_a_3) rfl (by kernel_rfl) (by kernel_rfl) (fun _ _ _ h => h) ⟨Gr.cell hgS k1, Gr.cell hgS k2, Gr.cell hgS k5, Gr.cell hgS k6⟩ (Or.inl ⟨rfl, ?yv9_a_3⟩) ?rv9_a_3
        case yv9_a_3 =>
          intro W hW
          obtain ⟨hW0, hW1, hW2, hW3⟩ := hW
          go_simp
          try with_reducible rfl
        try simp only [Act.put, List.getElem_toArray, List.getElem_cons_succ, List.getElem_cons_zero, List.setIfInBounds_toArray, List.set_cons_zero, List.set_cons_succ]
        refine wpAnyU_one 2 (by kernel_rfl) rfl (fun K hK => ?_)
        refine step_callw rfl 46 Tryz.f46 Tryz.func46 (by kernel_rfl) (by kernel_rfl) _ _ rfl #[.slice (some ⟨gb, ob, none⟩) n d] (by simp [Act.eval]) ?_
        refine (copyFrames_ok wd N (some ⟨gb, ob, none⟩) n d ins9 ⟨hfi.out.gr hgS⟩ (by omega) (by omega)).mono ?_
        rintro e u22 ⟨A23, c24, ys25, rfl, hz26, hd27, hn28⟩
        have g29 := Gr.trans hgS hz26.below
        have hf30 : FrsOk N u22 A23 n c24 ys25 := frs_ofU hz26 hn28
        refine ⟨_, rfl, hK _ _ (fun _ => ⟨Gr.cell g29 k1, Gr.cell g29 k2, Gr.cell g29 k5, Gr.cell g29 k6⟩) ?_⟩
        clear hK K
        try simp only [Act.put, List.getElem_toArray, List.getElem_cons_succ, List.getElem_cons_zero, List.setIfInBounds_toArray, List.set_cons_zero, List.set_cons_succ]
        refine wpAnyU_one 4 (by kernel_rfl) rfl (fun K hK => ?_)
        refine step_callw rfl 44 Tryz.f44 Tryz.func44 (by kernel_rfl) (by kernel_rfl) _ _ rfl #[.agg #[.slice kA kn kc, .slice fA fnn fc], .slice A23 n c24, .agg #[.int .i64 v1, .int .i64 v2]] (by simp [Act.eval]) ?_
        refine (hcatR.out u22 (Gr.trans hg0.out (Gr.trans hm9.below g29)) N A23 n c24 ys25 ⟨hf30⟩ (by omega) (by omega)).mono ?_
        rintro e u31 ⟨b32, A33, m34, c35, zs36, rfl, hb37, hz38, hd39, hn40⟩
        have g41 := Gr.trans g29 hz38.below
        have hf42 := frs_ofU hz38 hn40
        refine ⟨_, rfl, hK _ _ (fun _ => ⟨Gr.cell g41 k1, Gr.cell g41 k2, Gr.cell g41 k5, Gr.cell g41 k6⟩) ?_⟩
        clear hK K
        try simp only [Act.put, List.getElem_toArray, List.getElem_cons_succ, List.getElem_cons_zero, List.setIfInBounds_toArray, List.set_cons_zero, List.set_cons_succ]
        refine wpAnyU_take 5 (v := ?vv9_a_4) rfl (by kernel_rfl) (by kernel_rfl) (fun _ _ _ h => h) ⟨Gr.cell g41 k1, Gr.cell g41 k2, Gr.cell g41 k5, Gr.cell g41 k6⟩ (Or.inl ⟨rfl, ?yv9_a_4⟩) ?rv9_a_4
        case yv9_a_4 =>
          intro W hW
          obtain ⟨hW0, hW1, hW2, hW3⟩ := hW
          go_simp
          try with_reducible rfl
        try simp only [Act.put, List.getElem_toArray, List.getElem_cons_succ, List.getElem_cons_zero, List.setIfInBounds_toArray, List.set_cons_zero, List.set_cons_succ]
        refine wpAnyU_take 6 (v := ?vv9_a_5) rfl (by kernel_rfl) (by kernel_rfl) (fun _ _ _ h => h) ⟨Gr.cell g41 k1, Gr.cell g41 k2, Gr.cell g41 k5, Gr.cell g41 k6⟩ (Or.inl ⟨rfl, ?yv9_a_5⟩) ?rv9_a_5
        case yv9_a_5 =>
          intro W hW
          obtain ⟨hW0, hW1, hW2, hW3⟩ := hW
          go_simp
          try with_reducible rfl
        try simp only [Act.put, List.getElem_toArray, List.getElem_cons_succ, List.getElem_cons_zero, List.setIfInBounds_toArray, List.set_cons_zero, List.set_cons_succ]
        refine wpAnyU_take 7 (v := ?vv9_a_6) rfl (by kernel_rfl) (by kernel_rfl) (fun _ _ _ h => h) ⟨Gr.cell g41 k1, Gr.cell g41 k2, Gr.cell g41 k5, Gr.cell g41 k6⟩ (Or.inl ⟨rfl, ?yv9_a_6⟩) ?rv9_a_6
        case yv9_a_6 =>
          intro W hW
          obtain ⟨hW0, hW1, hW2, hW3⟩ := hW
          go_simp
          try with_reducible rfl
        try simp only [Act.put, List.getElem_toArray, List.getElem_cons_succ, List.getElem_cons_zero, List.setIfInBounds_toArray, List.set_cons_zero, List.set_cons_succ]
        refine wpAnyU_take 8 (v := ?vv9_a_7) rfl (by kernel_rfl) (by kernel_rfl) (fun _ _ _ h => h) ⟨Gr.cell g41 k1, Gr.cell g41 k2, Gr.cell g41 k5, Gr.cell g41 k6⟩ (Or.inl ⟨rfl, ?yv9_a_7⟩) ?rv9_a_7
        case yv9_a_7 =>
          intro W hW
          obtain ⟨hW0, hW1, hW2, hW3⟩ := hW
          go_simp
          try with_reducible rfl
        try simp only [Act.put, List.getElem_toArray, List.getElem_cons_succ, List.getElem_cons_zero, List.setIfInBounds_toArray, List.set_cons_zero, List.set_cons_succ]
        refine wpAnyU_one 9 (by kernel_rfl) rfl (fun K hK => ?_)
        go_simp
        refine hK _ _ (fun h => absurd h (by decide)) ?_
        clear hK K
        refine wpAnyU_done (by kernel_rfl) ?_ _
        go_wp2
        try simp only [Act.put, List.getElem_toArray, List.getElem_cons_succ, List.getElem_cons_zero, List.setIfInBounds_toArray, List.set_cons_succ, List.set_cons_zero]
        go_meet
        case rel => exact ⟨_, _, _, _, _, rfl, rfl, g41, hf42, ⟨by rw [← hd27]; exact hb37.out⟩, ⟨by rw [← hd27]; exact hd39⟩⟩
    case rest =>
      obtain ⟨w10, rfl⟩ : ∃ w10 : World, w10 = wc := ⟨_, rfl⟩
      obtain ⟨b2, W2, wn, wk, zw, rfl, rfl, hg10, hfw, hb2, hdw⟩ := hcut
      have hfw := Fact.mk hfw
      have hm10 := hm9.gr hg10
      clear hm9 hg10 k5 k6 k1 k2 hfi
      have k5 := Gr.cell hm10.below k52.out
      have k6 := Gr.cell hm10.below k62.out
      go_wp2_with (refine wp_rng rfl 26 _ rfl g7 0 rfl [.slice KA kn kc', .slice FA fnn fc'] (hq.out _ hm10.below) row_P szP ?_)
      refine (hcatQ.out w10 (Gr.trans hg0.out hm10.below) KA kc' FA fc' hsP (hL.out.gr hm10.below) N (some ⟨gb, ob, none⟩) n d ins9 ⟨(hio9.out.lent hm10 m0 (fun x h => .tail _ (List.mem_append_right _ (slots_mem h)))).frs⟩ (by omega) (by omega)).mono ?_
      rintro e w11 ⟨b2', H, hn2, hc, z2, rfl, hb2', hm11, hd2, hz2⟩
      obtain rfl : b2' = b2 := hb2'.out.trans hb2.out.symm
      clear hb2 hb2'
      have hfw := Fact.mk (hfw.out.gr hm11.below)
      have hm11 := hm10.join hm11
      clear hm10 k5 k6
      have hz2 := Fact.mk hz2
      have hd2 := Fact.mk (hd2.trans hdw.out.symm)
      have hf2 : FrsOk (N + 1) w11 H hn2 hc z2 := frs_mem hm11 m0 (fun z hz => List.mem_append_left _ (.tail _ (slots_mem hz))) hz2.out
      have hnw : hn2 = wn := by
        have h1 := hf2.len
        have h2 := hfw.out.len
        have h3 := data_len hd2.out
        omega
      subst hnw
      have hn2b : hn2 ≤ n := by
        have h1 := hfw.out.len
        have h2 := congrArg List.length hdw.out
        have h3 := catchD_len ⟨kA, kn, kc, consts, fA, fnn, fc, fns⟩ (v1, v2) (ins9.map Fr.data) n
        rw [← h2, List.length_map] at h3
        omega
      have hf2 := Fact.mk hf2
      clear hdw
      cases b2'
      all_goals
        go_wp2_with fail
        refine (sameFrames_ok w11 H W2 (N + 1) hn2 hc wk z2 zw hf2 hfw hd2 (by omega) (by omega)).mono ?_
        rintro e w12 ⟨rfl, hg12⟩
        have hm12 := hm11.gr hg12
        clear hm11 hg12 hfw hf2
        have hm12' := hm12.sub (List.sublist_append_right _ _)
        go_wp2_with fail
        refine (sameFrames_ok w12 G R (N + 1) gn gc rc z1 zr ⟨(hf1.out _ _ hm12').1⟩ ⟨(hf1.out _ _ hm12').2⟩ hdd (by omega) (by omega)).mono ?_
        rintro e w13 ⟨rfl, hg13⟩
        have hm13 := hm12.gr hg13
        clear hm12 hg13 hm12' hf1
        have hm13' := hm13.sub (List.sublist_append_right _ _)
        have hfi : Fact (FrsOk N w13 (some ⟨gb, ob, none⟩) n d ins9) := ⟨(hio9.out.lent hm13' m0 (fun x h => .tail _ (List.mem_append_right _ (slots_mem h)))).frs⟩
        clear hm13'
        go_wp2_with fail
        refine (copyFrames_ok w13 N (some ⟨gb, ob, none⟩) n d ins9 hfi (by omega) (by omega)).mono ?_
        rintro e w14 ⟨NA, nc, nx, rfl, hm14, hdn, hnn⟩
        have hm14 := hm13.join hm14
        have hdn := Fact.mk hdn
        have hnn := Fact.mk hnn
        clear hm13 hfi
        go_wp2_with fail
        have hA := hm14.alloc (.cells [.slice G gn gc, .slice H hn2 hc].toArray 38)
        have hA := hA.sub (L' := Blk w14.heap.size _ :: ((Own 3 (.slice NA n nc) (fR nx) :: slots nx) ++ ((Own 3 (.slice H hn2 hc) (fR z2) :: slots z2) ++ (Own 3 (.slice (some ⟨gb, ob, none⟩) (n + n + 64) d) (fR (ins9 ++ (hs ++ marksR n 64))) :: ((Own 3 (.slice G gn gc) (fR z1) :: slots z1) ++ slots hs))))) (.cons_cons _ (List.Sublist.append_left (List.Sublist.append_left (.cons_cons _ (List.Sublist.append_right (List.sublist_append_left _ _) _)) _) _))
        have hA := Mem.blk_own (n := 2) (size := 1) hA rfl (by simp [maxLen]) (lvs_one [⟨G, gn, gc, z1⟩, ⟨H, hn2, hc, z2⟩])
        have hA := hA.perm (perm_apart _ _ _ _ _ _ _ _)
        have hA' : Mem w2 (w14.alloc (.cells [.slice G gn gc, .slice H hn2 hc].toArray 38)) (slots ([⟨G, gn, gc, z1⟩, ⟨H, hn2, hc, z2⟩].flatMap FL.fs) ++ ([⟨G, gn, gc, z1⟩, ⟨H, hn2, hc, z2⟩].map lst ++ (Own 1 (.slice (some ⟨w14.heap.size, 0, none⟩) 2 2) (lvs [⟨G, gn, gc, z1⟩, ⟨H, hn2, hc, z2⟩]) :: (Own 3 (.slice (some ⟨gb, ob, none⟩) (n + n + 64) d) (fR (ins9 ++ (hs ++ marksR n 64))) :: (slots hs ++ (Own 3 (.slice NA n nc) (fR nx) :: slots nx)))))) := by
          simp only [List.flatMap_cons, List.flatMap_nil, List.append_nil, slots_app]
          exact hA
        refine (apartFrames_ok w2 _ (some ⟨w14.heap.size, 0, none⟩) 2 2 (N + 1) [⟨G, gn, gc, z1⟩, ⟨H, hn2, hc, z2⟩] _ hA' ⟨rfl⟩ ⟨fun l hl => by
          simp at hl
          rcases hl with rfl | rfl
          · exact ⟨by show gn ≤ _; omega, hn1.out⟩
          · exact ⟨by show hn2 ≤ _; omega, hz2.out⟩⟩ (by omega) (by omega)).mono ?_
        rintro e w15 ⟨rfl, hm15⟩
        clear hA hA' hm14
        have hfn : Fact (FrsOk N w15 NA n nc nx) := ⟨frs_mem hm15 (.tail _ (List.mem_append_right _ m0)) (fun z hz => .tail _ (List.mem_append_right _ (.tail _ (slots_mem hz)))) hnn.out⟩
        go_wp2_with fail
        refine (keptFrames_ok w15 N (some ⟨gb, ob, none⟩) n d ins9 hs ⟨hio9.out.lent hm15 m0 (fun x h => .tail _ (List.mem_append_left _ (slots_mem h)))⟩ NA nc nx hfn ⟨hdn.out.symm⟩ hn (by omega)).mono ?_
        rintro e w16 ⟨rfl, hg16⟩
        have hfin := Fact.mk (Gr.trans hg0.out (Gr.trans hm15.below hg16))
        clear hm15 hfn
        go_wp2
        go_ret
        exact ⟨rfl, hfin.out⟩
  · skip
    have k5 := Gr.cell hm9.below k52.out
    have k6 := Gr.cell hm9.below k62.out
    have k1 : w9.cell? ⟨g, 0, none⟩ = some (.slice kA kn kc) := hpr.out _ hm9.below 0 _ rfl
    have k2 : w9.cell? ⟨g, 1, none⟩ = some (.slice fA fnn fc) := hpr.out _ hm9.below 1 _ rfl
    have hfi : Fact (FrsOk N w9 (some ⟨gb, ob, none⟩) n d ins9) := ⟨(hio9.out.lent hm9 m0 (fun x h => .tail _ (List.mem_append_right _ (slots_mem h)))).frs⟩
    go_cut [13, 14] (fun s13 s14 W => ∃ (b : Bool) (A9 : Option Addr) (n9 c9 : Nat) (zs : List Fr), s13 = .slice A9 n9 c9 ∧ s14 = .bool b ∧ Gr w9 W ∧ FrsOk (N + 1) W A9 n9 c9 zs ∧ Fact (b = (catchD ⟨kA, kn, kc, consts, fA, fnn, fc, fns⟩ (v1, v2) (ins9.map Fr.data) n).isSome) ∧ Fact (zs.map Fr.data = (catchD ⟨kA, kn, kc, consts, fA, fnn, fc, fns⟩ (v1, v2) (ins9.map Fr.data) n).getD []))
    case first =>
      as_aux_lemma =>
        have hgS := (Gr.refl w9).drew
        have hmS := (Mem.start w9).drew
        refine wp_region_until (S := fun W => W.cell? ⟨g, 0, none⟩ = some (.slice kA kn kc) ∧ W.cell? ⟨g, 1, none⟩ = some (.slice fA fnn fc) ∧ W.cell? ⟨g + 1, 0, none⟩ = some (.int .i64 v1) ∧ W.cell? ⟨g + 1, 1, none⟩ = some (.int .i64 v2)) 9 (by kernel_rfl) ?_
        generalize w9.drew = wd at hgS hmS ⊢
        refine wpAnyU_take 0 (v := ?vv9_b_1) rfl (by kernel_rfl) (by kernel_rfl) (fun _ _ _ h => h) ⟨Gr.cell hgS k1, Gr.cell hgS k2, Gr.cell hgS k5, Gr.cell hgS k6⟩ (Or.inl ⟨rfl, ?yv9_b_1⟩) ?rv9_b_1
        case yv9_b_1 =>
          intro W hW
          obtain ⟨hW0, hW1, hW2, hW3⟩ := hW
          go_simp
          try with_reducible rfl
        try simp only [Act.put, List.getElem_toArray, List.getElem_cons_succ, List.getElem_cons_zero, List.setIfInBounds_toArray, List.set_cons_zero, List.set_cons_succ]
        refine wpAnyU_take 1 (v := ?vv9_b_2) rfl (by kernel_rfl) (by kernel_rfl) (fun _ _ _ h => h) ⟨Gr.cell hgS k1, Gr.cell hgS k2, Gr.cell hgS k5, Gr.cell hgS k6⟩ (Or.inl ⟨rfl, ?yv9_b_2⟩) ?rv9_b_2
        case yv9_b_2 =>
          intro W hW
          obtain ⟨hW0, hW1, hW2, hW3⟩ := hW
          go_simp
          try with_reducible rfl
        try simp only [Act.put, List.getElem_toArray, List.getElem_cons_succ, List.getElem_cons_zero, List.setIfInBounds_toArray, List.set_cons_zero, List.set_cons_succ]
        refine wpAnyU_take 3 (v := ?vv9_b_3) rfl (by kernel_rfl) (by kernel_rfl) (fun _ _ _ h => h) ⟨Gr.cell hgS k1, Gr.cell hgS k2, Gr.cell hgS k5, Gr.cell hgS k6⟩ (Or.inl ⟨rfl, ?yv9_b_3⟩) ?rv9_b_3
        case yv9_b_3 =>
          intro W hW
          obtain ⟨hW0, hW1, hW2, hW3⟩ := hW
          go_simp
          try with_reducible rfl
        try simp only [Act.put, List.getElem_toArray, List.getElem_cons_succ, List.getElem_cons_zero, List.setIfInBounds_toArray, List.set_cons_zero, List.set_cons_succ]
        refine wpAnyU_one 2 (by kernel_rfl) rfl (fun K hK => ?_)
        refine step_callw rfl 46 Tryz.f46 Tryz.func46 (by kernel_rfl) (by kernel_rfl) _ _ rfl #[.slice (some ⟨gb, ob, none⟩) n d] (by simp [Act.eval]) ?_
        refine (copyFrames_ok wd N (some ⟨gb, ob, none⟩) n d ins9 ⟨hfi.out.gr hgS⟩ (by omega) (by omega)).mono ?_
        rintro e u43 ⟨A44, c45, ys46, rfl, hz47, hd48, hn49⟩
        have g50 := Gr.trans hgS hz47.below
        have hf51 : FrsOk N u43 A44 n c45 ys46 := frs_ofU hz47 hn49
        refine ⟨_, rfl, hK _ _ (fun _ => ⟨Gr.cell g50 k1, Gr.cell g50 k2, Gr.cell g50 k5, Gr.cell g50 k6⟩) ?_⟩
        clear hK K
        try simp only [Act.put, List.getElem_toArray, List.getElem_cons_succ, List.getElem_cons_zero, List.setIfInBounds_toArray, List.set_cons_zero, List.set_cons_succ]
        refine wpAnyU_one 4 (by kernel_rfl) rfl (fun K hK => ?_)
        refine step_callw rfl 44 Tryz.f44 Tryz.func44 (by kernel_rfl) (by kernel_rfl) _ _ rfl #[.agg #[.slice kA kn kc, .slice fA fnn fc], .slice A44 n c45, .agg #[.int .i64 v1, .int .i64 v2]] (by simp [Act.eval]) ?_
        refine (hcatR.out u43 (Gr.trans hg0.out (Gr.trans hm9.below g50)) N A44 n c45 ys46 ⟨hf51⟩ (by omega) (by omega)).mono ?_
        rintro e u52 ⟨b53, A54, m55, c56, zs57, rfl, hb58, hz59, hd60, hn61⟩
        have g62 := Gr.trans g50 hz59.below
        have hf63 := frs_ofU hz59 hn61
        refine ⟨_, rfl, hK _ _ (fun _ => ⟨Gr.cell g62 k1, Gr.cell g62 k2, Gr.cell g62 k5, Gr.cell g62 k6⟩) ?_⟩
        clear hK K
        try simp only [Act.put, List.getElem_toArray, List.getElem_cons_succ, List.getElem_cons_zero, List.setIfInBounds_toArray, List.set_cons_zero, List.set_cons_succ]
        refine wpAnyU_take 5 (v := ?vv9_b_4) rfl (by kernel_rfl) (by kernel_rfl) (fun _ _ _ h => h) ⟨Gr.cell g62 k1, Gr.cell g62 k2, Gr.cell g62 k5, Gr.cell g62 k6⟩ (Or.inl ⟨rfl, ?yv9_b_4⟩) ?rv9_b_4
        case yv9_b_4 =>
          intro W hW
          obtain ⟨hW0, hW1, hW2, hW3⟩ := hW
          go_simp
          try with_reducible rfl
        try simp only [Act.put, List.getElem_toArray, List.getElem_cons_succ, List.getElem_cons_zero, List.setIfInBounds_toArray, List.set_cons_zero, List.set_cons_succ]
        refine wpAnyU_take 6 (v := ?vv9_b_5) rfl (by kernel_rfl) (by kernel_rfl) (fun _ _ _ h => h) ⟨Gr.cell g62 k1, Gr.cell g62 k2, Gr.cell g62 k5, Gr.cell g62 k6⟩ (Or.inl ⟨rfl, ?yv9_b_5⟩) ?rv9_b_5
        case yv9_b_5 =>
          intro W hW
          obtain ⟨hW0, hW1, hW2, hW3⟩ := hW
          go_simp
          try with_reducible rfl
        try simp only [Act.put, List.getElem_toArray, List.getElem_cons_succ, List.getElem_cons_zero, List.setIfInBounds_toArray, List.set_cons_zero, List.set_cons_succ]
        refine wpAnyU_take 7 (v := ?vv9_b_6) rfl (by kernel_rfl) (by kernel_rfl) (fun _ _ _ h => h) ⟨Gr.cell g62 k1, Gr.cell g62 k2, Gr.cell g62 k5, Gr.cell g62 k6⟩ (Or.inl ⟨rfl, ?yv9_b_6⟩) ?rv9_b_6
        case yv9_b_6 =>
          intro W hW
          obtain ⟨hW0, hW1, hW2, hW3⟩ := hW
          go_simp
          try with_reducible rfl
        try simp only [Act.put, List.getElem_toArray, List.getElem_cons_succ, List.getElem_cons_zero, List.setIfInBounds_toArray, List.set_cons_zero, List.set_cons_succ]
        refine wpAnyU_take 8 (v := ?vv9_b_7) rfl (by kernel_rfl) (by kernel_rfl) (fun _ _ _ h => h) ⟨Gr.cell g62 k1, Gr.cell g62 k2, Gr.cell g62 k5, Gr.cell g62 k6⟩ (Or.inl ⟨rfl, ?yv9_b_7⟩) ?rv9_b_7
        case yv9_b_7 =>
          intro W hW
          obtain ⟨hW0, hW1, hW2, hW3⟩ := hW
          go_simp
          try with_reducible rfl
        try simp only [Act.put, List.getElem_toArray, List.getElem_cons_succ, List.getElem_cons_zero, List.setIfInBounds_toArray, List.set_cons_zero, List.set_cons_succ]
        refine wpAnyU_one 9 (by kernel_rfl) rfl (fun K hK => ?_)
        go_simp
        refine hK _ _ (fun h => absurd h (by decide)) ?_
        clear hK K
        refine wpAnyU_done (by kernel_rfl) ?_ _
        go_wp2
        try simp only [Act.put, List.getElem_toArray, List.getElem_cons_succ, List.getElem_cons_zero, List.setIfInBounds_toArray, List.set_cons_succ, List.set_cons_zero]
        go_meet
        case rel => exact ⟨_, _, _, _, _, rfl, rfl, g62, hf63, ⟨by rw [← hd48]; exact hb58.out⟩, ⟨by rw [← hd48]; exact hd60⟩⟩
    case rest =>
      obtain ⟨w10, rfl⟩ : ∃ w10 : World, w10 = wc := ⟨_, rfl⟩
      obtain ⟨b2, W2, wn, wk, zw, rfl, rfl, hg10, hfw, hb2, hdw⟩ := hcut
      have hfw := Fact.mk hfw
      have hm10 := hm9.gr hg10
      clear hm9 hg10 k5 k6 k1 k2 hfi
      have k5 := Gr.cell hm10.below k52.out
      have k6 := Gr.cell hm10.below k62.out
      go_wp2_with (refine wp_rng rfl 26 _ rfl g7 0 rfl [.slice KA kn kc', .slice FA fnn fc'] (hq.out _ hm10.below) row_P szP ?_)
      refine (hcatQ.out w10 (Gr.trans hg0.out hm10.below) KA kc' FA fc' hsP (hL.out.gr hm10.below) N (some ⟨gb, ob, none⟩) n d ins9 ⟨(hio9.out.lent hm10 m0 (fun x h => .tail _ (List.mem_append_right _ (slots_mem h)))).frs⟩ (by omega) (by omega)).mono ?_
      rintro e w11 ⟨b2', H, hn2, hc, z2, rfl, hb2', hm11, hd2, hz2⟩
      obtain rfl : b2' = b2 := hb2'.out.trans hb2.out.symm
      clear hb2 hb2'
      have hfw := Fact.mk (hfw.out.gr hm11.below)
      have hm11 := hm10.join hm11
      clear hm10 k5 k6
      have hz2 := Fact.mk hz2
      have hd2 := Fact.mk (hd2.trans hdw.out.symm)
      have hf2 : FrsOk (N + 1) w11 H hn2 hc z2 := frs_mem hm11 m0 (fun z hz => List.mem_append_left _ (.tail _ (slots_mem hz))) hz2.out
      have hnw : hn2 = wn := by
        have h1 := hf2.len
        have h2 := hfw.out.len
        have h3 := data_len hd2.out
        omega
      subst hnw
      have hn2b : hn2 ≤ n := by
        have h1 := hfw.out.len
        have h2 := congrArg List.length hdw.out
        have h3 := catchD_len ⟨kA, kn, kc, consts, fA, fnn, fc, fns⟩ (v1, v2) (ins9.map Fr.data) n
        rw [← h2, List.length_map] at h3
        omega
      have hf2 := Fact.mk hf2
      clear hdw
      cases b2'
      all_goals
        go_wp2_with fail
        refine (sameFrames_ok w11 H W2 (N + 1) hn2 hc wk z2 zw hf2 hfw hd2 (by omega) (by omega)).mono ?_
        rintro e w12 ⟨rfl, hg12⟩
        have hm12 := hm11.gr hg12
        clear hm11 hg12 hfw hf2
        have hm12' := hm12.sub (List.sublist_append_right _ _)
        go_wp2_with fail
        refine (sameFrames_ok w12 G R (N + 1) gn gc rc z1 zr ⟨(hf1.out _ _ hm12').1⟩ ⟨(hf1.out _ _ hm12').2⟩ hdd (by omega) (by omega)).mono ?_
        rintro e w13 ⟨rfl, hg13⟩
        have hm13 := hm12.gr hg13
        clear hm12 hg13 hm12' hf1
        have hm13' := hm13.sub (List.sublist_append_right _ _)
        have hfi : Fact (FrsOk N w13 (some ⟨gb, ob, none⟩) n d ins9) := ⟨(hio9.out.lent hm13' m0 (fun x h => .tail _ (List.mem_append_right _ (slots_mem h)))).frs⟩
        clear hm13'
        go_wp2_with fail
        refine (copyFrames_ok w13 N (some ⟨gb, ob, none⟩) n d ins9 hfi (by omega) (by omega)).mono ?_
        rintro e w14 ⟨NA, nc, nx, rfl, hm14, hdn, hnn⟩
        have hm14 := hm13.join hm14
        have hdn := Fact.mk hdn
        have hnn := Fact.mk hnn
        clear hm13 hfi
        go_wp2_with fail
        have hA := hm14.alloc (.cells [.slice G gn gc, .slice H hn2 hc].toArray 38)
        have hA := hA.sub (L' := Blk w14.heap.size _ :: ((Own 3 (.slice NA n nc) (fR nx) :: slots nx) ++ ((Own 3 (.slice H hn2 hc) (fR z2) :: slots z2) ++ (Own 3 (.slice (some ⟨gb, ob, none⟩) (n + n + 64) d) (fR (ins9 ++ (hs ++ marksR n 64))) :: ((Own 3 (.slice G gn gc) (fR z1) :: slots z1) ++ slots hs))))) (.cons_cons _ (List.Sublist.append_left (List.Sublist.append_left (.cons_cons _ (List.Sublist.append_right (List.sublist_append_left _ _) _)) _) _))
        have hA := Mem.blk_own (n := 2) (size := 1) hA rfl (by simp [maxLen]) (lvs_one [⟨G, gn, gc, z1⟩, ⟨H, hn2, hc, z2⟩])
        have hA := hA.perm (perm_apart _ _ _ _ _ _ _ _)
        have hA' : Mem w2 (w14.alloc (.cells [.slice G gn gc, .slice H hn2 hc].toArray 38)) (slots ([⟨G, gn, gc, z1⟩, ⟨H, hn2, hc, z2⟩].flatMap FL.fs) ++ ([⟨G, gn, gc, z1⟩, ⟨H, hn2, hc, z2⟩].map lst ++ (Own 1 (.slice (some ⟨w14.heap.size, 0, none⟩) 2 2) (lvs [⟨G, gn, gc, z1⟩, ⟨H, hn2, hc, z2⟩]) :: (Own 3 (.slice (some ⟨gb, ob, none⟩) (n + n + 64) d) (fR (ins9 ++ (hs ++ marksR n 64))) :: (slots hs ++ (Own 3 (.slice NA n nc) (fR nx) :: slots nx)))))) := by
          simp only [List.flatMap_cons, List.flatMap_nil, List.append_nil, slots_app]
          exact hA
        refine (apartFrames_ok w2 _ (some ⟨w14.heap.size, 0, none⟩) 2 2 (N + 1) [⟨G, gn, gc, z1⟩, ⟨H, hn2, hc, z2⟩] _ hA' ⟨rfl⟩ ⟨fun l hl => by
          simp at hl
          rcases hl with rfl | rfl
          · exact ⟨by show gn ≤ _; omega, hn1.out⟩
          · exact ⟨by show hn2 ≤ _; omega, hz2.out⟩⟩ (by omega) (by omega)).mono ?_
        rintro e w15 ⟨rfl, hm15⟩
        clear hA hA' hm14
        have hfn : Fact (FrsOk N w15 NA n nc nx) := ⟨frs_mem hm15 (.tail _ (List.mem_append_right _ m0)) (fun z hz => .tail _ (List.mem_append_right _ (.tail _ (slots_mem hz)))) hnn.out⟩
        go_wp2_with fail
        refine (keptFrames_ok w15 N (some ⟨gb, ob, none⟩) n d ins9 hs ⟨hio9.out.lent hm15 m0 (fun x h => .tail _ (List.mem_append_left _ (slots_mem h)))⟩ NA nc nx hfn ⟨hdn.out.symm⟩ hn (by omega)).mono ?_
        rintro e w16 ⟨rfl, hg16⟩
        have hfin := Fact.mk (Gr.trans hg0.out (Gr.trans hm15.below hg16))
        clear hm15 hfn
        go_wp2
        go_ret
        exact ⟨rfl, hfin.out⟩
  · skip
    have k5 := Gr.cell hm9.below k52.out
    have k6 := Gr.cell hm9.below k62.out
    have k1 : w9.cell? ⟨g, 0, none⟩ = some (.slice kA kn kc) := hpr.out _ hm9.below 0 _ rfl
    have k2 : w9.cell? ⟨g, 1, none⟩ = some (.slice fA fnn fc) := hpr.out _ hm9.below 1 _ rfl
    have hfi : Fact (FrsOk N w9 (some ⟨gb, ob, none⟩) n d ins9) := ⟨(hio9.out.lent hm9 m0 (fun x h => .tail _ (List.mem_append_right _ (slots_mem h)))).frs⟩
    go_cut [13, 14] (fun s13 s14 W => ∃ (b : Bool) (A9 : Option Addr) (n9 c9 : Nat) (zs : List Fr), s13 = .slice A9 n9 c9 ∧ s14 = .bool b ∧ Gr w9 W ∧ FrsOk (N + 1) W A9 n9 c9 zs ∧ Fact (b = (catchD ⟨kA, kn, kc, consts, fA, fnn, fc, fns⟩ (v1, v2) (ins9.map Fr.data) n).isSome) ∧ Fact (zs.map Fr.data = (catchD ⟨kA, kn, kc, consts, fA, fnn, fc, fns⟩ (v1, v2) (ins9.map Fr.data) n).getD []))
    case first =>
      as_aux_lemma =>
        have hgS := (Gr.refl w9).drew
        have hmS := (Mem.start w9).drew
        refine wp_region_until (S := fun W => W.cell? ⟨g, 0, none⟩ = some (.slice kA kn kc) ∧ W.cell? ⟨g, 1, none⟩ = some (.slice fA fnn fc) ∧ W.cell? ⟨g + 1, 0, none⟩ = some (.int .i64 v1) ∧ W.cell? ⟨g + 1, 1, none⟩ = some (.int .i64 v2)) 9 (by kernel_rfl) ?_
        generalize w9.drew = wd at hgS hmS ⊢
        refine wpAnyU_take 0 (v := ?vv9_c_1) rfl (by kernel_rfl) (by kernel_rfl) (fun _ _ _ h => h) ⟨Gr.cell hgS k1, Gr.cell hgS k2, Gr.cell hgS k5, Gr.cell hgS k6⟩ (Or.inl ⟨rfl, ?yv9_c_1⟩) ?rv9_c_1
        case yv9_c_1 =>
          intro W hW
          obtain ⟨hW0, hW1, hW2, hW3⟩ := hW
          go_simp
          try with_reducible rfl
        try simp only [Act.put, List.getElem_toArray, List.getElem_cons_succ, List.getElem_cons_zero, List.setIfInBounds_toArray, List.set_cons_zero, List.set_cons_succ]
        refine wpAnyU_take 1 (v := ?vv9_c_2) rfl (by kernel_rfl) (by kernel_rfl) (fun _ _ _ h => h) ⟨Gr.cell hgS k1, Gr.cell hgS k2, Gr.cell hgS k5, Gr.cell hgS k6⟩ (Or.inl ⟨rfl, ?yv9_c_2⟩) ?rv9_c_2
        case yv9_c_2 =>
          intro W hW
          obtain ⟨hW0, hW1, hW2, hW3⟩ := hW
          go_simp
          try with_reducible rfl
        try simp only [Act.put, List.getElem_toArray, List.getElem_cons_succ, List.getElem_cons_zero, List.setIfInBounds_toArray, List.set_cons_zero, List.set_cons_succ]
        refine wpAnyU_take 3 (v := ?vv9_c_3) rfl (by kernel_rfl) (by kernel_rfl) (fun _ _ _ h => h) ⟨Gr.cell hgS k1, Gr.cell hgS k2, Gr.cell hgS k5, Gr.cell hgS k6⟩ (Or.inl ⟨rfl, ?yv9_c_3⟩) ?rv9_c_3
        case yv9_c_3 =>
          intro W hW
          obtain ⟨hW0, hW1, hW2, hW3⟩ := hW
          go_simp
          try with_reducible rfl
        try simp only [Act.put, List.getElem_toArray, List.getElem_cons_succ, List.getElem_cons_zero, List.setIfInBounds_toArray, List.set_cons_zero, List.set_cons_succ]
        refine wpAnyU_one 2 (by kernel_rfl) rfl (fun K hK => ?_)
        refine step_callw rfl 46 Tryz.f46 Tryz.func46 (by kernel_rfl) (by kernel_rfl) _ _ rfl #[.slice (some ⟨gb, ob, none⟩) n d] (by simp [Act.eval]) ?_
        refine (copyFrames_ok wd N (some ⟨gb, ob, none⟩) n d ins9 ⟨hfi.out.gr hgS⟩ (by omega) (by omega)).mono ?_
        rintro e u64 ⟨A65, c66, ys67, rfl, hz68, hd69, hn70⟩
        have g71 := Gr.trans hgS hz68.below
        have hf72 : FrsOk N u64 A65 n c66 ys67 := frs_ofU hz68 hn70
        refine ⟨_, rfl, hK _ _ (fun _ => ⟨Gr.cell g71 k1, Gr.cell g71 k2, Gr.cell g71 k5, Gr.cell g71 k6⟩) ?_⟩
        clear hK K
        try simp only [Act.put, List.getElem_toArray, List.getElem_cons_succ, List.getElem_cons_zero, List.setIfInBounds_toArray, List.set_cons_zero, List.set_cons_succ]
        refine wpAnyU_one 4 (by kernel_rfl) rfl (fun K hK => ?_)
        refine step_callw rfl 44 Tryz.f44 Tryz.func44 (by kernel_rfl) (by kernel_rfl) _ _ rfl #[.agg #[.slice kA kn kc, .slice fA fnn fc], .slice A65 n c66, .agg #[.int .i64 v1, .int .i64 v2]] (by simp [Act.eval]) ?_
        refine (hcatR.out u64 (Gr.trans hg0.out (Gr.trans hm9.below g71)) N A65 n c66 ys67 ⟨hf72⟩ (by omega) (by omega)).mono ?_
        rintro e u73 ⟨b74, A75, m76, c77, zs78, rfl, hb79, hz80, hd81, hn82⟩
        have g83 := Gr.trans g71 hz80.below
        have hf84 := frs_ofU hz80 hn82
        refine ⟨_, rfl, hK _ _ (fun _ => ⟨Gr.cell g83 k1, Gr.cell g83 k2, Gr.cell g83 k5, Gr.cell g83 k6⟩) ?_⟩
        clear hK K
        try simp only [Act.put, List.getElem_toArray, List.getElem_cons_succ, List.getElem_cons_zero, List.setIfInBounds_toArray, List.set_cons_zero, List.set_cons_succ]
        refine wpAnyU_take 5 (v := ?vv9_c_4) rfl (by kernel_rfl) (by kernel_rfl) (fun _ _ _ h => h) ⟨Gr.cell g83 k1, Gr.cell g83 k2, Gr.cell g83 k5, Gr.cell g83 k6⟩ (Or.inl ⟨rfl, ?yv9_c_4⟩) ?rv9_c_4
        case yv9_c_4 =>
          intro W hW
          obtain ⟨hW0, hW1, hW2, hW3⟩ := hW
          go_simp
          try with_reducible rfl
        try simp only [Act.put, List.getElem_toArray, List.getElem_cons_succ, List.getElem_cons_zero, List.setIfInBounds_toArray, List.set_cons_zero, List.set_cons_succ]
        refine wpAnyU_take 6 (v := ?vv9_c_5) rfl (by kernel_rfl) (by kernel_rfl) (fun _ _ _ h => h) ⟨Gr.cell g83 k1, Gr.cell g83 k2, Gr.cell g83 k5, Gr.cell g83 k6⟩ (Or.inl ⟨rfl, ?yv9_c_5⟩) ?rv9_c_5
        case yv9_c_5 =>
          intro W hW
          obtain ⟨hW0, hW1, hW2, hW3⟩ := hW
          go_simp
          try with_reducible rfl
        try simp only [Act.put, List.getElem_toArray, List.getElem_cons_succ, List.getElem_cons_zero, List.setIfInBounds_toArray, List.set_cons_zero, List.set_cons_succ]
        refine wpAnyU_take 7 (v := ?vv9_c_6) rfl (by kernel_rfl) (by kernel_rfl) (fun _ _ _ h => h) ⟨Gr.cell g83 k1, Gr.cell g83 k2, Gr.cell g83 k5, Gr.cell g83 k6⟩ (Or.inl ⟨rfl, ?yv9_c_6⟩) ?rv9_c_6
        case yv9_c_6 =>
          intro W hW
          obtain ⟨hW0, hW1, hW2, hW3⟩ := hW
          go_simp
          try with_reducible rfl
        try simp only [Act.put, List.getElem_toArray, List.getElem_cons_succ, List.getElem_cons_zero, List.setIfInBounds_toArray, List.set_cons_zero, List.set_cons_succ]
        refine wpAnyU_take 8 (v := ?vv9_c_7) rfl (by kernel_rfl) (by kernel_rfl) (fun _ _ _ h => h) ⟨Gr.cell g83 k1, Gr.cell g83 k2, Gr.cell g83 k5, Gr.cell g83 k6⟩ (Or.inl ⟨rfl, ?yv9_c_7⟩) ?rv9_c_7
        case yv9_c_7 =>
          intro W hW
          obtain ⟨hW0, hW1, hW2, hW3⟩ := hW
          go_simp
          try with_reducible rfl
        try simp only [Act.put, List.getElem_toArray, List.getElem_cons_succ, List.getElem_cons_zero, List.setIfInBounds_toArray, List.set_cons_zero, List.set_cons_succ]
        refine wpAnyU_one 9 (by kernel_rfl) rfl (fun K hK => ?_)
        go_simp
        refine hK _ _ (fun h => absurd h (by decide)) ?_
        clear hK K
        refine wpAnyU_done (by kernel_rfl) ?_ _
        go_wp2
        try simp only [Act.put, List.getElem_toArray, List.getElem_cons_succ, List.getElem_cons_zero, List.setIfInBounds_toArray, List.set_cons_succ, List.set_cons_zero]
        go_meet
        case rel => exact ⟨_, _, _, _, _, rfl, rfl, g83, hf84, ⟨by rw [← hd69]; exact hb79.out⟩, ⟨by rw [← hd69]; exact hd81⟩⟩
    case rest =>
      obtain ⟨w10, rfl⟩ : ∃ w10 : World, w10 = wc := ⟨_, rfl⟩
      obtain ⟨b2, W2, wn, wk, zw, rfl, rfl, hg10, hfw, hb2, hdw⟩ := hcut
      have hfw := Fact.mk hfw
      have hm10 := hm9.gr hg10
      clear hm9 hg10 k5 k6 k1 k2 hfi
      have k5 := Gr.cell hm10.below k52.out
      have k6 := Gr.cell hm10.below k62.out
      go_wp2_with (refine wp_rng rfl 26 _ rfl g7 0 rfl [.slice KA kn kc', .slice FA fnn fc'] (hq.out _ hm10.below) row_P szP ?_)
      refine (hcatQ.out w10 (Gr.trans hg0.out hm10.below) KA kc' FA fc' hsP (hL.out.gr hm10.below) N (some ⟨gb, ob, none⟩) n d ins9 ⟨(hio9.out.lent hm10 m0 (fun x h => .tail _ (List.mem_append_right _ (slots_mem h)))).frs⟩ (by omega) (by omega)).mono ?_
      rintro e w11 ⟨b2', H, hn2, hc, z2, rfl, hb2', hm11, hd2, hz2⟩
      obtain rfl : b2' = b2 := hb2'.out.trans hb2.out.symm
      clear hb2 hb2'
      have hfw := Fact.mk (hfw.out.gr hm11.below)
      have hm11 := hm10.join hm11
      clear hm10 k5 k6
      have hz2 := Fact.mk hz2
      have hd2 := Fact.mk (hd2.trans hdw.out.symm)
      have hf2 : FrsOk (N + 1) w11 H hn2 hc z2 := frs_mem hm11 m0 (fun z hz => List.mem_append_left _ (.tail _ (slots_mem hz))) hz2.out
      have hnw : hn2 = wn := by
        have h1 := hf2.len
        have h2 := hfw.out.len
        have h3 := data_len hd2.out
        omega
      subst hnw
      have hn2b : hn2 ≤ n := by
        have h1 := hfw.out.len
        have h2 := congrArg List.length hdw.out
        have h3 := catchD_len ⟨kA, kn, kc, consts, fA, fnn, fc, fns⟩ (v1, v2) (ins9.map Fr.data) n
        rw [← h2, List.length_map] at h3
        omega
      have hf2 := Fact.mk hf2
      clear hdw
      cases b2'
      all_goals
        go_wp2_with fail
        refine (sameFrames_ok w11 H W2 (N + 1) hn2 hc wk z2 zw hf2 hfw hd2 (by omega) (by omega)).mono ?_
        rintro e w12 ⟨rfl, hg12⟩
        have hm12 := hm11.gr hg12
        clear hm11 hg12 hfw hf2
        have hm12' := hm12.sub (List.sublist_append_right _ _)
        go_wp2_with fail
        refine (sameFrames_ok w12 G R (N + 1) gn gc rc z1 zr ⟨(hf1.out _ _ hm12').1⟩ ⟨(hf1.out _ _ hm12').2⟩ hdd (by omega) (by omega)).mono ?_
        rintro e w13 ⟨rfl, hg13⟩
        have hm13 := hm12.gr hg13
        clear hm12 hg13 hm12' hf1
        have hm13' := hm13.sub (List.sublist_append_right _ _)
        have hfi : Fact (FrsOk N w13 (some ⟨gb, ob, none⟩) n d ins9) := ⟨(hio9.out.lent hm13' m0 (fun x h => .tail _ (List.mem_append_right _ (slots_mem h)))).frs⟩
        clear hm13'
        go_wp2_with fail
        refine (copyFrames_ok w13 N (some ⟨gb, ob, none⟩) n d ins9 hfi (by omega) (by omega)).mono ?_
        rintro e w14 ⟨NA, nc, nx, rfl, hm14, hdn, hnn⟩
        have hm14 := hm13.join hm14
        have hdn := Fact.mk hdn
        have hnn := Fact.mk hnn
        clear hm13 hfi
        go_wp2_with fail
        have hA := hm14.alloc (.cells [.slice G gn gc, .slice H hn2 hc].toArray 38)
        have hA := hA.sub (L' := Blk w14.heap.size _ :: ((Own 3 (.slice NA n nc) (fR nx) :: slots nx) ++ ((Own 3 (.slice H hn2 hc) (fR z2) :: slots z2) ++ (Own 3 (.slice (some ⟨gb, ob, none⟩) (n + n + 64) d) (fR (ins9 ++ (hs ++ marksR n 64))) :: ((Own 3 (.slice G gn gc) (fR z1) :: slots z1) ++ slots hs))))) (.cons_cons _ (List.Sublist.append_left (List.Sublist.append_left (.cons_cons _ (List.Sublist.append_right (List.sublist_append_left _ _) _)) _) _))
        have hA := Mem.blk_own (n := 2) (size := 1) hA rfl (by simp [maxLen]) (lvs_one [⟨G, gn, gc, z1⟩, ⟨H, hn2, hc, z2⟩])
        have hA := hA.perm (perm_apart _ _ _ _ _ _ _ _)
        have hA' : Mem w2 (w14.alloc (.cells [.slice G gn gc, .slice H hn2 hc].toArray 38)) (slots ([⟨G, gn, gc, z1⟩, ⟨H, hn2, hc, z2⟩].flatMap FL.fs) ++ ([⟨G, gn, gc, z1⟩, ⟨H, hn2, hc, z2⟩].map lst ++ (Own 1 (.slice (some ⟨w14.heap.size, 0, none⟩) 2 2) (lvs [⟨G, gn, gc, z1⟩, ⟨H, hn2, hc, z2⟩]) :: (Own 3 (.slice (some ⟨gb, ob, none⟩) (n + n + 64) d) (fR (ins9 ++ (hs ++ marksR n 64))) :: (slots hs ++ (Own 3 (.slice NA n nc) (fR nx) :: slots nx)))))) := by
          simp only [List.flatMap_cons, List.flatMap_nil, List.append_nil, slots_app]
          exact hA
        refine (apartFrames_ok w2 _ (some ⟨w14.heap.size, 0, none⟩) 2 2 (N + 1) [⟨G, gn, gc, z1⟩, ⟨H, hn2, hc, z2⟩] _ hA' ⟨rfl⟩ ⟨fun l hl => by
          simp at hl
          rcases hl with rfl | rfl
          · exact ⟨by show gn ≤ _; omega, hn1.out⟩
          · exact ⟨by show hn2 ≤ _; omega, hz2.out⟩⟩ (by omega) (by omega)).mono ?_
        rintro e w15 ⟨rfl, hm15⟩
        clear hA hA' hm14
        have hfn : Fact (FrsOk N w15 NA n nc nx) := ⟨frs_mem hm15 (.tail _ (List.mem_append_right _ m0)) (fun z hz => .tail _ (List.mem_append_right _ (.tail _ (slots_mem hz)))) hnn.out⟩
        go_wp2_with fail
        refine (keptFrames_ok w15 N (some ⟨gb, ob, none⟩) n d ins9 hs ⟨hio9.out.lent hm15 m0 (fun x h => .tail _ (List.mem_append_left _ (slots_mem h)))⟩ NA nc nx hfn ⟨hdn.out.symm⟩ hn (by omega)).mono ?_
        rintro e w16 ⟨rfl, hg16⟩
        have hfin := Fact.mk (Gr.trans hg0.out (Gr.trans hm15.below hg16))
        clear hm15 hfn
        go_wp2
        go_ret
        exact ⟨rfl, hfin.out⟩
end Go.Proofs.YtgflfpepfpekhaaGreat
namespace Go.Proofs.YtgflfpepfpekhaaGreat
open Go.RowKit Go.Mm Go.WideShapes
set_option maxHeartbeats 4000000
set_option maxRecDepth 100000
set_option linter.unusedSimpArgs false
theorem retD_len (xs : List Fr) (v : V2) : (retD xs v).length ≤ xs.length := by
  unfold retD
  split
  · simp
  · simp; omega
theorem return_walk (w : World) (p : Pg) (hp : Fact (PgOk w p)) (hk : p.kn ≤ 1048576) (N : Nat) (A : Option Addr) (n c : Nat) (xs : List Fr) (hx : Fact (FrsOk N w A n c xs)) (hn : n ≤ 1048576) (hN : N ≤ 1048576) (v1 v2 : Int) :
    Calls Tryz.prog 26 #[vP p, .slice A n c, .agg #[.int .i64 v1, .int .i64 v2]] w fun e w' => e = .returned (.bool true) ∧ Gr w w' := by
  have hxl : Fact (xs.length = n) := ⟨hx.out.len⟩
  obtain ⟨b2, hb2⟩ : ∃ b, Fact (decide (2 ≤ n) = b) := ⟨_, ⟨rfl⟩⟩
  have hlent := fun (w1 : World) (hg : Gr w w1) => lentProgram_ok w1 p ⟨hp.out.gr hg⟩ hk
  have hkept := Fact.mk (fun (w1 : World) (hg : Gr w w1) KA kc FA fc hs (hL : LentOk w1 p KA kc FA fc hs) => keptProgram_ok w1 p ⟨hp.out.gr hg⟩ hk KA kc FA fc hs ⟨hL⟩)
  obtain ⟨kA, kn, kc, consts, fA, fnn, fc, fns⟩ := p
  simp only [vP] at hlent ⊢
  have hlent := Fact.mk hlent
  go_enter Tryz.func26, Tryz.ntmps26
  go_upto_region 1 with (fail)
  have hm := (((Mem.start w).alloc (.cells [.slice kA kn kc, .slice fA fnn fc].toArray 26)).alloc (.cells [.int .i64 v1, .int .i64 v2].toArray 36))
  simp only [World.size_alloc] at hm
  generalize hgX : w.heap.size = g at hm ⊢
  generalize hwX : ((w.alloc (.cells [.slice kA kn kc, .slice fA fnn fc].toArray 26)).alloc (.cells [.int .i64 v1, .int .i64 v2].toArray 36)) = w1 at hm
  try refine wp_world hwX ?_
  clear hwX hgX
  go_wp2_with (refine wp_rng rfl 26 _ rfl g 0 rfl [.slice kA kn kc, .slice fA fnn fc] (rng_blk hm m1) row_P szP ?_)
  refine (hlent.out w1 hm.below).mono ?_
  rintro e wb ⟨KA, kc', FA, fc', hsP, rfl, hgb, hL⟩
  have hmb := hm.gr hgb
  have hgw := Fact.mk hmb.below
  clear hm hgb
  simp only [vP, lentP]
  go_upto_region 2 with (refine wp_setrow rfl 26 _ _ rfl _ rfl 26 _ [.slice KA kn kc', .slice FA fnn fc'] rfl ((Mem.start wb).alloc _) szP rfl (svone _ _) ?_; intro w2 hm2)
  generalize wb.heap.size = g7 at hm2 ⊢
  have hgb2 := hm2.below
  have hg0 := Fact.mk (Gr.trans hgw.out hgb2)
  have hL := Fact.mk (hL.gr hgb2)
  have hmb := Fact.mk (hmb.gr hgb2)
  have k52 : Fact (w2.cell? ⟨g + 1, 0, none⟩ = some (.int .i64 v1)) := ⟨hmb.out.cell m0 0 rfl⟩
  have k62 : Fact (w2.cell? ⟨g + 1, 1, none⟩ = some (.int .i64 v2)) := ⟨hmb.out.cell m0 1 rfl⟩
  have hm2 := hm2.gr (Gr.refl w2)
  obtain ⟨wo, hwo⟩ : ∃ wo : World, wo = w2 := ⟨_, rfl⟩
  have hq : Fact (∀ W, Gr w2 W → W.rangeAt g7 0 [.slice KA kn kc', .slice FA fnn fc']) := ⟨fun W h => rng_blk (hm2.gr h) m0⟩
  have hpr : Fact (∀ W, Gr w2 W → W.rangeAt g 0 [.slice kA kn kc, .slice fA fnn fc]) := ⟨fun W h => rng_blk (hmb.out.gr h) m1⟩
  clear hm2 hgb2 hgw hwo hlent hmb
  go_wp2_with fail
  refine (lentFrames_ok w2 N A n c xs ⟨hx.out.gr hg0.out⟩ hn (by omega)).mono ?_
  rintro e w3 ⟨B, d, hs, rfl, hm3, hhl, hfu⟩
  have hcd := OwnAt.cap (hm3.ok _ m0)
  obtain ⟨gb, ob, rfl⟩ := OwnAt.addr (hm3.ok _ m0) (by omega)
  obtain ⟨hio, hid⟩ := insOk_of hx.out hhl hfu
  generalize List.zipWith lentR xs hs = ins at hm3 hio hid
  have hio := Fact.mk hio
  have hid := Fact.mk hid
  have hnd : n ≤ d := by omega
  clear hhl hfu hcd
  have k5 := Gr.cell hm3.below k52.out
  have k6 := Gr.cell hm3.below k62.out
  go_wp2_with fail
  refine (refReturn_ok w3 N A n c xs ⟨hx.out.gr (Gr.trans hg0.out hm3.below)⟩ (by omega) (by omega) (v1, v2)).mono ?_
  rintro e w4 ⟨R, rn, rc, zr, rfl, hm4, hdr, hnr⟩
  rw [hb2.out]
  have hm4 := hm3.join hm4
  clear hm3 k5 k6
  have k5 := Gr.cell hm4.below k52.out
  have k6 := Gr.cell hm4.below k62.out
  go_wp2_with (refine wp_rng rfl 26 _ rfl g7 0 rfl [.slice KA kn kc', .slice FA fnn fc'] (hq.out _ hm4.below) row_P szP ?_)
  refine (return_ok w4 ⟨KA, kn, kc', consts, FA, fnn, fc', fns⟩ N (some ⟨gb, ob, none⟩) n d ins ⟨(hio.out.lent hm4 (List.mem_append_right _ m0) (fun x h => List.mem_append_right _ (.tail _ (slots_mem h)))).frs⟩ (by omega) (by omega) (v1, v2)).mono ?_
  rintro e w5 ⟨G, gn, gc, z1, rfl, hm5, hd1, hn1⟩
  rw [hb2.out]
  have hm5 := mem_front (hm4.join hm5)
  clear hm4 k5 k6
  have hdd : Fact (z1.map Fr.data = zr.map Fr.data) := ⟨by rw [hd1, hdr, retD_data hid.out]⟩
  have hgr : gn = rn := by
    have h1 : z1.length = gn := rd_len cR_len (by omega) (hm5.rd (.tail _ (List.mem_append_left _ (List.mem_append_left _ m0))))
    have h2 : zr.length = rn := rd_len cR_len (by omega) (hm5.rd (.tail _ (List.mem_append_left _ (List.mem_append_right _ m0))))
    have h3 := data_len hdd.out
    omega
  have hrn : rn ≤ n := by
    have h2 : zr.length = rn := rd_len cR_len (by omega) (hm5.rd (.tail _ (List.mem_append_left _ (List.mem_append_right _ m0))))
    have h3 := congrArg List.length hdr
    have h4 := retD_len xs (v1, v2)
    have h5 := hxl.out
    simp at h3
    omega
  subst hgr
  have hn1 := Fact.mk hn1
  have hnr := Fact.mk hnr
  have hf1 : Fact (∀ W C, Mem w2 W (C :: (((Own 3 (.slice G gn gc) (fR z1) :: slots z1) ++ (Own 3 (.slice R gn rc) (fR zr) :: slots zr)) ++ slots hs)) → FrsOk (N + 1) W G gn gc z1 ∧ FrsOk (N + 1) W R gn rc zr) := ⟨fun W C h => ⟨frs_mem h (.tail _ (List.mem_append_left _ (List.mem_append_left _ m0))) (fun z hz => .tail _ (List.mem_append_left _ (List.mem_append_left _ (.tail _ (slots_mem hz))))) hn1.out, frs_mem h (.tail _ (List.mem_append_left _ (List.mem_append_right _ m0))) (fun z hz => .tail _ (List.mem_append_left _ (List.mem_append_right _ (.tail _ (slots_mem hz))))) hnr.out⟩⟩
  clear hd1 hdr
  cases b2
  all_goals
    go_wp2_with fail
    refine (sameFrames_ok w5 G R (N + 1) gn gc rc z1 zr ⟨(hf1.out _ _ hm5).1⟩ ⟨(hf1.out _ _ hm5).2⟩ hdd (by omega) (by omega)).mono ?_
    rintro e w6 ⟨rfl, hg6⟩
    have hm6 := hm5.gr hg6
    clear hg6 hm5
    go_wp2_with (first | (refine wp_rng rfl 26 _ rfl g7 0 rfl [.slice KA kn kc', .slice FA fnn fc'] (hq.out _ hm6.below) row_P szP ?_) | (refine wp_rng rfl 26 _ rfl g 0 rfl [.slice kA kn kc, .slice fA fnn fc] (hpr.out _ hm6.below) row_P szP ?_))
    refine (hkept.out w6 (Gr.trans hg0.out hm6.below) KA kc' FA fc' hsP (hL.out.gr hm6.below)).mono ?_
    rintro e w7 ⟨rfl, hg7⟩
    have hm7 := hm6.gr hg7
    clear hg7 hm6
    go_wp2_with fail
    refine (keptFrames_ok w7 N (some ⟨gb, ob, none⟩) n d ins hs ⟨hio.out.lent hm7 m0 (fun x h => .tail _ (List.mem_append_right _ (slots_mem h)))⟩ A c xs ⟨hx.out.gr (Gr.trans hg0.out hm7.below)⟩ hid hn (by omega)).mono ?_
    rintro e w8 ⟨rfl, hg8⟩
    have hm8 := hm7.gr hg8
    clear hg8 hm7
  focus
    have e7 : ((n : Int) > 1) = False := eq_false (by have := hb2.out; simp at this; omega)
    go_upto_region 9 with (fail)
    obtain ⟨w9, hw9⟩ : ∃ w9 : World, w9 = w8 := ⟨_, rfl⟩
    obtain ⟨ins9, hi9⟩ : ∃ J, J = ins := ⟨_, rfl⟩
    rw [← hw9, ← hi9] at hm8
    rw [← hw9]
    rw [← hi9] at hio
    have hm9 := hm8
    have hio9 := hio
    clear hw9 hi9 e7 hm8 hio hid
  rotate_left
  focus
    obtain ⟨q, hqn⟩ : ∃ q, Fact (n = q + 2) := ⟨n - 2, ⟨by have := hb2.out; simp at this; omega⟩⟩
    have hq1 : q < n := by have := hqn.out; omega
    have hil : ins.length = n := hio.out.l1
    have e7 : ((n : Int) > 1) = True := eq_true (by have := hqn.out; omega)
    have e8 : ((n : Int) - 2) = (q : Int) := by have := hqn.out; omega
    have hql : q < (ins ++ (hs ++ marksR n 64)).length := by rw [List.length_append]; omega
    have hqe : (ins ++ (hs ++ marksR n 64)).getD q fr0 = ins.getD q fr0 := by rw [List.getD_eq_getElem?_getD, List.getElem?_append_left (by omega), ← List.getD_eq_getElem?_getD]
    have hj0 : (fR (ins ++ (hs ++ marksR n 64)))[q * 3 + 0]? = some (.int .i64 (ins.getD q fr0).fn) := by rw [fR, flatMap_at cR 3 cR_len _ q 0 (by omega), getD_some _ fr0 q hql, hqe]; rfl
    obtain ⟨g1, g2⟩ := hm8.own_cell m0 (q * 3 + 0) hj0
    have hm9 := hm8.own_set (q * 3 + 0) (by rw [fR_len]; omega) (.int .i64 (wrap64 ((ins.getD q fr0).fn + 1))) rfl
    rw [fR_fn _ q _ hql, hqe, List.set_append_left q _ (by omega)] at hm9
    have hio9 := Fact.mk (hio.out.set q hq1 { ins.getD q fr0 with fn := wrap64 ((ins.getD q fr0).fn + 1) } ⟨rfl, rfl, rfl, rfl⟩)
    simp only [Nat.add_zero] at g1 g2 hm9
    generalize ins.set q { ins.getD q fr0 with fn := wrap64 ((ins.getD q fr0).fn + 1) } = ins9 at hm9 hio9
    generalize (ins.getD q fr0).fn = qf at g1 g2 hm9
    go_upto_region 9 with (fail)
    generalize w8.setCell _ _ = w9 at hm9 ⊢
    clear g1 g2 hj0 hqe hql e8 e7 hil hm8 hio hid hqn hq1
  rotate_left
  · skip
    have k5 := Gr.cell hm9.below k52.out
    have k6 := Gr.cell hm9.below k62.out
    have hfi : Fact (FrsOk N w9 (some ⟨gb, ob, none⟩) n d ins9) := ⟨(hio9.out.lent hm9 m0 (fun x h => .tail _ (List.mem_append_right _ (slots_mem h)))).frs⟩
    go_cut [13, 14] (fun s13 s14 W => ∃ (A9 : Option Addr) (n9 c9 : Nat) (zs : List Fr), s13 = .slice A9 n9 c9 ∧ s14 = .bool (decide (2 ≤ n)) ∧ Gr w9 W ∧ FrsOk (N + 1) W A9 n9 c9 zs ∧ Fact (zs.map Fr.data = retD ins9 (v1, v2)))
    case first =>
      as_aux_lemma =>
        have hgS := (Gr.refl w9).drew
        have hmS := (Mem.start w9).drew
        refine wp_region_until (S := fun W => W.cell? ⟨g + 1, 0, none⟩ = some (.int .i64 v1) ∧ W.cell? ⟨g + 1, 1, none⟩ = some (.int .i64 v2)) 8 (by kernel_rfl) ?_
        generalize w9.drew = wd at hgS hmS ⊢
        refine wpAnyU_take 0 (v := ?vv91) rfl (by kernel_rfl) (by kernel_rfl) (fun _ _ _ h => h) ⟨Gr.cell hgS k5, Gr.cell hgS k6⟩ (Or.inl ⟨rfl, ?yv91⟩) ?rv91
        case yv91 =>
          intro W hW
          obtain ⟨hW0, hW1⟩ := hW
          go_simp
          try with_reducible rfl
        try simp only [Act.put, List.getElem_toArray, List.getElem_cons_succ, List.getElem_cons_zero, List.setIfInBounds_toArray, List.set_cons_zero, List.set_cons_succ]
        refine wpAnyU_take 2 (v := ?vv92) rfl (by kernel_rfl) (by kernel_rfl) (fun _ _ _ h => h) ⟨Gr.cell hgS k5, Gr.cell hgS k6⟩ (Or.inl ⟨rfl, ?yv92⟩) ?rv92
        case yv92 =>
          intro W hW
          obtain ⟨hW0, hW1⟩ := hW
          go_simp
          try with_reducible rfl
        try simp only [Act.put, List.getElem_toArray, List.getElem_cons_succ, List.getElem_cons_zero, List.setIfInBounds_toArray, List.set_cons_zero, List.set_cons_succ]
        refine wpAnyU_one 1 (by kernel_rfl) rfl (fun K hK => ?_)
        refine step_callw rfl 46 Tryz.f46 Tryz.func46 (by kernel_rfl) (by kernel_rfl) _ _ rfl #[.slice (some ⟨gb, ob, none⟩) n d] (by simp [Act.eval]) ?_
        refine (copyFrames_ok wd N (some ⟨gb, ob, none⟩) n d ins9 ⟨hfi.out.gr hgS⟩ (by omega) (by omega)).mono ?_
        rintro e u1 ⟨A2, c3, ys4, rfl, hz5, hd6, hn7⟩
        have g8 := Gr.trans hgS hz5.below
        have hf9 : FrsOk N u1 A2 n c3 ys4 := frs_ofU hz5 hn7
        refine ⟨_, rfl, hK _ _ (fun _ => ⟨Gr.cell g8 k5, Gr.cell g8 k6⟩) ?_⟩
        clear hK K
        try simp only [Act.put, List.getElem_toArray, List.getElem_cons_succ, List.getElem_cons_zero, List.setIfInBounds_toArray, List.set_cons_zero, List.set_cons_succ]
        refine wpAnyU_one 3 (by kernel_rfl) rfl (fun K hK => ?_)
        refine step_callw rfl 48 Tryz.f48 Tryz.func48 (by kernel_rfl) (by kernel_rfl) _ _ rfl #[.slice A2 n c3, .agg #[.int .i64 v1, .int .i64 v2]] (by simp [Act.eval]) ?_
        refine (refReturn_ok u1 N A2 n c3 ys4 ⟨hf9⟩ (by omega) (by omega) (v1, v2)).mono ?_
        rintro e u10 ⟨A11, m12, c13, zs14, rfl, hz15, hd16, hn17⟩
        have g18 := Gr.trans g8 hz15.below
        have hf19 := frs_ofU hz15 hn17
        refine ⟨_, rfl, hK _ _ (fun _ => ⟨Gr.cell g18 k5, Gr.cell g18 k6⟩) ?_⟩
        clear hK K
        try simp only [Act.put, List.getElem_toArray, List.getElem_cons_succ, List.getElem_cons_zero, List.setIfInBounds_toArray, List.set_cons_zero, List.set_cons_succ]
        refine wpAnyU_take 4 (v := ?vv93) rfl (by kernel_rfl) (by kernel_rfl) (fun _ _ _ h => h) ⟨Gr.cell g18 k5, Gr.cell g18 k6⟩ (Or.inl ⟨rfl, ?yv93⟩) ?rv93
        case yv93 =>
          intro W hW
          obtain ⟨hW0, hW1⟩ := hW
          go_simp
          try with_reducible rfl
        try simp only [Act.put, List.getElem_toArray, List.getElem_cons_succ, List.getElem_cons_zero, List.setIfInBounds_toArray, List.set_cons_zero, List.set_cons_succ]
        refine wpAnyU_take 5 (v := ?vv94) rfl (by kernel_rfl) (by kernel_rfl) (fun _ _ _ h => h) ⟨Gr.cell g18 k5, Gr.cell g18 k6⟩ (Or.inl ⟨rfl, ?yv94⟩) ?rv94
        case yv94 =>
          intro W hW
          obtain ⟨hW0, hW1⟩ := hW
          go_simp
          try with_reducible rfl
        try simp only [Act.put, List.getElem_toArray, List.getElem_cons_succ, List.getElem_cons_zero, List.setIfInBounds_toArray, List.set_cons_zero, List.set_cons_succ]
        refine wpAnyU_take 6 (v := ?vv95) rfl (by kernel_rfl) (by kernel_rfl) (fun _ _ _ h => h) ⟨Gr.cell g18 k5, Gr.cell g18 k6⟩ (Or.inl ⟨rfl, ?yv95⟩) ?rv95
        case yv95 =>
          intro W hW
          obtain ⟨hW0, hW1⟩ := hW
          go_simp
          try with_reducible rfl
        try simp only [Act.put, List.getElem_toArray, List.getElem_cons_succ, List.getElem_cons_zero, List.setIfInBounds_toArray, List.set_cons_zero, List.set_cons_succ]
        refine wpAnyU_take 7 (v := ?vv96) rfl (by kernel_rfl) (by kernel_rfl) (fun _ _ _ h => h) ⟨Gr.cell g18 k5, Gr.cell g18 k6⟩ (Or.inl ⟨rfl, ?yv96⟩) ?rv96
        case yv96 =>
          intro W hW
          obtain ⟨hW0, hW1⟩ := hW
          go_simp
          try with_reducible rfl
        try simp only [Act.put, List.getElem_toArray, List.getElem_cons_succ, List.getElem_cons_zero, List.setIfInBounds_toArray, List.set_cons_zero, List.set_cons_succ]
        refine wpAnyU_one 8 (by kernel_rfl) rfl (fun K hK => ?_)
        go_simp
        refine hK _ _ (fun h => absurd h (by decide)) ?_
        clear hK K
        refine wpAnyU_done (by kernel_rfl) ?_ _
        go_wp2
        try simp only [Act.put, List.getElem_toArray, List.getElem_cons_succ, List.getElem_cons_zero, List.setIfInBounds_toArray, List.set_cons_succ, List.set_cons_zero]
        go_meet
        case rel => exact ⟨_, _, _, _, rfl, rfl, g18, hf19, ⟨by rw [hd16]; exact retD_data hd6 _⟩⟩
    case rest =>
      obtain ⟨w10, rfl⟩ : ∃ w10 : World, w10 = wc := ⟨_, rfl⟩
      obtain ⟨W2, wn, wk, zw, rfl, rfl, hg10, hfw, hdw⟩ := hcut
      have hfw := Fact.mk hfw
      have hm10 := hm9.gr hg10
      rw [hb2.out]
      clear hm9 hg10 k5 k6 hfi
      have k5 := Gr.cell hm10.below k52.out
      have k6 := Gr.cell hm10.below k62.out
      go_wp2_with (refine wp_rng rfl 26 _ rfl g7 0 rfl [.slice KA kn kc', .slice FA fnn fc'] (hq.out _ hm10.below) row_P szP ?_)
      refine (return_ok w10 ⟨KA, kn, kc', consts, FA, fnn, fc', fns⟩ N (some ⟨gb, ob, none⟩) n d ins9 ⟨(hio9.out.lent hm10 m0 (fun x h => .tail _ (List.mem_append_right _ (slots_mem h)))).frs⟩ (by omega) (by omega) (v1, v2)).mono ?_
      rintro e w11 ⟨H, hn2, hc, z2, rfl, hm11, hd2, hz2⟩
      rw [hb2.out]
      have hfw := Fact.mk (hfw.out.gr hm11.below)
      have hm11 := hm10.join hm11
      clear hm10 k5 k6
      have hz2 := Fact.mk hz2
      have hd2 := Fact.mk (hd2.trans hdw.out.symm)
      have hf2 : FrsOk (N + 1) w11 H hn2 hc z2 := frs_mem hm11 m0 (fun z hz => List.mem_append_left _ (.tail _ (slots_mem hz))) hz2.out
      have hnw : hn2 = wn := by
        have h1 := hf2.len
        have h2 := hfw.out.len
        have h3 := data_len hd2.out
        omega
      subst hnw
      have hn2b : hn2 ≤ n := by
        have h1 := hfw.out.len
        have h2 := congrArg List.length hdw.out
        have h3 := retD_len ins9 (v1, v2)
        have h4 := hio9.out.l1
        simp at h2
        omega
      have hf2 := Fact.mk hf2
      clear hdw
      go_wp2_with fail
      refine (sameFrames_ok w11 H W2 (N + 1) hn2 hc wk z2 zw hf2 hfw hd2 (by omega) (by omega)).mono ?_
      rintro e w12 ⟨rfl, hg12⟩
      have hm12 := hm11.gr hg12
      clear hm11 hg12 hfw hf2
      have hm12' := hm12.sub (List.sublist_append_right _ _)
      go_wp2_with fail
      refine (sameFrames_ok w12 G R (N + 1) gn gc rc z1 zr ⟨(hf1.out _ _ hm12').1⟩ ⟨(hf1.out _ _ hm12').2⟩ hdd (by omega) (by omega)).mono ?_
      rintro e w13 ⟨rfl, hg13⟩
      have hm13 := hm12.gr hg13
      clear hm12 hg13 hm12' hf1
      have hm13' := hm13.sub (List.sublist_append_right _ _)
      have hfi : Fact (FrsOk N w13 (some ⟨gb, ob, none⟩) n d ins9) := ⟨(hio9.out.lent hm13' m0 (fun x h => .tail _ (List.mem_append_right _ (slots_mem h)))).frs⟩
      clear hm13'
      go_wp2_with fail
      refine (copyFrames_ok w13 N (some ⟨gb, ob, none⟩) n d ins9 hfi (by omega) (by omega)).mono ?_
      rintro e w14 ⟨NA, nc, nx, rfl, hm14, hdn, hnn⟩
      have hm14 := hm13.join hm14
      have hdn := Fact.mk hdn
      have hnn := Fact.mk hnn
      clear hm13 hfi
      go_wp2_with fail
      have hA := hm14.alloc (.cells [.slice G gn gc, .slice H hn2 hc].toArray 38)
      have hA := hA.sub (L' := Blk w14.heap.size _ :: ((Own 3 (.slice NA n nc) (fR nx) :: slots nx) ++ ((Own 3 (.slice H hn2 hc) (fR z2) :: slots z2) ++ (Own 3 (.slice (some ⟨gb, ob, none⟩) (n + n + 64) d) (fR (ins9 ++ (hs ++ marksR n 64))) :: ((Own 3 (.slice G gn gc) (fR z1) :: slots z1) ++ slots hs))))) (.cons_cons _ (List.Sublist.append_left (List.Sublist.append_left (.cons_cons _ (List.Sublist.append_right (List.sublist_append_left _ _) _)) _) _))
      have hA := Mem.blk_own (n := 2) (size := 1) hA rfl (by simp [maxLen]) (lvs_one [⟨G, gn, gc, z1⟩, ⟨H, hn2, hc, z2⟩])
      have hA := hA.perm (perm_apart _ _ _ _ _ _ _ _)
      have hA' : Mem w2 (w14.alloc (.cells [.slice G gn gc, .slice H hn2 hc].toArray 38)) (slots ([⟨G, gn, gc, z1⟩, ⟨H, hn2, hc, z2⟩].flatMap FL.fs) ++ ([⟨G, gn, gc, z1⟩, ⟨H, hn2, hc, z2⟩].map lst ++ (Own 1 (.slice (some ⟨w14.heap.size, 0, none⟩) 2 2) (lvs [⟨G, gn, gc, z1⟩, ⟨H, hn2, hc, z2⟩]) :: (Own 3 (.slice (some ⟨gb, ob, none⟩) (n + n + 64) d) (fR (ins9 ++ (hs ++ marksR n 64))) :: (slots hs ++ (Own 3 (.slice NA n nc) (fR nx) :: slots nx)))))) := by
        simp only [List.flatMap_cons, List.flatMap_nil, List.append_nil, slots_app]
        exact hA
      refine (apartFrames_ok w2 _ (some ⟨w14.heap.size, 0, none⟩) 2 2 (N + 1) [⟨G, gn, gc, z1⟩, ⟨H, hn2, hc, z2⟩] _ hA' ⟨rfl⟩ ⟨fun l hl => by
        simp at hl
        rcases hl with rfl | rfl
        · exact ⟨by show gn ≤ _; omega, hn1.out⟩
        · exact ⟨by show hn2 ≤ _; omega, hz2.out⟩⟩ (by omega) (by omega)).mono ?_
      rintro e w15 ⟨rfl, hm15⟩
      clear hA hA' hm14
      have hfn : Fact (FrsOk N w15 NA n nc nx) := ⟨frs_mem hm15 (.tail _ (List.mem_append_right _ m0)) (fun z hz => .tail _ (List.mem_append_right _ (.tail _ (slots_mem hz)))) hnn.out⟩
      go_wp2_with fail
      refine (keptFrames_ok w15 N (some ⟨gb, ob, none⟩) n d ins9 hs ⟨hio9.out.lent hm15 m0 (fun x h => .tail _ (List.mem_append_left _ (slots_mem h)))⟩ NA nc nx hfn ⟨hdn.out.symm⟩ hn (by omega)).mono ?_
      rintro e w16 ⟨rfl, hg16⟩
      have hfin := Fact.mk (Gr.trans hg0.out (Gr.trans hm15.below hg16))
      clear hm15 hfn
      go_wp2
      go_ret
      exact ⟨rfl, hfin.out⟩
  · skip
    have k5 := Gr.cell hm9.below k52.out
    have k6 := Gr.cell hm9.below k62.out
    have hfi : Fact (FrsOk N w9 (some ⟨gb, ob, none⟩) n d ins9) := ⟨(hio9.out.lent hm9 m0 (fun x h => .tail _ (List.mem_append_right _ (slots_mem h)))).frs⟩
    go_cut [13, 14] (fun s13 s14 W => ∃ (A9 : Option Addr) (n9 c9 : Nat) (zs : List Fr), s13 = .slice A9 n9 c9 ∧ s14 = .bool (decide (2 ≤ n)) ∧ Gr w9 W ∧ FrsOk (N + 1) W A9 n9 c9 zs ∧ Fact (zs.map Fr.data = retD ins9 (v1, v2)))
    case first =>
      as_aux_lemma =>
        have hgS := (Gr.refl w9).drew
        have hmS := (Mem.start w9).drew
        refine wp_region_until (S := fun W => W.cell? ⟨g + 1, 0, none⟩ = some (.int .i64 v1) ∧ W.cell? ⟨g + 1, 1, none⟩ = some (.int .i64 v2)) 8 (by kernel_rfl) ?_
        generalize w9.drew = wd at hgS hmS ⊢
        refine wpAnyU_take 0 (v := ?vv9_a_1) rfl (by kernel_rfl) (by kernel_rfl) (fun _ _ _ h => h) ⟨Gr.cell hgS k5, Gr.cell hgS k6⟩ (Or.inl ⟨rfl, ?yv9_a_1⟩) ?rv9_a_1
        case yv9_a_1 =>
          intro W hW
          obtain ⟨hW0, hW1⟩ := hW
          go_simp
          try with_reducible rfl
        try simp only [Act.put, List.getElem_toArray, List.getElem_cons_succ, List.getElem_cons_zero, List.setIfInBounds_toArray, List.set_cons_zero, List.set_cons_succ]
        refine wpAnyU_take 2 (v := ?vv9_a_2) rfl (by kernel_rfl) (by kernel_rfl) (fun _ _ _ h => h) ⟨Gr.cell hgS k5, Gr.cell hgS k6⟩ (Or.inl ⟨rfl, ?yv9_a_2⟩) ?rv9_a_2
        case yv9_a_2 =>
          intro W hW
          obtain ⟨hW0, hW1⟩ := hW
          go_simp
          try with_reducible rfl
        try simp only [Act.put, List.getElem_toArray, List.getElem_cons_succ, List.getElem_cons_zero, List.setIfInBounds_toArray, List.set_cons_zero, List.set_cons_succ]
        refine wpAnyU_one 1 (by kernel_rfl) rfl (fun K hK => ?_)
        refine step_callw rfl 46 Tryz.f46 Tryz.func46 (by kernel_rfl) (by kernel_rfl) _ _ rfl #[.slice (some ⟨gb, ob, none⟩) n d] (by simp [Act.eval]) ?_
        refine (copyFrames_ok wd N (some ⟨gb, ob, none⟩) n d ins9 ⟨hfi.out.gr hgS⟩ (by omega) (by omega)).mono ?_
        rintro e u20 ⟨A21, c22, ys23, rfl, hz24, hd25, hn26⟩
        have g27 := Gr.trans hgS hz24.below
        have hf28 : FrsOk N u20 A21 n c22 ys23 := frs_ofU hz24 hn26
        refine ⟨_, rfl, hK _ _ (fun _ => ⟨Gr.cell g27 k5, Gr.cell g27 k6⟩) ?_⟩
        clear hK K
        try simp only [Act.put, List.getElem_toArray, List.getElem_cons_succ, List.getElem_cons_zero, List.setIfInBounds_toArray, List.set_cons_zero, List.set_cons_succ]
        refine wpAnyU_one 3 (by kernel_rfl) rfl (fun K hK => ?_)
        refine step_callw rfl 48 Tryz.f48 Tryz.func48 (by kernel_rfl) (by kernel_rfl) _ _ rfl #[.slice A21 n c22, .agg #[.int .i64 v1, .int .i64 v2]] (by simp [Act.eval]) ?_
        refine (refReturn_ok u20 N A21 n c22 ys23 ⟨hf28⟩ (by omega) (by omega) (v1, v2)).mono ?_
        rintro e u29 ⟨A30, m31, c32, zs33, rfl, hz34, hd35, hn36⟩
        have g37 := Gr.trans g27 hz34.below
        have hf38 := frs_ofU hz34 hn36
        refine ⟨_, rfl, hK _ _ (fun _ => ⟨Gr.cell g37 k5, Gr.cell g37 k6⟩) ?_⟩
        clear hK K
        try simp only [Act.put, List.getElem_toArray, List.getElem_cons_succ, List.getElem_cons_zero, List.setIfInBounds_toArray, List.set_cons_zero, List.set_cons_succ]
        refine wpAnyU_take 4 (v := ?vv9_a_3) rfl (by kernel_rfl) (by kernel_rfl) (fun _ _ _ h => h) ⟨Gr.cell g37 k5, Gr.cell g37 k6⟩ (Or.inl ⟨rfl, ?yv9_a_3⟩) ?rv9_a_3
        case yv9_a_3 =>
          intro W hW
          obtain ⟨hW0, hW1⟩ := hW
          go_simp
          try with_reducible rfl
        try simp only [Act.put, List.getElem_toArray, List.getElem_cons_succ, List.getElem_cons_zero, List.setIfInBounds_toArray, List.set_cons_zero, List.set_cons_succ]
        refine wpAnyU_take 5 (v := ?vv9_a_4) rfl (by kernel_rfl) (by kernel_rfl) (fun _ _ _ h => h) ⟨Gr.cell g37 k5, Gr.cell g37 k6⟩ (Or.inl ⟨rfl, ?yv9_a_4⟩) ?rv9_a_4
        case yv9_a_4 =>
          intro W hW
          obtain ⟨hW0, hW1⟩ := hW
          go_simp
          try with_reducible rfl
        try simp only [Act.put, List.getElem_toArray, List.getElem_cons_succ, List.getElem_cons_zero, List.setIfInBounds_toArray, List.set_cons_zero, List.set_cons_succ]
        refine wpAnyU_take 6 (v := ?vv9_a_5) rfl (by kernel_rfl) (by kernel_rfl) (fun _ _ _ h => h) ⟨Gr.cell g37 k5, Gr.cell g37 k6⟩ (Or.inl ⟨rfl, ?yv9_a_5⟩) ?rv9_a_5
        case yv9_a_5 =>
          intro W hW
          obtain ⟨hW0, hW1⟩ := hW
          go_simp
          try with_reducible rfl
        try simp only [Act.put, List.getElem_toArray, List.getElem_cons_succ, List.getElem_cons_zero, List.setIfInBounds_toArray, List.set_cons_zero, List.set_cons_succ]
        refine wpAnyU_take 7 (v := ?vv9_a_6) rfl (by kernel_rfl) (by kernel_rfl) (fun _ _ _ h => h) ⟨Gr.cell g37 k5, Gr.cell g37 k6⟩ (Or.inl ⟨rfl, ?yv9_a_6⟩) ?rv9_a_6
        case yv9_a_6 =>
          intro W hW
          obtain ⟨hW0, hW1⟩ := hW
          go_simp
          try with_reducible rfl
        try simp only [Act.put, List.getElem_toArray, List.getElem_cons_succ, List.getElem_cons_zero, List.setIfInBounds_toArray, List.set_cons_zero, List.set_cons_succ]
        refine wpAnyU_one 8 (by kernel_rfl) rfl (fun K hK => ?_)
        go_simp
        refine hK _ _ (fun h => absurd h (by decide)) ?_
        clear hK K
        refine wpAnyU_done (by kernel_rfl) ?_ _
        go_wp2
        try simp only [Act.put, List.getElem_toArray, List.getElem_cons_succ, List.getElem_cons_zero, List.setIfInBounds_toArray, List.set_cons_succ, List.set_cons_zero]
        go_meet
        case rel => exact ⟨_, _, _, _, rfl, rfl, g37, hf38, ⟨by rw [hd35]; exact retD_data hd25 _⟩⟩
    case rest =>
      obtain ⟨w10, rfl⟩ : ∃ w10 : World, w10 = wc := ⟨_, rfl⟩
      obtain ⟨W2, wn, wk, zw, rfl, rfl, hg10, hfw, hdw⟩ := hcut
      have hfw := Fact.mk hfw
      have hm10 := hm9.gr hg10
      rw [hb2.out]
      clear hm9 hg10 k5 k6 hfi
      have k5 := Gr.cell hm10.below k52.out
      have k6 := Gr.cell hm10.below k62.out
      go_wp2_with (refine wp_rng rfl 26 _ rfl g7 0 rfl [.slice KA kn kc', .slice FA fnn fc'] (hq.out _ hm10.below) row_P szP ?_)
      refine (return_ok w10 ⟨KA, kn, kc', consts, FA, fnn, fc', fns⟩ N (some ⟨gb, ob, none⟩) n d ins9 ⟨(hio9.out.lent hm10 m0 (fun x h => .tail _ (List.mem_append_right _ (slots_mem h)))).frs⟩ (by omega) (by omega) (v1, v2)).mono ?_
      rintro e w11 ⟨H, hn2, hc, z2, rfl, hm11, hd2, hz2⟩
      rw [hb2.out]
      have hfw := Fact.mk (hfw.out.gr hm11.below)
      have hm11 := hm10.join hm11
      clear hm10 k5 k6
      have hz2 := Fact.mk hz2
      have hd2 := Fact.mk (hd2.trans hdw.out.symm)
      have hf2 : FrsOk (N + 1) w11 H hn2 hc z2 := frs_mem hm11 m0 (fun z hz => List.mem_append_left _ (.tail _ (slots_mem hz))) hz2.out
      have hnw : hn2 = wn := by
        have h1 := hf2.len
        have h2 := hfw.out.len
        have h3 := data_len hd2.out
        omega
      subst hnw
      have hn2b : hn2 ≤ n := by
        have h1 := hfw.out.len
        have h2 := congrArg List.length hdw.out
        have h3 := retD_len ins9 (v1, v2)
        have h4 := hio9.out.l1
        simp at h2
        omega
      have hf2 := Fact.mk hf2
      clear hdw
      go_wp2_with fail
      refine (sameFrames_ok w11 H W2 (N + 1) hn2 hc wk z2 zw hf2 hfw hd2 (by omega) (by omega)).mono ?_
      rintro e w12 ⟨rfl, hg12⟩
      have hm12 := hm11.gr hg12
      clear hm11 hg12 hfw hf2
      have hm12' := hm12.sub (List.sublist_append_right _ _)
      go_wp2_with fail
      refine (sameFrames_ok w12 G R (N + 1) gn gc rc z1 zr ⟨(hf1.out _ _ hm12').1⟩ ⟨(hf1.out _ _ hm12').2⟩ hdd (by omega) (by omega)).mono ?_
      rintro e w13 ⟨rfl, hg13⟩
      have hm13 := hm12.gr hg13
      clear hm12 hg13 hm12' hf1
      have hm13' := hm13.sub (List.sublist_append_right _ _)
      have hfi : Fact (FrsOk N w13 (some ⟨gb, ob, none⟩) n d ins9) := ⟨(hio9.out.lent hm13' m0 (fun x h => .tail _ (List.mem_append_right _ (slots_mem h)))).frs⟩
      clear hm13'
      go_wp2_with fail
      refine (copyFrames_ok w13 N (some ⟨gb, ob, none⟩) n d ins9 hfi (by omega) (by omega)).mono ?_
      rintro e w14 ⟨NA, nc, nx, rfl, hm14, hdn, hnn⟩
      have hm14 := hm13.join hm14
      have hdn := Fact.mk hdn
      have hnn := Fact.mk hnn
      clear hm13 hfi
      go_wp2_with fail
      have hA := hm14.alloc (.cells [.slice G gn gc, .slice H hn2 hc].toArray 38)
      have hA := hA.sub (L' := Blk w14.heap.size _ :: ((Own 3 (.slice NA n nc) (fR nx) :: slots nx) ++ ((Own 3 (.slice H hn2 hc) (fR z2) :: slots z2) ++ (Own 3 (.slice (some ⟨gb, ob, none⟩) (n + n + 64) d) (fR (ins9 ++ (hs ++ marksR n 64))) :: ((Own 3 (.slice G gn gc) (fR z1) :: slots z1) ++ slots hs))))) (.cons_cons _ (List.Sublist.append_left (List.Sublist.append_left (.cons_cons _ (List.Sublist.append_right (List.sublist_append_left _ _) _)) _) _))
      have hA := Mem.blk_own (n := 2) (size := 1) hA rfl (by simp [maxLen]) (lvs_one [⟨G, gn, gc, z1⟩, ⟨H, hn2, hc, z2⟩])
      have hA := hA.perm (perm_apart _ _ _ _ _ _ _ _)
      have hA' : Mem w2 (w14.alloc (.cells [.slice G gn gc, .slice H hn2 hc].toArray 38)) (slots ([⟨G, gn, gc, z1⟩, ⟨H, hn2, hc, z2⟩].flatMap FL.fs) ++ ([⟨G, gn, gc, z1⟩, ⟨H, hn2, hc, z2⟩].map lst ++ (Own 1 (.slice (some ⟨w14.heap.size, 0, none⟩) 2 2) (lvs [⟨G, gn, gc, z1⟩, ⟨H, hn2, hc, z2⟩]) :: (Own 3 (.slice (some ⟨gb, ob, none⟩) (n + n + 64) d) (fR (ins9 ++ (hs ++ marksR n 64))) :: (slots hs ++ (Own 3 (.slice NA n nc) (fR nx) :: slots nx)))))) := by
        simp only [List.flatMap_cons, List.flatMap_nil, List.append_nil, slots_app]
        exact hA
      refine (apartFrames_ok w2 _ (some ⟨w14.heap.size, 0, none⟩) 2 2 (N + 1) [⟨G, gn, gc, z1⟩, ⟨H, hn2, hc, z2⟩] _ hA' ⟨rfl⟩ ⟨fun l hl => by
        simp at hl
        rcases hl with rfl | rfl
        · exact ⟨by show gn ≤ _; omega, hn1.out⟩
        · exact ⟨by show hn2 ≤ _; omega, hz2.out⟩⟩ (by omega) (by omega)).mono ?_
      rintro e w15 ⟨rfl, hm15⟩
      clear hA hA' hm14
      have hfn : Fact (FrsOk N w15 NA n nc nx) := ⟨frs_mem hm15 (.tail _ (List.mem_append_right _ m0)) (fun z hz => .tail _ (List.mem_append_right _ (.tail _ (slots_mem hz)))) hnn.out⟩
      go_wp2_with fail
      refine (keptFrames_ok w15 N (some ⟨gb, ob, none⟩) n d ins9 hs ⟨hio9.out.lent hm15 m0 (fun x h => .tail _ (List.mem_append_left _ (slots_mem h)))⟩ NA nc nx hfn ⟨hdn.out.symm⟩ hn (by omega)).mono ?_
      rintro e w16 ⟨rfl, hg16⟩
      have hfin := Fact.mk (Gr.trans hg0.out (Gr.trans hm15.below hg16))
      clear hm15 hfn
      go_wp2
      go_ret
      exact ⟨rfl, hfin.out⟩
end Go.Proofs.YtgflfpepfpekhaaGreat
