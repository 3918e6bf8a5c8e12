import Derived.Test.YtgflfpepfpekhaaFrRefT
import Derived.Test.YtgflfpepfpekhaaFrRefR
import Derived.Test.YtgflfpepfpekhaaFrCatch
import Derived.Test.YtgflfpepfpekhaaCutw
import Derived.Test.YtgflfpepfpekhaaFrQ
namespace Go.Proofs.Ytgflfpepfpekhaa
open Go.RowKit Go.Mm
set_option maxHeartbeats 2000000
set_option maxRecDepth 100000
set_option linter.unusedSimpArgs false
theorem refCatch_ok (w : World) (p : Pg) (hp : Fact (PgOk w p)) (N : Nat) (A : Option Addr) (n c : Nat) (xs : List Fr) (hx : Fact (FrsOk N w A n c xs)) (v : V2) (hn : n ≤ 1048577) (hN : N ≤ 1999999) :
    Calls Try.prog 44 #[vP p, .slice A n c, .agg (cV v).toArray] w fun e w' => CatchR w w' (N + 1) (catchD p v (xs.map Fr.data) n) e := by
  obtain ⟨iV, vi, vz0, vz1, vz2⟩ := info_parts inf_V
  have hl := Fact.mk hx.out.len
  have htk := fun (f : Fr) (hf : f.n ≤ 2000000) (W : World) (hW : Gr w W) => refTakes_ok W p ⟨hp.out.gr hW⟩ f hf
  have hfa : Fact (∀ i g, fnAt p i = some g → ∃ b o k, i = ((k : Nat) : Int) ∧ p.fA = some ⟨b, o, none⟩ ∧ w.rangeAt b (o + k * 5) (cF g) ∧ k < p.fn ∧ FnOk w g ∧ g.hn ≤ 1048576) := ⟨fun i g h => by
    unfold fnAt at h
    split at h
    · rename_i hi
      cases h
      have hl : p.fns.length = p.fn := rd_len cF_len (by omega) hp.out.fns
      have hm : p.fns.getD i.toNat fn0 ∈ p.fns := List.mem_of_getElem? (getD_some p.fns fn0 i.toNat (by omega))
      obtain ⟨b, o, eA, hr, _, _⟩ := rd_at cF_len (by omega) fn0 hp.out.fns i.toNat (by omega)
      exact ⟨b, o, i.toNat, by omega, eA, hr, by omega, hp.out.each _ hm, (hp.out.small.2 _ hm).1⟩
    · cases h⟩
  obtain ⟨v1, v2⟩ := v
  obtain ⟨kA, kn, kc, consts, fA, fnn, fc, fns⟩ := p
  simp only [vP, cV] at htk ⊢
  go_enter Try.func44, Try.ntmps44
  go_upto_region 1 with (fail)
  have hm := (((Mem.start w).alloc (.cells [.slice kA kn kc, .slice fA fnn fc].toArray 25)).alloc (.cells [.int .i64 v1, .int .i64 v2].toArray 41))
  simp only [World.size_alloc] at hm
  generalize hgX : w.heap.size = g at hm ⊢
  generalize hwX : ((w.alloc (.cells [.slice kA kn kc, .slice fA fnn fc].toArray 25)).alloc (.cells [.int .i64 v1, .int .i64 v2].toArray 41)) = w1 at hm
  try refine wp_world hwX ?_
  clear hwX hgX
  go_wp2
  go_loopw [8] (fun i w' => ∃ (k : Nat), i = .int .i64 (k : Int) ∧ k ≤ n ∧ Fact (catchD ⟨kA, kn, kc, consts, fA, fnn, fc, fns⟩ (v1, v2) (xs.map Fr.data) n = catchD ⟨kA, kn, kc, consts, fA, fnn, fc, fns⟩ (v1, v2) (xs.map Fr.data) k) ∧ Mem w w' [Blk (g + 1) (.cells [.int .i64 v1, .int .i64 v2].toArray 41), Blk g (.cells [.slice kA kn kc, .slice fA fnn fc].toArray 25)]) (fun i _ => (intOf i).toNat)
  case atStart => exact ⟨n, rfl, by omega, ⟨rfl⟩, hm⟩
  case round =>
    clear hm
    obtain ⟨k, rfl, hk, hc, hm⟩ := hrel
    cases k with
    | zero =>
      go_wp2
      go_ret2
      rw [hc.out]
      exact ⟨rfl, hm.below⟩
    | succ k =>
      have e0 : ((k + 1 : Nat) : Int) = (k : Int) + 1 := by omega
      rw [e0]
      clear e0
      have hgt : ((k : Int) + 1 > 0) = True := eq_true (by omega)
      have e1 : (k : Int) + 1 - 1 = (k : Int) := Int.add_sub_cancel _ _
      have hkn : k < n := by omega
      obtain ⟨b, o, rfl, r1, hok, _⟩ := hx.out.at k (by omega)
      have hxe : ∃ x, Fact (xs.getD k fr0 = x) := ⟨_, ⟨rfl⟩⟩
      obtain ⟨x, hxe⟩ := hxe
      rw [hxe.out] at r1 hok
      have r1 := rng_gr r1 hm.below
      have hxn := hok.2
      have hkc : k + 1 ≤ c := by obtain ⟨_, _, _, e, _, h, _⟩ := hx.out.rd; cases e; omega
      have hxl := Fact.mk hok.len
      have hok := Fact.mk hok
      have htx := fun (W : World) (hW : Gr w W) => htk x (by omega) W hW
      obtain ⟨xfn, xpc, xA, xn, xc, xsl⟩ := x
      simp only [cR] at htx r1 hxl hxn
      have hcd : Fact (catchD ⟨kA, kn, kc, consts, fA, fnn, fc, fns⟩ (v1, v2) (xs.map Fr.data) (k + 1) = match takesG (fnAt ⟨kA, kn, kc, consts, fA, fnn, fc, fns⟩ xfn) xpc xn with
        | some (t, st) => some ((xs.map Fr.data).take k ++ [(xfn, t, xsl.take st ++ [(v1, v2)])])
        | none => catchD ⟨kA, kn, kc, consts, fA, fnn, fc, fns⟩ (v1, v2) (xs.map Fr.data) k) := ⟨by
        rw [catchD, data_getD, hxe.out]; simp only [Fr.data, hxl.out]
        generalize takesG _ xpc xn = T
        rcases T with _ | ⟨t, st⟩ <;> rfl⟩
      go_upto_region 5 with (first | (refine wp_rng rfl 30 _ rfl b _ rfl [.int .i64 xfn, .int .i64 xpc, .slice xA xn xc] r1 row_R szR ?_) | (refine wp_setrow rfl 30 _ _ rfl _ rfl 30 _ [.int .i64 xfn, .int .i64 xpc, .slice xA xn xc] rfl (hm.alloc _) szR rfl (cR_one ⟨xfn, xpc, xA, xn, xc, xsl⟩) ?_; intro w4 hm4))
      generalize wr.heap.size = g9 at hm4 ⊢
      clear r1 htk
      go_wp2_with (first | (refine wp_rng rfl 25 _ rfl g 0 rfl [.slice kA kn kc, .slice fA fnn fc] (rng_blk hm4 m2) row_P szP ?_) | (refine wp_rng rfl 30 _ rfl g9 0 rfl [.int .i64 xfn, .int .i64 xpc, .slice xA xn xc] (rng_blk hm4 m0) row_R szR ?_))
      refine (htx w4 hm4.below).mono ?_
      rintro e w5 ⟨hT, hg5⟩
      have hm5 := hm4.gr hg5
      clear hm4 hg5 htx
      unfold TakesI at hT
      cases hG : takesG (fnAt ⟨kA, kn, kc, consts, fA, fnn, fc, fns⟩ xfn) xpc xn with
      | none =>
        rw [hG] at hT hcd
        subst hT
        go_wp2
        go_roundw
        case rel => exact ⟨k, by go_num, by omega, ⟨hc.out.trans hcd.out⟩, hm5.tail⟩
        case measure => simp [intOf]
      | some r =>
        obtain ⟨t, st⟩ := r
        rw [hG] at hT hcd
        obtain ⟨h, gf, rfl, hge, hkh, ht, hst, hstn⟩ := hT
        obtain ⟨fb, fo, j, rfl, eA, fr, hkf, hFn, hhn⟩ := hfa.out _ _ hge
        try dsimp only at eA hkf
        subst eA
        clear hge hG hfa
        have hrh := Fact.mk hFn.2
        have hFinal : Fact (catchD ⟨kA, kn, kc, consts, (some ⟨fb, fo, none⟩), fnn, fc, fns⟩ (v1, v2) (xs.map Fr.data) n = some ((xs.map Fr.data).take k ++ [((j : Int), t, xsl.take st ++ [(v1, v2)])])) := ⟨hc.out.trans hcd.out⟩
        clear hcd hc hFn
        obtain ⟨name, params, locals, cA, cn, cc, code, hA, hhn', hhc, hands⟩ := gf
        simp only [cF] at fr hst hrh hkh hhn ht
        obtain ⟨hb, ho, eh, rh, _, _⟩ := rd_at cH_len (by omega) (0, 0, 0, 0) hrh.out h hkh
        subst eh
        generalize hands.getD h (0, 0, 0, 0) = hx4 at ht hst rh
        obtain ⟨x1, x2, x3, x4⟩ := hx4
        dsimp only at ht hst
        subst ht
        have fr := rng_gr fr hm5.below
        have c1 := hm5.cell m2 1 rfl
        have c3 := hm5.cell m0 0 rfl
        go_upto_region 8 with (first | (refine wp_rng rfl 87 _ rfl fb _ rfl [.string name, .int .i64 params, .int .i64 locals, .slice cA cn cc, .slice (some ⟨hb, ho, none⟩) hhn' hhc] fr row_F szF ?_) | (refine wp_setrow rfl 87 _ _ rfl _ rfl 87 _ [.string name, .int .i64 params, .int .i64 locals, .slice cA cn cc, .slice (some ⟨hb, ho, none⟩) hhn' hhc] rfl (hm5.alloc _) szF rfl (cF_one ⟨name, params, locals, cA, cn, cc, code, (some ⟨hb, ho, none⟩), hhn', hhc, hands⟩) ?_; intro w6 hm6))
        generalize w5.heap.size = g11 at hm6 ⊢
        clear c1 c3 fr hm5 hrh
        go_wp2_with fail
        refine (copyFrames_ok w6 N (some ⟨b, o, none⟩) (k + 1) c (xs.take (k + 1)) ⟨(hx.out.pre (k + 1) (by omega)).gr hm6.below⟩ (by omega) (by omega)).mono ?_
        rintro e w7 ⟨A', c', ys, rfl, hm7, hyd, hyn⟩
        have htk : Fact (xs.take (k + 1) = xs.take k ++ [xs.getD k fr0]) := ⟨take_snoc _ _ _ (by have := hl.out; omega)⟩
        obtain ⟨ys0, y, rfl, hy0⟩ := snoc_of_len (l := ys) (k := k) (by have := data_len hyd; rw [this, List.length_take]; have := hl.out; omega)
        obtain ⟨gA, oA, rfl⟩ := OwnAt.addr (hm7.ok _ m0) (by have := OwnAt.cap (hm7.ok _ m0); omega)
        have hyy : ys0.map Fr.data = (xs.take k).map Fr.data ∧ y.data = (xs.getD k fr0).data := by
          rw [htk.out, List.map_append, List.map_append] at hyd
          have := List.append_inj' hyd rfl
          exact ⟨this.1, by simpa using this.2⟩
        rw [hxe.out] at hyy
        have hyy := Fact.mk hyy
        have hyn := Fact.mk hyn
        have hmj : Mem w w7 (Own 3 (.slice (some ⟨gA, oA, none⟩) (k + 1) c') (fR (ys0 ++ [y])) :: (slots ys0 ++ (slot y :: [Blk g11 (.cells [.string name, .int .i64 params, .int .i64 locals, .slice cA cn cc, .slice (some ⟨hb, ho, none⟩) hhn' hhc].toArray 87), Blk g9 (.cells [.int .i64 (j : Int), .int .i64 xpc, .slice xA xn xc].toArray 30), Blk (g + 1) (.cells [.int .i64 v1, .int .i64 v2].toArray 41), Blk g (.cells [.slice kA kn kc, .slice (some ⟨fb, fo, none⟩) fnn fc].toArray 25)]))) := by
          have := hm6.join hm7
          rw [slots_app, List.cons_append, List.append_assoc] at this
          exact this
        obtain ⟨yfn, ypc, yA, yn, yc, ysl⟩ := y
        have hj2 : Fact ((fR (ys0 ++ [⟨yfn, ypc, yA, yn, yc, ysl⟩]))[k * 3 + 2]? = some (.slice yA yn yc)) := ⟨by rw [fR, flatMap_at cR 3 cR_len _ k 2 (by omega), List.getElem?_append_right (by omega), hy0, Nat.sub_self]; rfl⟩
        have q2 := hmj.cell (g := g11) (t := 87) (fr := (0, 0)) (cs := [.string name, .int .i64 params, .int .i64 locals, .slice cA cn cc, .slice (some ⟨hb, ho, none⟩) hhn' hhc]) (by simp) 2 rfl
        have q4 := hmj.cell (g := g11) (t := 87) (fr := (0, 0)) (cs := [.string name, .int .i64 params, .int .i64 locals, .slice cA cn cc, .slice (some ⟨hb, ho, none⟩) hhn' hhc]) (by simp) 4 rfl
        have rh0 : Fact (∀ W, Gr w W → W.rangeAt hb (ho + h * 4) (cH (x1, x2, x3, x4))) := ⟨fun W hW => rng_gr rh hW⟩
        have rh := rng_gr rh hmj.below
        have z3 : w7.cell? ⟨hb, ho + h * 4 + 3, none⟩ = some (.int .i64 x4) := rh 3 _ rfl
        have e2 : locals + x4 = (st : Int) := hst
        have e3 : IntKind.i64.wrap (st : Int) = (st : Int) := IntWalk.i64_in _ (by omega)
        clear hm6 hm7 hyd
        go_upto_region 9 with (fail)
        go_quiet (fail)
        have hg9 : Gr w7 (w7.drewN nq) := (Gr.refl _).drewN _
        have hm8 := hmj.gr hg9
        have rx := Fact.mk (Gr.trans hmj.below hg9)
        clear hmj hg9 q2 q4 z3 e2 e3 hst
        generalize w7.drewN nq = w8 at *
        have hxp : Fact (RdC w8 2 (.slice xA st xc) (fV (xsl.take st))) := ⟨by have h := (hok.out.gr rx.out).1.pre st hstn; rwa [← fV_take] at h⟩
        have hsc : st ≤ xc := by obtain ⟨_, _, _, e, _, h, _⟩ := hxp.out; cases e; exact h
        have k3 := hm8.cell (g := g9) (t := 30) (fr := (0, 0)) (cs := [.int .i64 (j : Int), .int .i64 xpc, .slice xA xn xc]) (by simp) 2 rfl
        have k5 := hm8.cell (g := g + 1) (t := 41) (fr := (0, 0)) (cs := [.int .i64 v1, .int .i64 v2]) (by simp) 0 rfl
        have k6 := hm8.cell (g := g + 1) (t := 41) (fr := (0, 0)) (cs := [.int .i64 v1, .int .i64 v2]) (by simp) 1 rfl
        have e2 : IntKind.i64.wrap (k : Int) = (k : Int) := IntWalk.i64_in _ (by omega)
        have e4 : (k : Int) < (k : Int) + 1 := by omega
        go_upto_region 10 with (fail)
        go_cut [] (fun W => ∃ (C : Option Addr) (cc' : Nat), Mem w W (Own 3 (.slice (some ⟨gA, oA, none⟩) (k + 1) c') (fR (ys0 ++ [⟨yfn, ypc, C, st + 1, cc', xsl.take st ++ [(v1, v2)]⟩])) :: Own 2 (.slice C (st + 1) cc') (fV (xsl.take st ++ [(v1, v2)])) :: (slots ys0 ++ (slot ⟨yfn, ypc, yA, yn, yc, ysl⟩ :: [Blk g11 (.cells [.string name, .int .i64 params, .int .i64 locals, .slice cA cn cc, .slice (some ⟨hb, ho, none⟩) hhn' hhc].toArray 87), Blk g9 (.cells [.int .i64 (j : Int), .int .i64 xpc, .slice xA xn xc].toArray 30), Blk (g + 1) (.cells [.int .i64 v1, .int .i64 v2].toArray 41), Blk g (.cells [.slice kA kn kc, .slice (some ⟨fb, fo, none⟩) fnn fc].toArray 25)]))))
        case first =>
          as_aux_lemma =>
            have hgS := (Gr.refl w8).drew
            have hmS := (Mem.start w8).drew
            refine wp_region_until (S := fun W => W.cell? ⟨g9, 2, none⟩ = some (.slice xA xn xc) ∧ W.cell? ⟨g + 1, 0, none⟩ = some (.int .i64 v1) ∧ W.cell? ⟨g + 1, 1, none⟩ = some (.int .i64 v2)) 11 (by kernel_rfl) ?_
            generalize w8.drew = wd at hgS hmS ⊢
            refine wpAnyU_take 0 (v := ?vv101) rfl (by kernel_rfl) (by kernel_rfl) (fun _ _ _ h => h) ⟨Gr.cell hgS k3, Gr.cell hgS k5, Gr.cell hgS k6⟩ (Or.inl ⟨rfl, ?yv101⟩) ?rv101
            case yv101 =>
              intro W hW
              obtain ⟨hW0, hW1, hW2⟩ := hW
              go_simp
              try with_reducible rfl
            try simp only [Act.put, List.getElem_toArray, List.getElem_cons_succ, List.getElem_cons_zero, List.setIfInBounds_toArray, List.set_cons_zero, List.set_cons_succ]
            refine wpAnyU_take 1 (v := ?vv102) rfl (by kernel_rfl) (by kernel_rfl) (fun _ _ _ h => h) ⟨Gr.cell hgS k3, Gr.cell hgS k5, Gr.cell hgS k6⟩ (Or.inl ⟨rfl, ?yv102⟩) ?rv102
            case yv102 =>
              intro W hW
              obtain ⟨hW0, hW1, hW2⟩ := hW
              go_simp
              try with_reducible rfl
            try simp only [Act.put, List.getElem_toArray, List.getElem_cons_succ, List.getElem_cons_zero, List.setIfInBounds_toArray, List.set_cons_zero, List.set_cons_succ]
            refine wpAnyU_take 2 (v := ?vv103) rfl (by kernel_rfl) (by kernel_rfl) (fun _ _ _ h => h) ⟨Gr.cell hgS k3, Gr.cell hgS k5, Gr.cell hgS k6⟩ (Or.inl ⟨rfl, ?yv103⟩) ?rv103
            case yv103 =>
              intro W hW
              obtain ⟨hW0, hW1, hW2⟩ := hW
              go_simp
              try with_reducible rfl
            try simp only [Act.put, List.getElem_toArray, List.getElem_cons_succ, List.getElem_cons_zero, List.setIfInBounds_toArray, List.set_cons_zero, List.set_cons_succ]
            refine wpAnyU_take 3 (v := ?vv104) rfl (by kernel_rfl) (by kernel_rfl) (fun _ _ _ h => h) ⟨Gr.cell hgS k3, Gr.cell hgS k5, Gr.cell hgS k6⟩ (Or.inl ⟨rfl, ?yv104⟩) ?rv104
            case yv104 =>
              intro W hW
              obtain ⟨hW0, hW1, hW2⟩ := hW
              go_simp
              try with_reducible rfl
            try simp only [Act.put, List.getElem_toArray, List.getElem_cons_succ, List.getElem_cons_zero, List.setIfInBounds_toArray, List.set_cons_zero, List.set_cons_succ]
            refine wpAnyU_take 4 (v := ?vv105) rfl (by kernel_rfl) (by kernel_rfl) (fun _ _ _ h => h) ⟨Gr.cell hgS k3, Gr.cell hgS k5, Gr.cell hgS k6⟩ (Or.inl ⟨rfl, ?yv105⟩) ?rv105
            case yv105 =>
              intro W hW
              obtain ⟨hW0, hW1, hW2⟩ := hW
              go_simp
              try with_reducible rfl
            try simp only [Act.put, List.getElem_toArray, List.getElem_cons_succ, List.getElem_cons_zero, List.setIfInBounds_toArray, List.set_cons_zero, List.set_cons_succ]
            refine wpAnyU_take 5 (v := ?vv106) rfl (by kernel_rfl) (by kernel_rfl) (fun _ _ _ h => h) ⟨Gr.cell hgS k3, Gr.cell hgS k5, Gr.cell hgS k6⟩ (Or.inl ⟨rfl, ?yv106⟩) ?rv106
            case yv106 =>
              intro W hW
              obtain ⟨hW0, hW1, hW2⟩ := hW
              go_simp
              try with_reducible rfl
            try simp only [Act.put, List.getElem_toArray, List.getElem_cons_succ, List.getElem_cons_zero, List.setIfInBounds_toArray, List.set_cons_zero, List.set_cons_succ]
            refine wpAnyU_take 6 (v := ?vv107) rfl (by kernel_rfl) (by kernel_rfl) (fun _ _ _ h => h) ⟨Gr.cell hgS k3, Gr.cell hgS k5, Gr.cell hgS k6⟩ (Or.inl ⟨rfl, ?yv107⟩) ?rv107
            case yv107 =>
              intro W hW
              obtain ⟨hW0, hW1, hW2⟩ := hW
              go_simp
              try with_reducible rfl
            try simp only [Act.put, List.getElem_toArray, List.getElem_cons_succ, List.getElem_cons_zero, List.setIfInBounds_toArray, List.set_cons_zero, List.set_cons_succ]
            refine wpAnyU_take 8 (v := ?vv108) rfl (by kernel_rfl) (by kernel_rfl) (fun _ _ _ h => h) ⟨Gr.cell hgS k3, Gr.cell hgS k5, Gr.cell hgS k6⟩ (Or.inl ⟨rfl, ?yv108⟩) ?rv108
            case yv108 =>
              intro W hW
              obtain ⟨hW0, hW1, hW2⟩ := hW
              go_simp
              try with_reducible rfl
            try simp only [Act.put, List.getElem_toArray, List.getElem_cons_succ, List.getElem_cons_zero, List.setIfInBounds_toArray, List.set_cons_zero, List.set_cons_succ]
            refine wpAnyU_two 7 9 (by kernel_rfl) rfl rfl (fun K hK => ?_) (fun K hK => ?_)
            · refine step_callw rfl 49 Try.f49 Try.func49 (by kernel_rfl) (by kernel_rfl) _ _ rfl #[.slice xA st xc] (by simp [Act.eval]) ?_
              refine (copyValues_ok wd xA st xc (xsl.take st) ⟨hxp.out.gr hgS⟩ (by omega)).mono ?_
              rintro e u1 ⟨A2, c3, rfl, hz4⟩
              have g5 := Gr.trans hgS hz4.gr
              have hm6 := hmS.new hz4
              refine ⟨_, rfl, hK _ _ (fun _ => ⟨Gr.cell g5 k3, Gr.cell g5 k5, Gr.cell g5 k6⟩) ?_⟩
              clear hK K
              try simp only [Act.put, List.getElem_toArray, List.getElem_cons_succ, List.getElem_cons_zero, List.setIfInBounds_toArray, List.set_cons_zero, List.set_cons_succ]
              refine wpAnyU_one 9 (by kernel_rfl) rfl (fun K hK => ?_)
              go_simp
              have g10 := Gr.alloc g5 (.cells [.int .i64 v1, .int .i64 v2].toArray 41)
              have hm9 := hm6.gr (Gr.alloc (Gr.refl u1) (.cells [.int .i64 v1, .int .i64 v2].toArray 41))
              have r11 : RdC (u1.alloc (.cells [.int .i64 v1, .int .i64 v2].toArray 41)) 2 (.slice (some ⟨u1.heap.size, 0, none⟩) 1 1) (cV (v1, v2)) := RdC.lit _ (cV (v1, v2)) _ 1 2 rfl (by simp [maxLen]) (cV_one _)
              generalize u1.heap.size = a8 at r11 ⊢
              generalize u1.alloc (.cells [.int .i64 v1, .int .i64 v2].toArray 41) = u7 at g10 hm9 r11 ⊢
              refine hK _ _ (fun _ => ⟨Gr.cell g10 k3, Gr.cell g10 k5, Gr.cell g10 k6⟩) ?_
              clear hK K
              try simp only [Act.put, List.getElem_toArray, List.getElem_cons_succ, List.getElem_cons_zero, List.setIfInBounds_toArray, List.set_cons_zero, List.set_cons_succ]
              refine wpAnyU_one 10 (by kernel_rfl) rfl (fun K hK => ?_)
              refine step_appw rfl _ _ _ rfl 41 iV _ 2 16 ty_Vs vi vz0 vz1 vz2 rfl A2 st c3 _ rfl hm9 _ 1 1 (cV (v1, v2)) rfl r11 (by unfold maxLen; omega) (by omega) ?_
              intro A13 c14 u12 hm15
              have g16 := hm15.below
              have hme17 := hm8.join hm15
              obtain ⟨q3, q4⟩ := hme17.own_cell m1 (k * 3 + 2) hj2.out
              rw [← Nat.add_assoc] at q3 q4
              have hmf18 := hme17.swap.own_set (k * 3 + 2) (by rw [fR_len]; simp; omega) (.slice A13 (st + 1) c14) rfl
              rw [fR, flatMap_set cR 3 cR_len fr0 _ k 2 ⟨yfn, ypc, A13, st + 1, c14, xsl.take st ++ [(v1, v2)]⟩ _ (by simp; omega) (by omega) (by rw [getD_snoc_eq _ _ _ _ hy0.symm]; rfl), List.set_append_right _ _ (by omega), hy0, Nat.sub_self, List.set_cons_zero, ← Nat.add_assoc] at hmf18
              refine hK _ _ (fun _ => ⟨Gr.cell g16 k3, Gr.cell g16 k5, Gr.cell g16 k6⟩) ?_
              clear hK K
              try simp only [Act.put, List.getElem_toArray, List.getElem_cons_succ, List.getElem_cons_zero, List.setIfInBounds_toArray, List.set_cons_zero, List.set_cons_succ]
              refine wpAnyU_one 11 (by kernel_rfl) rfl (fun K hK => ?_)
              go_simp
              refine hK _ _ (fun h => absurd h (by decide)) ?_
              clear hK K
              refine wpAnyU_one 12 (by kernel_rfl) rfl (fun K hK => ?_)
              go_simp
              refine hK _ _ (fun h => absurd h (by decide)) ?_
              clear hK K
              refine wpAnyU_one 13 (by kernel_rfl) rfl (fun K hK => ?_)
              go_simp
              refine hK _ _ (fun h => absurd h (by decide)) ?_
              clear hK K
              refine wpAnyU_done (by kernel_rfl) ?_ _
              go_wp2
              try simp only [Act.put, List.getElem_toArray, List.getElem_cons_succ, List.getElem_cons_zero, List.setIfInBounds_toArray, List.set_cons_succ, List.set_cons_zero]
              go_meet
              case rel => exact ⟨_, _, by rw [fV_app]; exact hmf18⟩
            · go_simp
              have g22 := Gr.alloc hgS (.cells [.int .i64 v1, .int .i64 v2].toArray 41)
              have hm21 := hmS.gr (Gr.alloc (Gr.refl wd) (.cells [.int .i64 v1, .int .i64 v2].toArray 41))
              have r23 : RdC (wd.alloc (.cells [.int .i64 v1, .int .i64 v2].toArray 41)) 2 (.slice (some ⟨wd.heap.size, 0, none⟩) 1 1) (cV (v1, v2)) := RdC.lit _ (cV (v1, v2)) _ 1 2 rfl (by simp [maxLen]) (cV_one _)
              generalize wd.heap.size = a20 at r23 ⊢
              generalize wd.alloc (.cells [.int .i64 v1, .int .i64 v2].toArray 41) = u19 at g22 hm21 r23 ⊢
              refine hK _ _ (fun _ => ⟨Gr.cell g22 k3, Gr.cell g22 k5, Gr.cell g22 k6⟩) ?_
              clear hK K
              try simp only [Act.put, List.getElem_toArray, List.getElem_cons_succ, List.getElem_cons_zero, List.setIfInBounds_toArray, List.set_cons_zero, List.set_cons_succ]
              refine wpAnyU_one 7 (by kernel_rfl) rfl (fun K hK => ?_)
              refine step_callw rfl 49 Try.f49 Try.func49 (by kernel_rfl) (by kernel_rfl) _ _ rfl #[.slice xA st xc] (by simp [Act.eval]) ?_
              refine (copyValues_ok u19 xA st xc (xsl.take st) ⟨hxp.out.gr g22⟩ (by omega)).mono ?_
              rintro e u24 ⟨A25, c26, rfl, hz27⟩
              have g28 := Gr.trans g22 hz27.gr
              have hm29 := hm21.new hz27
              have r30 := r23.gr hz27.gr
              refine ⟨_, rfl, hK _ _ (fun _ => ⟨Gr.cell g28 k3, Gr.cell g28 k5, Gr.cell g28 k6⟩) ?_⟩
              clear hK K
              try simp only [Act.put, List.getElem_toArray, List.getElem_cons_succ, List.getElem_cons_zero, List.setIfInBounds_toArray, List.set_cons_zero, List.set_cons_succ]
              refine wpAnyU_one 10 (by kernel_rfl) rfl (fun K hK => ?_)
              refine step_appw rfl _ _ _ rfl 41 iV _ 2 16 ty_Vs vi vz0 vz1 vz2 rfl A25 st c26 _ rfl hm29 _ 1 1 (cV (v1, v2)) rfl r30 (by unfold maxLen; omega) (by omega) ?_
              intro A32 c33 u31 hm34
              have g35 := hm34.below
              have hme36 := hm8.join hm34
              obtain ⟨q3, q4⟩ := hme36.own_cell m1 (k * 3 + 2) hj2.out
              rw [← Nat.add_assoc] at q3 q4
              have hmf37 := hme36.swap.own_set (k * 3 + 2) (by rw [fR_len]; simp; omega) (.slice A32 (st + 1) c33) rfl
              rw [fR, flatMap_set cR 3 cR_len fr0 _ k 2 ⟨yfn, ypc, A32, st + 1, c33, xsl.take st ++ [(v1, v2)]⟩ _ (by simp; omega) (by omega) (by rw [getD_snoc_eq _ _ _ _ hy0.symm]; rfl), List.set_append_right _ _ (by omega), hy0, Nat.sub_self, List.set_cons_zero, ← Nat.add_assoc] at hmf37
              refine hK _ _ (fun _ => ⟨Gr.cell g35 k3, Gr.cell g35 k5, Gr.cell g35 k6⟩) ?_
              clear hK K
              try simp only [Act.put, List.getElem_toArray, List.getElem_cons_succ, List.getElem_cons_zero, List.setIfInBounds_toArray, List.set_cons_zero, List.set_cons_succ]
              refine wpAnyU_one 11 (by kernel_rfl) rfl (fun K hK => ?_)
              go_simp
              refine hK _ _ (fun h => absurd h (by decide)) ?_
              clear hK K
              refine wpAnyU_one 12 (by kernel_rfl) rfl (fun K hK => ?_)
              go_simp
              refine hK _ _ (fun h => absurd h (by decide)) ?_
              clear hK K
              refine wpAnyU_one 13 (by kernel_rfl) rfl (fun K hK => ?_)
              go_simp
              refine hK _ _ (fun h => absurd h (by decide)) ?_
              clear hK K
              refine wpAnyU_done (by kernel_rfl) ?_ _
              go_wp2
              try simp only [Act.put, List.getElem_toArray, List.getElem_cons_succ, List.getElem_cons_zero, List.setIfInBounds_toArray, List.set_cons_succ, List.set_cons_zero]
              go_meet
              case rel => exact ⟨_, _, by rw [fV_app]; exact hmf37⟩
        case rest =>
          obtain ⟨w9, rfl⟩ : ∃ w9 : World, w9 = wc := ⟨_, rfl⟩
          obtain ⟨C, cc', hm9⟩ := hcut
          have q4 := hm9.cell (g := g11) (t := 87) (fr := (0, 0)) (cs := [.string name, .int .i64 params, .int .i64 locals, .slice cA cn cc, .slice (some ⟨hb, ho, none⟩) hhn' hhc]) (by simp) 4 rfl
          have z2 : w9.cell? ⟨hb, ho + h * 4 + 2, none⟩ = some (.int .i64 x3) := rh0.out w9 hm9.below 2 _ rfl
          have hj4 : (fR (ys0 ++ [⟨yfn, ypc, C, st + 1, cc', xsl.take st ++ [(v1, v2)]⟩]))[k * 3 + 1]? = some (.int .i64 ypc) := by rw [fR, flatMap_at cR 3 cR_len _ k 1 (by omega), List.getElem?_append_right (by omega), hy0, Nat.sub_self]; rfl
          obtain ⟨o1, o2⟩ := hm9.own_cell m0 (k * 3 + 1) hj4
          rw [← Nat.add_assoc] at o1 o2
          have hm10 := hm9.own_set (k * 3 + 1) (by rw [fR_len]; simp; omega) (.int .i64 x3) rfl
          rw [fR, flatMap_set cR 3 cR_len fr0 _ k 1 ⟨yfn, x3, C, st + 1, cc', xsl.take st ++ [(v1, v2)]⟩ _ (by simp; omega) (by omega) (by rw [getD_snoc_eq _ _ _ _ hy0.symm]; rfl), List.set_append_right _ _ (by omega), hy0, Nat.sub_self, List.set_cons_zero, ← Nat.add_assoc] at hm10
          have hyl : yfn = (j : Int) := congrArg Prod.fst hyy.out.2
          have fin : Frames w (w9.setCell ⟨gA, oA + k * 3 + 1, none⟩ (.int .i64 x3)) (N + 1) ((xs.map Fr.data).take k ++ [((j : Int), x3, xsl.take st ++ [(v1, v2)])]) (.returned (.tuple #[.slice (some ⟨gA, oA, none⟩) (k + 1) c', .bool true])) := by
            refine ⟨some ⟨gA, oA, none⟩, k + 1, c', ys0 ++ [⟨yfn, x3, C, st + 1, cc', xsl.take st ++ [(v1, v2)]⟩], rfl, ?_, ?_, fun z hz => ?_⟩
            · rw [slots_app]
              have h3 : Mem w (w9.setCell ⟨gA, oA + k * 3 + 1, none⟩ (.int .i64 x3)) (Own 3 (.slice (some ⟨gA, oA, none⟩) (k + 1) c') (fR (ys0 ++ [⟨yfn, x3, C, st + 1, cc', xsl.take st ++ [(v1, v2)]⟩])) :: slot ⟨yfn, x3, C, st + 1, cc', xsl.take st ++ [(v1, v2)]⟩ :: (slots ys0 ++ (slot ⟨yfn, ypc, yA, yn, yc, ysl⟩ :: [Blk g11 (.cells [.string name, .int .i64 params, .int .i64 locals, .slice cA cn cc, .slice (some ⟨hb, ho, none⟩) hhn' hhc].toArray 87), Blk g9 (.cells [.int .i64 (j : Int), .int .i64 xpc, .slice xA xn xc].toArray 30), Blk (g + 1) (.cells [.int .i64 v1, .int .i64 v2].toArray 41), Blk g (.cells [.slice kA kn kc, .slice (some ⟨fb, fo, none⟩) fnn fc].toArray 25)]))) := hm10
              exact (h3.perm (.cons _ List.perm_middle.symm)).sub (.cons_cons _ (List.Sublist.append (List.Sublist.refl _) (.cons_cons _ (List.nil_sublist _))))
            · rw [List.map_append, hyy.out.1, List.map_take, hyl]; rfl
            · rcases List.mem_append.1 hz with hz | hz
              · have := hyn.out z (by simp [hz]); omega
              · simp at hz; subst hz; show st + 1 ≤ N + 1; omega
          have fin := Fact.mk fin
          clear hm10 hj4
          go_wp2
          go_ret2
          rw [hFinal.out]
          exact fin.out
end Go.Proofs.Ytgflfpepfpekhaa
