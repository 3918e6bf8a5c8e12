/- FramesCallee: the walk. -/
import Derived.Test.YtgflfpepfpekhaaFrCalleeR
import Derived.Test.YtgflfpepfpekhaaFrApart
namespace Go.Mm
open Go.RowKit
theorem still_rng {P : Program} {ops : Array Oper} {o : Oper} {a : Act} {rest : List Oper} {Q : Act → Prop} {w : World} (hw : Region.wanted o (yielded ops a.tmps) = true) (ty : TypeId) (x : Operand) (ho : o.op = .load ty x) (b q : Nat) (hx : a.eval x = .pointer (some ⟨b, q, none⟩)) (cs : List Value)
    (hc : w.rangeAt b q cs) (hd : (P.underlying ty).map (·.isRow) = some true) (hi : (P.info? ty).map (·.size) = some cs.length) (h : wpStill P ops w Q rest (a.put o.dst (.agg cs.toArray))) : wpStill P ops w Q (o :: rest) a := by
  obtain ⟨d, hu, hr⟩ : ∃ d, P.underlying ty = some d ∧ d.isRow = true := by
    cases e : P.underlying ty with
    | none => rw [e] at hd; simp at hd
    | some d => rw [e] at hd; exact ⟨d, rfl, by simpa using hd⟩
  have hl := run_loadVar_mid (P := P) w b q ty cs d hc hu hr hi
  have he : (execOp a.eval o).run P w = .ok (.value (.agg cs.toArray)) w := by simp [execOp, ho, Instr.loadAt, hx, Instr.sureAddr, hl]
  unfold wpStill
  rw [if_pos hw]
  unfold Oper.still
  rw [he, Oper.stillUpon_value]
  exact h
end Go.Mm
namespace Go.Proofs.Ytgflfpepfpekhaa
open Go.RowKit Go.Mm Go.WideShapes Go.ChangeShapes
set_option maxHeartbeats 4000000
set_option maxRecDepth 100000
set_option linter.unusedSimpArgs false
def callC (A : Option Addr) (n c : Nat) (v1 v2 m : Int) : List Value := [.slice A n c, .int .i64 v1, .int .i64 v2, .int .i64 m]
/-- What is needed of objects that came in. -/
structure ObIn (w : World) (A : Option Addr) (n c : Nat) (xs : List RO) : Prop where
  rd : ObsR w A n c xs
  small : n ≤ 1048576
  sz : ∀ x, x ∈ xs → x.ob.items.length ≤ 1048576 ∧ x.ob.keys.length ≤ 1048576
  wf : ∀ x, x ∈ xs → (∀ k, k ∈ x.ob.keys → (Lit.int .i64 k).wf = true) ∧ ∀ v, v ∈ x.ob.items → -9223372036854775808 ≤ v.2 ∧ v.2 ≤ 9223372036854775807
theorem ObIn.gr {w w' : World} {A : Option Addr} {n c : Nat} {xs : List RO} (h : ObIn w A n c xs) (hg : Gr w w') : ObIn w' A n c xs := ⟨h.rd.gr hg, h.small, h.sz, h.wf⟩
theorem ObIn.nil (w : World) : ObIn w none 0 0 [] := ⟨⟨RdC.nil _ _, by simp⟩, by omega, by simp, by simp⟩
theorem calleeD_len {p : Pg} {xs : List RO} (h : ∀ x, x ∈ xs → x.ob.items.length ≤ 1048576) (v1 v2 n : Int) : (calleeD p (xs.map (·.ob)) v1 v2 n).2.1.length ≤ 1048576 := by
  have hg : ∀ G fn (l : List V2), l.length ≤ 1048576 → (calleeG G fn l n).2.1.length ≤ 1048576 := fun G fn l hl => by
    unfold calleeG
    split
    · simp
    · split
      · simp
      · exact hl
  unfold calleeD
  split
  · simp
  · rename_i x hx
    refine hg _ _ _ ?_
    unfold calleeF at hx
    split at hx
    · cases hx; simp
    · split at hx
      · rename_i hc
        cases hx
        have hk : v2.toNat < xs.length := by have := hc.2.2.1; simp at this; omega
        have e : (xs.map (·.ob)).getD v2.toNat ob0 = (xs.getD v2.toNat ro0).ob := by simp [hk]
        rw [e]
        exact h _ (getD_mem xs _ ro0 hk)
      · cases hx
theorem callee_walk (w : World) (p : Pg) (hp : Fact (PgOk w p)) (hk : p.kn ≤ 1048576) (A : Option Addr) (n c : Nat) (xs : List RO) (hx : Fact (ObIn w A n c xs)) (v1 v2 m : Int) :
    Calls Try.prog 12 #[vP p, .agg (callC A n c v1 v2 m).toArray] w fun e w' => e = .returned (.bool true) ∧ Gr w w' := by
  have hlent := fun (w1 : World) (hg : Gr w w1) => lentProgram_ok w1 p ⟨hp.out.gr hg⟩ hk
  have hkept := Fact.mk (fun (w1 : World) (hg : Gr w w1) KA kc FA fc hs (hL : LentOk w1 p KA kc FA fc hs) => keptProgram_ok w1 p ⟨hp.out.gr hg⟩ hk KA kc FA fc hs ⟨hL⟩)
  have href := fun (w1 : World) (hg : Gr w w1) A m c xs (hx : Fact (ObsR w1 A m c xs)) (hsz : Fact (∀ x, x ∈ xs → x.ob.items.length ≤ 1048576)) v1 v2 n => refCallee_ok w1 p ⟨hp.out.gr hg⟩ A m c xs hx hsz v1 v2 n
  have hcal := Fact.mk (fun (w1 : World) (hg : Gr w w1) KA kc FA fc hs (hL : LentOk w1 p KA kc FA fc hs) (h : Hp) (hr : Fact (HpR w1 h)) (hok : Fact h.Ok) (v1 v2 n : Int) => (callee_ok w1 h hr hok (lentP p KA kc FA fc hs) ⟨hL.pg (hp.out.gr hg)⟩ v1 v2 n).mono (R' := CalQ w1 [] (calleeD p h.objs v1 v2 n)) (fun _ _ q => by rw [calleeD_lent hL (hp.out.gr hg)] at q; exact q))
  have hlenD := Fact.mk (fun (xs : List RO) (h : ∀ x, x ∈ xs → x.ob.items.length ≤ 1048576) v1 v2 n => calleeD_len (p := p) h v1 v2 n)
  generalize hgD : calleeD p = DD at href hcal hlenD
  clear hgD hp
  obtain ⟨kA, kn, kc, consts, fA, fnn, fc, fns⟩ := p
  simp only [vP] at hlent href ⊢
  have hlent := Fact.mk hlent
  have href := Fact.mk href
  unfold callC
  go_enter Try.func12, Try.ntmps12
  go_upto_region 1 with (fail)
  have hm := (((Mem.start w).alloc (.cells [.slice kA kn kc, .slice fA fnn fc].toArray 25)).alloc (.cells [.slice A n c, .int .i64 v1, .int .i64 v2, .int .i64 m].toArray 111))
  simp only [World.size_alloc] at hm
  generalize hgX : w.heap.size = g at hm ⊢
  generalize hwX : ((w.alloc (.cells [.slice kA kn kc, .slice fA fnn fc].toArray 25)).alloc (.cells [.slice A n c, .int .i64 v1, .int .i64 v2, .int .i64 m].toArray 111)) = w1 at hm
  try refine wp_world hwX ?_
  clear hwX hgX
  have s0 := hm.cell m0 0 rfl
  go_wp2_with fail
  refine (copyObjects_ok w w1 _ hm A n c xs ⟨hx.out.rd.gr hm.below⟩ (by have := hx.out.small; omega) hx.out.sz).mono ?_
  rintro e w2 ⟨A2, c2, ys, rfl, hys, hm2⟩
  clear hm s0
  have hld := load_ok w w2 _ hm2 1048576 0 (by omega) (by omega) A2 n c2 ys ⟨⟨hm2.rd m0, fun y hy => RoC.reads (hm2.ok _ (.tail _ (List.mem_append_left _ (List.mem_map_of_mem hy))))⟩⟩ (by have := hx.out.small; omega)
    (fun y hy => by
      have : y.ob ∈ xs.map (·.ob) := by rw [← hys]; exact List.mem_map_of_mem hy
      obtain ⟨x, hx1, hx2⟩ := List.mem_map.1 this
      rw [← hx2]; exact hx.out.sz x hx1)
    (fun y hy => by
      have : y.ob ∈ xs.map (·.ob) := by rw [← hys]; exact List.mem_map_of_mem hy
      obtain ⟨x, hx1, hx2⟩ := List.mem_map.1 this
      rw [← hx2]; exact (hx.out.wf x hx1).1)
  rw [hys] at hld
  replace hld := Fact.mk hld
  clear hys
  go_wp2_with fail
  refine hld.out.mono ?_
  intro e w3 hq
  clear hld
  obtain ⟨may, hv, X, rfl, hmay, hm3⟩ : ∃ (may : Bool) (hv : Value) (X : List Chunk), e = .returned (.tuple #[hv, .bool may]) ∧ Fact (may = loadB (xs.map (·.ob)) ∧ ((may = true ∧ ∃ h : Hp, h.objs = xs.map (·.ob) ∧ h.Ok ∧ hv = .pointer (some ⟨h.g, 0, none⟩) ∧ X = [HpC h]) ∨ (may = false ∧ hv = .pointer none ∧ X = []))) ∧ Mem w w3 (X ++ (Own 6 (.slice A2 n c2) (ys.flatMap cRO) :: (ys.map RoC ++ (Blk (g + 1) (.cells [.slice A n c, .int .i64 v1, .int .i64 v2, .int .i64 m].toArray 111) :: Blk g (.cells [.slice kA kn kc, .slice fA fnn fc].toArray 25) :: [])))) := by
    rcases hq with ⟨h1, h, h2, h3, rfl, h4⟩ | ⟨h1, rfl, h4⟩
    · exact ⟨true, _, [HpC h], rfl, ⟨by rw [← load_eq]; exact h1.symm, .inl ⟨rfl, h, congrArg Hs.objs h2, h3, rfl, rfl⟩⟩, h4⟩
    · exact ⟨false, _, [], rfl, ⟨by rw [← load_eq]; exact h1.symm, .inr ⟨rfl, rfl, rfl⟩⟩, h4⟩
  have hm4 : Mem w w3 (X ++ (Blk (g + 1) (.cells [.slice A n c, .int .i64 v1, .int .i64 v2, .int .i64 m].toArray 111) :: Blk g (.cells [.slice kA kn kc, .slice fA fnn fc].toArray 25) :: [])) := hm3.sub (List.Sublist.append_left (.cons _ (List.sublist_append_right _ _)) _)
  clear hq hm2 hm3
  have s0 := hm4.cell (List.mem_append_right _ (.head _)) 0 rfl
  have hrl := Fact.mk (refLoad_ok w w3 _ hm4 1048576 0 (by omega) (by omega) A n c xs ⟨hx.out.rd.gr hm4.below⟩ (by have := hx.out.small; omega) hx.out.sz (fun x hxm => (hx.out.wf x hxm).2))
  go_wp2_with fail
  refine hrl.out.mono ?_
  intro e w5 hq
  obtain ⟨rv, rfl, hm5⟩ : ∃ rv : Value, e = .returned (.tuple #[rv, .bool may]) ∧ Mem w w5 (X ++ (Blk (g + 1) (.cells [.slice A n c, .int .i64 v1, .int .i64 v2, .int .i64 m].toArray 111) :: Blk g (.cells [.slice kA kn kc, .slice fA fnn fc].toArray 25) :: [])) := by
    rcases hq with ⟨h1, r, h2, h3, rfl, h4⟩ | ⟨h1, rfl, h4⟩
    · exact ⟨_, by rw [hmay.out.1, h1], h4.tail⟩
    · exact ⟨_, by rw [hmay.out.1, h1], h4⟩
  clear hq hrl hm4 s0
  go_upto_if 39 with (fail)
  go_cut [5] (fun s5 W => ∃ (h : Hp) (A' : Option Addr) (n' c' : Nat) (xs' : List RO), s5 = .pointer (some ⟨h.g, 0, none⟩) ∧ Fact (h.Ok ∧ h.objs = xs'.map (·.ob) ∧ ObIn w A' n' c' xs') ∧ Mem w W (HpC h :: Blk (g + 1) (.cells [.slice A' n' c', .int .i64 v1, .int .i64 v2, .int .i64 m].toArray 111) :: Blk g (.cells [.slice kA kn kc, .slice fA fnn fc].toArray 25) :: []))
  case first =>
    rcases hmay.out.2 with ⟨rfl, h, h2, h3, rfl, rfl⟩ | ⟨rfl, rfl, rfl⟩
    · clear hmay
      go_wp2
      go_meet
      case rel => exact ⟨h, A, n, c, xs, rfl, ⟨h3, h2, hx.out⟩, hm5⟩
    · clear hmay
      go_wp2_with fail
      refine (heapNew_ok w w5 _ hm5 0 0).mono ?_
      rintro e w6 ⟨gh, rfl, hm6⟩
      go_wp2_with (refine wp_setat rfl 109 _ _ rfl (g + 1) 0 rfl 111 _ [.slice none 0 0] [.slice none 0 0, .int .i64 v1, .int .i64 v2, .int .i64 m] (.slice none 0 0) rfl rfl hm6.swap sz_Os (by simp) (one_one rfl) rfl ?_; intro w7 hm7)
      go_meet
      case rel => exact ⟨⟨gh, 0, 0, none, 0, []⟩, none, 0, 0, [], rfl, ⟨⟨by simp, by simp, by simp, by simp, by simp, by simp⟩, rfl, ObIn.nil w⟩, hm7.swap⟩
  case rest =>
    obtain ⟨h, A', n', c', xs', rfl, hf, hm6⟩ := hcut
    clear hm5 hmay hx
    have hok : Fact h.Ok := ⟨hf.out.1⟩
    have hobj : Fact (h.objs = xs'.map (·.ob)) := ⟨hf.out.2.1⟩
    have hx : Fact (ObIn w A' n' c' xs') := ⟨hf.out.2.2⟩
    have hxl : Fact (xs'.length = n') := ⟨hf.out.2.2.rd.len⟩
    clear hf
    obtain ⟨wd, rfl⟩ : ∃ wd : World, wd = wc := ⟨_, rfl⟩
    go_upto_region 10 with (fail)
    go_wp2_with (refine wp_rng rfl 25 _ rfl g 0 rfl [.slice kA kn kc, .slice fA fnn fc] (rng_blk hm6 m2) row_P szP ?_)
    refine (hlent.out wd hm6.below).mono ?_
    rintro e wb ⟨KA, kc', FA, fc', hs, rfl, hgb, hL⟩
    have hgw : Fact (Gr w wb) := ⟨Gr.trans hm6.below hgb⟩
    have hL := Fact.mk hL
    have hmp := Fact.mk (hm6.gr hgb)
    have hr := Fact.mk (Mem.hpR hmp.out m0)
    clear hm6 hgb
    simp only [vP, lentP]
    go_upto_region 11 with (refine wp_setrow rfl 25 _ _ rfl _ rfl 25 _ [.slice KA kn kc', .slice FA fnn fc'] rfl ((Mem.start wb).alloc _) szP rfl (svone _ _) ?_; intro w7 hm7)
    generalize wb.heap.size = g7 at hm7 ⊢
    have hpp := hmp.out.gr hm7.below
    have s0 := hpp.cell m1 0 rfl
    have s1 := hpp.cell m1 1 rfl
    have s2 := hpp.cell m1 2 rfl
    have s3 := hpp.cell m1 3 rfl
    have sp := Fact.mk (rng_blk hpp m2)
    clear hpp
    have hD := href.out w7 (Gr.trans hgw.out hm7.below) A' n' c' xs' ⟨(hx.out.rd.gr hgw.out).gr hm7.below⟩ ⟨fun x hxm => (hx.out.sz x hxm).1⟩ v1 v2 m
    have hcal2 : Fact (∀ w1, Gr wb w1 → Calls Try.prog 68 #[vP (lentP ⟨kA, kn, kc, consts, fA, fnn, fc, fns⟩ KA kc' FA fc' hs), .pointer (some ⟨h.g, 0, none⟩), .agg #[.int .i64 v1, .int .i64 v2], .int .i64 m] w1 (CalQ w1 [] (DD (xs'.map (·.ob)) v1 v2 m))) := ⟨fun w1 hg => by rw [← hobj.out]; exact hcal.out w1 (Gr.trans hgw.out hg) KA kc' FA fc' hs (hL.out.gr hg) h ⟨hr.out.gr hg⟩ hok v1 v2 m⟩
    have hDl := hlenD.out xs' (fun x hxm => (hx.out.sz x hxm).1) v1 v2 m
    clear hcal hlenD
    generalize DD (xs'.map (·.ob)) v1 v2 m = D at hD hcal2 hDl
    obtain ⟨d1, dl, d3⟩ := D
    simp only [vP, lentP] at hcal2 hD hDl
    have hD := Fact.mk hD
    have hDl := Fact.mk hDl
    go_wp2_with (first | (refine wp_rng rfl 25 _ rfl g 0 rfl [.slice kA kn kc, .slice fA fnn fc] sp.out row_P szP ?_) | (refine wp_rng rfl 41 _ rfl (g + 1) 1 rfl [.int .i64 v1, .int .i64 v2] (rng2 (x := (v1, v2)) s1 s2) row_Vv sz_V ?_))
    refine hD.out.mono ?_
    rintro e w8 ⟨B1, e1, rfl, hn1⟩
    have hm8 := hm7.join hn1
    clear hn1 hm7 s0 s1 s2 s3 sp hD
    simp only at hm8
    have hpp := hmp.out.gr hm8.below
    have s1 := hpp.cell m1 1 rfl
    have s2 := hpp.cell m1 2 rfl
    have s3 := hpp.cell m1 3 rfl
    clear hpp
    go_wp2_with (first | (refine wp_rng rfl 25 _ rfl g7 0 rfl [.slice KA kn kc', .slice FA fnn fc'] (rng_blk hm8 m1) row_P szP ?_) | (refine wp_rng rfl 41 _ rfl (g + 1) 1 rfl [.int .i64 v1, .int .i64 v2] (rng2 (x := (v1, v2)) s1 s2) row_Vv sz_V ?_))
    refine (hcal2.out w8 hm8.below).mono ?_
    rintro e w9 ⟨B2, e2, rfl, hn2⟩
    have hm9 := hm8.join hn2
    clear hn2 hm8 s1 s2 s3
    simp only at hm9
    have hpp := hmp.out.gr hm9.below
    have s1 := hpp.cell m1 1 rfl
    have s2 := hpp.cell m1 2 rfl
    have s3 := hpp.cell m1 3 rfl
    clear hpp
    go_wp2_with (first | (refine wp_rng rfl 25 _ rfl g7 0 rfl [.slice KA kn kc', .slice FA fnn fc'] (rng_blk hm9 m2) row_P szP ?_) | (refine wp_rng rfl 41 _ rfl (g + 1) 1 rfl [.int .i64 v1, .int .i64 v2] (rng2 (x := (v1, v2)) s1 s2) row_Vv sz_V ?_))
    refine (hcal2.out w9 hm9.below).mono ?_
    rintro e w10 ⟨B3, e3, rfl, hn3⟩
    have hm10 := hm9.join hn3
    clear hn3 hm9 s1 s2 s3 hcal2
    simp only at hm10
    have hk10 := hkept.out w10 (Gr.trans hgw.out hm10.below) KA kc' FA fc' hs (hL.out.gr hm10.below)
    simp only [vP, lentP] at hk10
    have hk10 := Fact.mk hk10
    go_wp2_with (first | (refine wp_rng rfl 25 _ rfl g7 0 rfl [.slice KA kn kc', .slice FA fnn fc'] (rng_blk hm10 m3) row_P szP ?_) | (refine wp_rng rfl 25 _ rfl g 0 rfl [.slice kA kn kc, .slice fA fnn fc] (rng_blk (hmp.out.gr hm10.below) m2) row_P szP ?_))
    refine hk10.out.mono ?_
    rintro e w11 ⟨rfl, hg11⟩
    have hm11 := hm10.gr hg11
    clear hg11 hk10 hm10
    have hdl := hDl.out
    go_wp2_with fail
    refine (sameValues_ok w11 B2 B1 dl.length e2 e1 dl ⟨hm11.rd m1⟩ ⟨hm11.rd m2⟩ (by omega)).mono ?_
    rintro e w12 ⟨rfl, hg12⟩
    have hm12 := hm11.gr hg12
    clear hg12 hm11
    go_wp2_with fail
    refine (sameValues_ok w12 B3 B1 dl.length e3 e1 dl ⟨hm12.rd m0⟩ ⟨hm12.rd m2⟩ (by omega)).mono ?_
    rintro e w13 ⟨rfl, hg13⟩
    have hm13 := hm12.gr hg13
    clear hg13 hm12
    go_wp2_with fail
    have hA1 := ((hm13.alloc (.cells [.slice B2 dl.length e2, .slice B3 dl.length e3].toArray 26)))
    have hA2 := Mem.blk_own (n := 2) (size := 1) hA1 rfl (by simp [maxLen]) (svs_one [⟨0, 0, B2, dl.length, e2, dl⟩, ⟨0, 0, B3, dl.length, e3, dl⟩])
    have hA3 := hA2.sel 3 [2, 1, 0] (by decide)
    refine (apartValues_ok wb _ (some ⟨w13.heap.size, 0, none⟩) 2 2 1048576 [⟨0, 0, B2, dl.length, e2, dl⟩, ⟨0, 0, B3, dl.length, e3, dl⟩] _ hA3 ⟨rfl⟩ ⟨fun y hy => by simp at hy; rcases hy with rfl | rfl <;> exact hdl⟩ (by omega) (by omega)).mono ?_
    rintro e w14 ⟨rfl, hm14⟩
    clear hA1 hA2 hA3 hm13
    have hg14 := Fact.mk hm14.below
    clear hm14
    obtain ⟨we, rfl⟩ : ∃ we : World, we = w14 := ⟨_, rfl⟩
    have hns : n' ≤ 1048576 := hx.out.small
    have hln : h.objs.length = n' := by rw [hobj.out, List.length_map]; exact hxl.out
    go_upto_region 18 with (fail)
    have hcl : ∀ k, Calls Try.prog 69 #[.pointer (some ⟨h.g, 0, none⟩)] (we.drewN k) fun e w' => e = .returned (.int .i64 n') ∧ w' = we.drewN k := fun k => by
      have := heapLenR_ok (we.drewN k) h (hr.out.gr (Gr.drewN hg14.out k))
      rwa [hln] at this
    have s0 := (hmp.out.gr hg14.out).cell m1 0 rfl
    go_quiet (exact Calls.quiet_of_same (hcl _))
    have hgq := Fact.mk (Gr.drewN hg14.out nq)
    generalize we.drewN nq = wf at hgq ⊢
    clear hcl s0 hg14
    go_wp2_with fail
    go_loopw [19] (fun s19 W => ∃ k : Nat, s19 = .int .i64 k ∧ k ≤ n' ∧ Gr wb W) (fun s19 _ => n' - (intOf s19).toNat)
    case atStart => exact ⟨0, rfl, by omega, hgq.out⟩
    case round =>
      obtain ⟨k, rfl, hkn, hgr⟩ := hrel
      have s0 := (hmp.out.gr hgr).cell m1 0 rfl
      by_cases hlt : k < n'
      · obtain ⟨bb, o, hA, hc, hkl, hrd⟩ := (((hx.out.rd.gr hgw.out).gr hgr)).at k hlt
        have hszx := Fact.mk (hx.out.sz _ (getD_mem xs' k ro0 hkl))
        have hgo : h.objs.getD k ob0 = (xs'.getD k ro0).ob := by rw [hobj.out]; simp [hkl]
        have hob := objectR_ok wr h ⟨hr.out.gr hgr⟩ hok k (by omega)
        rw [hgo] at hob
        clear hgo
        generalize xs'.getD k ro0 = x at hc hrd hszx hob
        subst hA
        replace hc := Fact.mk hc
        replace hrd := Fact.mk hrd
        replace hob := Fact.mk hob
        replace hgr := Fact.mk hgr
        go_wp2_with fail
        refine hob.out.mono ?_
        rintro e w15 ⟨v, rfl, A2, d2, K2, k2, rfl, hm15⟩
        clear hob s0
        go_upto_region 24 with (refine wp_setrow rfl 124 _ _ rfl w15.heap.size rfl 124 _ (obC x.ob.kind A2 x.ob.items.length d2 K2 x.ob.keys.length k2 x.ob.fn x.ob.cap x.ob.shut) rfl (hm15.alloc _) sz_O rfl (obC_one _ _ _ _ _ _ _ _ _ _) ?_; intro w16 hm16)
        generalize w15.heap.size = g16 at hm16 ⊢
        clear hm15
        have hr1 : Fact (RO.reads ⟨A2, d2, K2, k2, x.ob⟩ w16) := ⟨hm16.rd m1, hm16.rd m2⟩
        have hr2 : Fact (x.reads w16) := ⟨hrd.out.gr hm16.below⟩
        have hcd1 : w16.drew.rangeAt g16 0 (cRO ⟨A2, d2, K2, k2, x.ob⟩) := rng_blk hm16 m0
        have hcd2 : w16.drew.rangeAt bb (o + k * 6) (cRO x) := rng_gr hc.out (Gr.drew hm16.below)
        have s0 : w16.drew.cell? ⟨g + 1, 0, none⟩ = some (.slice (some ⟨bb, o, none⟩) n' c') := (hmp.out.gr (Gr.trans hgr.out hm16.below)).cell m1 0 rfl
        have hg16 := Fact.mk (Gr.trans hgr.out hm16.below)
        clear hm16
        refine wp_region_still_tail 6 (by kernel_rfl) (by kernel_rfl) ?_
        simp only [List.take_succ_cons, List.take_zero, List.drop_succ_cons, List.drop_zero]
        repeat (first | (refine still_rng rfl 124 _ rfl g16 0 rfl (cRO ⟨A2, d2, K2, k2, x.ob⟩) hcd1 row_O sz_O ?_; simp only [Act.put, List.setIfInBounds_toArray, List.set_cons_zero, List.set_cons_succ]) | (refine still_rng rfl 124 _ rfl bb (o + k * 6) rfl (cRO x) hcd2 row_O sz_O ?_; simp only [Act.put, List.setIfInBounds_toArray, List.set_cons_zero, List.set_cons_succ]) | still_step)
        refine wpStill_nil ?_
        clear hcd1 hcd2 s0
        go_wp2_with fail
        refine (sameObject_ok _ ⟨A2, d2, K2, k2, x.ob⟩ x ⟨hr1.out.gr (Gr.refl w16).drew⟩ ⟨hr2.out.gr (Gr.refl w16).drew⟩ rfl (Nat.le_trans hszx.out.1 (by omega)) (Nat.le_trans hszx.out.2 (by omega))).mono ?_
        rintro e w17 ⟨rfl, hg17⟩
        go_wp2_with fail
        go_roundw
        case rel => exact ⟨k + 1, by go_num, by omega, Gr.trans hg16.out.drew hg17⟩
        case measure => exact measP_lt hlt
      · have hkn' : k = n' := by omega
        have hgr := Fact.mk (Gr.trans hgw.out hgr)
        go_wp2
        go_ret
        exact ⟨rfl, hgr.out⟩
end Go.Proofs.Ytgflfpepfpekhaa
