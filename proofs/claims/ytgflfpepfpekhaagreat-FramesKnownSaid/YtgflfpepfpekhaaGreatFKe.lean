/- Lemmas of the heap (a part of the heap's texts; written by slice.py). -/
import Derived.BigQuiet
import Derived.Carry
import Derived.ChangeKeysEq
import Derived.Deep.CutBlock
import Derived.Deep.DeepCutAuto
import Derived.Deep.DeepFit
import Derived.Deep.DeepMust
import Derived.Deep.Draws
import Derived.Deep.LoopGhost
import Derived.Deep.MidRow
import Derived.Deep.QuietTactic
import Derived.Deep.RegionHeld3
import Derived.Deep.RegionLaw
import Derived.Deep.Slices
import Derived.KernelRfl
import Derived.Laws.MakeOwn
import Derived.Lib.SliceRun
import Derived.Maps.Own
import Derived.Maps.OwnSet
import Derived.Maps.Views
import Derived.OpenShut
import Derived.OrdersHeld
import Derived.Outline
import Derived.OwnWalk
import Derived.SizedLaws
import Derived.StillTail
import Derived.StillTailTactics
import Derived.WalkKit
import Derived.WalkSpells
import Derived.Test.YtgflfpepfpekhaaGreatProg
import Derived.Test.YtgflfpepfpekhaaGreatFKd
set_option linter.unusedVariables false
set_option linter.unusedSimpArgs false
namespace Go.Mm
open Go.RowKit
theorem still_rng {P : Program} {ops : Array Oper} {o : Oper} {a : Act} {rest : List Oper} {Q : Act → Prop} {w : World} (hw : Region.wanted o (yielded ops a.tmps) = true) (ty : TypeId) (x : Operand) (ho : o.op = .load ty x) (b q : Nat) (hx : a.eval x = .pointer (some ⟨b, q, none⟩)) (cs : List Value)
    (hc : w.rangeAt b q cs) (hd : (P.underlying ty).map (·.isRow) = some true) (hi : (P.info? ty).map (·.size) = some cs.length) (h : wpStill P ops w Q rest (a.put o.dst (.agg cs.toArray))) : wpStill P ops w Q (o :: rest) a := by
  obtain ⟨d, hu, hr⟩ : ∃ d, P.underlying ty = some d ∧ d.isRow = true := by
    cases e : P.underlying ty with
    | none => rw [e] at hd; simp at hd
    | some d => rw [e] at hd; exact ⟨d, rfl, by simpa using hd⟩
  have hl := run_loadVar_mid (P := P) w b q ty cs d hc hu hr hi
  have he : (execOp a.eval o).run P w = .ok (.value (.agg cs.toArray)) w := by simp [execOp, ho, Instr.loadAt, hx, Instr.sureAddr, hl]
  unfold wpStill
  rw [if_pos hw]
  unfold Oper.still
  rw [he, Oper.stillUpon_value]
  exact h
end Go.Mm
namespace Go.Proofs.YtgflfpepfpekhaaGreat
open Go.RowKit Go.Mm Go.WideShapes Go.ChangeShapes
set_option maxHeartbeats 4000000
set_option maxRecDepth 100000
set_option linter.unusedSimpArgs false
def callC (A : Option Addr) (n c : Nat) (v1 v2 m : Int) : List Value := [.slice A n c, .int .i64 v1, .int .i64 v2, .int .i64 m]
/-- What is needed of objects that came in. -/
structure ObIn (w : World) (A : Option Addr) (n c : Nat) (xs : List RO) : Prop where
  rd : ObsR w A n c xs
  small : n ≤ 1048576
  sz : ∀ x, x ∈ xs → x.ob.items.length ≤ 1048576 ∧ x.ob.keys.length ≤ 1048576
  wf : ∀ x, x ∈ xs → (∀ k, k ∈ x.ob.keys → (Lit.int .i64 k).wf = true) ∧ ∀ v, v ∈ x.ob.items → -9223372036854775808 ≤ v.2 ∧ v.2 ≤ 9223372036854775807
theorem ObIn.gr {w w' : World} {A : Option Addr} {n c : Nat} {xs : List RO} (h : ObIn w A n c xs) (hg : Gr w w') : ObIn w' A n c xs := ⟨h.rd.gr hg, h.small, h.sz, h.wf⟩
theorem ObIn.nil (w : World) : ObIn w none 0 0 [] := ⟨⟨RdC.nil _ _, by simp⟩, by omega, by simp, by simp⟩
theorem calleeD_len {p : Pg} {xs : List RO} (h : ∀ x, x ∈ xs → x.ob.items.length ≤ 1048576) (v1 v2 n : Int) : (calleeD p (xs.map (·.ob)) v1 v2 n).2.1.length ≤ 1048576 := by
  have hg : ∀ G fn (l : List V2), l.length ≤ 1048576 → (calleeG G fn l n).2.1.length ≤ 1048576 := fun G fn l hl => by
    unfold calleeG
    split
    · simp
    · split
      · simp
      · exact hl
  unfold calleeD
  split
  · simp
  · rename_i x hx
    refine hg _ _ _ ?_
    unfold calleeF at hx
    split at hx
    · cases hx; simp
    · split at hx
      · rename_i hc
        cases hx
        have hk : v2.toNat < xs.length := by have := hc.2.2.1; simp at this; omega
        have e : (xs.map (·.ob)).getD v2.toNat ob0 = (xs.getD v2.toNat ro0).ob := by simp [hk]
        rw [e]
        exact h _ (getD_mem xs _ ro0 hk)
      · cases hx
theorem callee_walk (w : World) (p : Pg) (hp : Fact (PgOk w p)) (hk : p.kn ≤ 1048576) (A : Option Addr) (n c : Nat) (xs : List RO) (hx : Fact (ObIn w A n c xs)) (v1 v2 m : Int) :
    Calls Tryz.prog 24 #[vP p, .agg (callC A n c v1 v2 m).toArray] w fun e w' => e = .returned (.bool true) ∧ Gr w w' := by
  have hlent := fun (w1 : World) (hg : Gr w w1) => lentProgram_ok w1 p ⟨hp.out.gr hg⟩ hk
  have hkept := Fact.mk (fun (w1 : World) (hg : Gr w w1) KA kc FA fc hs (hL : LentOk w1 p KA kc FA fc hs) => keptProgram_ok w1 p ⟨hp.out.gr hg⟩ hk KA kc FA fc hs ⟨hL⟩)
  have href := fun (w1 : World) (hg : Gr w w1) A m c xs (hx : Fact (ObsR w1 A m c xs)) (hsz : Fact (∀ x, x ∈ xs → x.ob.items.length ≤ 1048576)) v1 v2 n => refCallee_ok w1 p ⟨hp.out.gr hg⟩ A m c xs hx hsz v1 v2 n
  have hcal := Fact.mk (fun (w1 : World) (hg : Gr w w1) KA kc FA fc hs (hL : LentOk w1 p KA kc FA fc hs) (h : Hp) (hr : Fact (HpR w1 h)) (hok : Fact h.Ok) (v1 v2 n : Int) => (callee_ok w1 h hr hok (lentP p KA kc FA fc hs) ⟨hL.pg (hp.out.gr hg)⟩ v1 v2 n).mono (R' := CalQ w1 [] (calleeD p h.objs v1 v2 n)) (fun _ _ q => by rw [calleeD_lent hL (hp.out.gr hg)] at q; exact q))
  have hlenD := Fact.mk (fun (xs : List RO) (h : ∀ x, x ∈ xs → x.ob.items.length ≤ 1048576) v1 v2 n => calleeD_len (p := p) h v1 v2 n)
  generalize hgD : calleeD p = DD at href hcal hlenD
  clear hgD hp
  obtain ⟨kA, kn, kc, consts, fA, fnn, fc, fns⟩ := p
  simp only [vP] at hlent href ⊢
  have hlent := Fact.mk hlent
  have href := Fact.mk href
  unfold callC
  go_enter Tryz.func24, Tryz.ntmps24
  go_upto_region 1 with (fail)
  have hm := (((Mem.start w).alloc (.cells [.slice kA kn kc, .slice fA fnn fc].toArray 26)).alloc (.cells [.slice A n c, .int .i64 v1, .int .i64 v2, .int .i64 m].toArray 63))
  simp only [World.size_alloc] at hm
  generalize hgX : w.heap.size = g at hm ⊢
  generalize hwX : ((w.alloc (.cells [.slice kA kn kc, .slice fA fnn fc].toArray 26)).alloc (.cells [.slice A n c, .int .i64 v1, .int .i64 v2, .int .i64 m].toArray 63)) = w1 at hm
  try refine wp_world hwX ?_
  clear hwX hgX
  have s0 := hm.cell m0 0 rfl
  go_wp2_with fail
  refine (copyObjects_ok w w1 _ hm A n c xs ⟨hx.out.rd.gr hm.below⟩ (by have := hx.out.small; omega) hx.out.sz).mono ?_
  rintro e w2 ⟨A2, c2, ys, rfl, hys, hm2⟩
  clear hm s0
  have hld := load_ok w w2 _ hm2 1048576 0 (by omega) (by omega) A2 n c2 ys ⟨⟨hm2.rd m0, fun y hy => RoC.reads (hm2.ok _ (.tail _ (List.mem_append_left _ (List.mem_map_of_mem hy))))⟩⟩ (by have := hx.out.small; omega)
    (fun y hy => by
      have : y.ob ∈ xs.map (·.ob) := by rw [← hys]; exact List.mem_map_of_mem hy
      obtain ⟨x, hx1, hx2⟩ := List.mem_map.1 this
      rw [← hx2]; exact hx.out.sz x hx1)
    (fun y hy => by
      have : y.ob ∈ xs.map (·.ob) := by rw [← hys]; exact List.mem_map_of_mem hy
      obtain ⟨x, hx1, hx2⟩ := List.mem_map.1 this
      rw [← hx2]; exact (hx.out.wf x hx1).1)
  rw [hys] at hld
  replace hld := Fact.mk hld
  clear hys
  go_wp2_with fail
  refine hld.out.mono ?_
  intro e w3 hq
  clear hld
  obtain ⟨may, hv, X, rfl, hmay, hm3⟩ : ∃ (may : Bool) (hv : Value) (X : List Chunk), e = .returned (.tuple #[hv, .bool may]) ∧ Fact (may = loadB (xs.map (·.ob)) ∧ ((may = true ∧ ∃ h : Hp, h.objs = xs.map (·.ob) ∧ h.Ok ∧ hv = .pointer (some ⟨h.g, 0, none⟩) ∧ X = [HpC h]) ∨ (may = false ∧ hv = .pointer none ∧ X = []))) ∧ Mem w w3 (X ++ (Own 6 (.slice A2 n c2) (ys.flatMap cRO) :: (ys.map RoC ++ (Blk (g + 1) (.cells [.slice A n c, .int .i64 v1, .int .i64 v2, .int .i64 m].toArray 63) :: Blk g (.cells [.slice kA kn kc, .slice fA fnn fc].toArray 26) :: [])))) := by
    rcases hq with ⟨h1, h, h2, h3, rfl, h4⟩ | ⟨h1, rfl, h4⟩
    · exact ⟨true, _, [HpC h], rfl, ⟨by rw [← load_eq]; exact h1.symm, .inl ⟨rfl, h, congrArg Hs.objs h2, h3, rfl, rfl⟩⟩, h4⟩
    · exact ⟨false, _, [], rfl, ⟨by rw [← load_eq]; exact h1.symm, .inr ⟨rfl, rfl, rfl⟩⟩, h4⟩
  have hm4 : Mem w w3 (X ++ (Blk (g + 1) (.cells [.slice A n c, .int .i64 v1, .int .i64 v2, .int .i64 m].toArray 63) :: Blk g (.cells [.slice kA kn kc, .slice fA fnn fc].toArray 26) :: [])) := hm3.sub (List.Sublist.append_left (.cons _ (List.sublist_append_right _ _)) _)
  clear hq hm2 hm3
  have s0 := hm4.cell (List.mem_append_right _ (.head _)) 0 rfl
  have hrl := Fact.mk (refLoad_ok w w3 _ hm4 1048576 0 (by omega) (by omega) A n c xs ⟨hx.out.rd.gr hm4.below⟩ (by have := hx.out.small; omega) hx.out.sz (fun x hxm => (hx.out.wf x hxm).2))
  go_wp2_with fail
  refine hrl.out.mono ?_
  intro e w5 hq
  obtain ⟨rv, rfl, hm5⟩ : ∃ rv : Value, e = .returned (.tuple #[rv, .bool may]) ∧ Mem w w5 (X ++ (Blk (g + 1) (.cells [.slice A n c, .int .i64 v1, .int .i64 v2, .int .i64 m].toArray 63) :: Blk g (.cells [.slice kA kn kc, .slice fA fnn fc].toArray 26) :: [])) := by
    rcases hq with ⟨h1, r, h2, h3, rfl, h4⟩ | ⟨h1, rfl, h4⟩
    · exact ⟨_, by rw [hmay.out.1, h1], h4.tail⟩
    · exact ⟨_, by rw [hmay.out.1, h1], h4⟩
  clear hq hrl hm4 s0
  go_upto_if 39 with (fail)
  go_cut [5] (fun s5 W => ∃ (h : Hp) (A' : Option Addr) (n' c' : Nat) (xs' : List RO), s5 = .pointer (some ⟨h.g, 0, none⟩) ∧ Fact (h.Ok ∧ h.objs = xs'.map (·.ob) ∧ ObIn w A' n' c' xs') ∧ Mem w W (HpC h :: Blk (g + 1) (.cells [.slice A' n' c', .int .i64 v1, .int .i64 v2, .int .i64 m].toArray 63) :: Blk g (.cells [.slice kA kn kc, .slice fA fnn fc].toArray 26) :: []))
  case first =>
    rcases hmay.out.2 with ⟨rfl, h, h2, h3, rfl, rfl⟩ | ⟨rfl, rfl, rfl⟩
    · clear hmay
      go_wp2
      go_meet
      case rel => exact ⟨h, A, n, c, xs, rfl, ⟨h3, h2, hx.out⟩, hm5⟩
    · clear hmay
      go_wp2_with fail
      refine (heapNew_ok w w5 _ hm5 0 0).mono ?_
      rintro e w6 ⟨gh, rfl, hm6⟩
      go_wp2_with (refine wp_setat rfl 60 _ _ rfl (g + 1) 0 rfl 63 _ [.slice none 0 0] [.slice none 0 0, .int .i64 v1, .int .i64 v2, .int .i64 m] (.slice none 0 0) rfl rfl hm6.swap sz_Os (by simp) (one_one rfl) rfl ?_; intro w7 hm7)
      go_meet
      case rel => exact ⟨⟨gh, 0, 0, none, 0, []⟩, none, 0, 0, [], rfl, ⟨⟨by simp, by simp, by simp, by simp, by simp, by simp⟩, rfl, ObIn.nil w⟩, hm7.swap⟩
  case rest =>
    obtain ⟨h, A', n', c', xs', rfl, hf, hm6⟩ := hcut
    clear hm5 hmay hx
    have hok : Fact h.Ok := ⟨hf.out.1⟩
    have hobj : Fact (h.objs = xs'.map (·.ob)) := ⟨hf.out.2.1⟩
    have hx : Fact (ObIn w A' n' c' xs') := ⟨hf.out.2.2⟩
    have hxl : Fact (xs'.length = n') := ⟨hf.out.2.2.rd.len⟩
    clear hf
    obtain ⟨wd, rfl⟩ : ∃ wd : World, wd = wc := ⟨_, rfl⟩
    go_upto_region 10 with (fail)
    go_wp2_with (refine wp_rng rfl 26 _ rfl g 0 rfl [.slice kA kn kc, .slice fA fnn fc] (rng_blk hm6 m2) row_P szP ?_)
    refine (hlent.out wd hm6.below).mono ?_
    rintro e wb ⟨KA, kc', FA, fc', hs, rfl, hgb, hL⟩
    have hgw : Fact (Gr w wb) := ⟨Gr.trans hm6.below hgb⟩
    have hL := Fact.mk hL
    have hmp := Fact.mk (hm6.gr hgb)
    have hr := Fact.mk (Mem.hpR hmp.out m0)
    clear hm6 hgb
    simp only [vP, lentP]
    go_upto_region 11 with (refine wp_setrow rfl 26 _ _ rfl _ rfl 26 _ [.slice KA kn kc', .slice FA fnn fc'] rfl ((Mem.start wb).alloc _) szP rfl (svone _ _) ?_; intro w7 hm7)
    generalize wb.heap.size = g7 at hm7 ⊢
    have hpp := hmp.out.gr hm7.below
    have s0 := hpp.cell m1 0 rfl
    have s1 := hpp.cell m1 1 rfl
    have s2 := hpp.cell m1 2 rfl
    have s3 := hpp.cell m1 3 rfl
    have sp := Fact.mk (rng_blk hpp m2)
    clear hpp
    have hD := href.out w7 (Gr.trans hgw.out hm7.below) A' n' c' xs' ⟨(hx.out.rd.gr hgw.out).gr hm7.below⟩ ⟨fun x hxm => (hx.out.sz x hxm).1⟩ v1 v2 m
    have hcal2 : Fact (∀ w1, Gr wb w1 → Calls Tryz.prog 39 #[vP (lentP ⟨kA, kn, kc, consts, fA, fnn, fc, fns⟩ KA kc' FA fc' hs), .pointer (some ⟨h.g, 0, none⟩), .agg #[.int .i64 v1, .int .i64 v2], .int .i64 m] w1 (CalQ w1 [] (DD (xs'.map (·.ob)) v1 v2 m))) := ⟨fun w1 hg => by rw [← hobj.out]; exact hcal.out w1 (Gr.trans hgw.out hg) KA kc' FA fc' hs (hL.out.gr hg) h ⟨hr.out.gr hg⟩ hok v1 v2 m⟩
    have hDl := hlenD.out xs' (fun x hxm => (hx.out.sz x hxm).1) v1 v2 m
    clear hcal hlenD
    generalize DD (xs'.map (·.ob)) v1 v2 m = D at hD hcal2 hDl
    obtain ⟨d1, dl, d3⟩ := D
    simp only [vP, lentP] at hcal2 hD hDl
    have hD := Fact.mk hD
    have hDl := Fact.mk hDl
    go_wp2_with (first | (refine wp_rng rfl 26 _ rfl g 0 rfl [.slice kA kn kc, .slice fA fnn fc] sp.out row_P szP ?_) | (refine wp_rng rfl 36 _ rfl (g + 1) 1 rfl [.int .i64 v1, .int .i64 v2] (rng2 (x := (v1, v2)) s1 s2) row_Vv sz_V ?_))
    refine hD.out.mono ?_
    rintro e w8 ⟨B1, e1, rfl, hn1⟩
    have hm8 := hm7.join hn1
    clear hn1 hm7 s0 s1 s2 s3 sp hD
    simp only at hm8
    have hpp := hmp.out.gr hm8.below
    have s1 := hpp.cell m1 1 rfl
    have s2 := hpp.cell m1 2 rfl
    have s3 := hpp.cell m1 3 rfl
    clear hpp
    go_wp2_with (first | (refine wp_rng rfl 26 _ rfl g7 0 rfl [.slice KA kn kc', .slice FA fnn fc'] (rng_blk hm8 m1) row_P szP ?_) | (refine wp_rng rfl 36 _ rfl (g + 1) 1 rfl [.int .i64 v1, .int .i64 v2] (rng2 (x := (v1, v2)) s1 s2) row_Vv sz_V ?_))
    refine (hcal2.out w8 hm8.below).mono ?_
    rintro e w9 ⟨B2, e2, rfl, hn2⟩
    have hm9 := hm8.join hn2
    clear hn2 hm8 s1 s2 s3
    simp only at hm9
    have hpp := hmp.out.gr hm9.below
    have s1 := hpp.cell m1 1 rfl
    have s2 := hpp.cell m1 2 rfl
    have s3 := hpp.cell m1 3 rfl
    clear hpp
    go_wp2_with (first | (refine wp_rng rfl 26 _ rfl g7 0 rfl [.slice KA kn kc', .slice FA fnn fc'] (rng_blk hm9 m2) row_P szP ?_) | (refine wp_rng rfl 36 _ rfl (g + 1) 1 rfl [.int .i64 v1, .int .i64 v2] (rng2 (x := (v1, v2)) s1 s2) row_Vv sz_V ?_))
    refine (hcal2.out w9 hm9.below).mono ?_
    rintro e w10 ⟨B3, e3, rfl, hn3⟩
    have hm10 := hm9.join hn3
    clear hn3 hm9 s1 s2 s3 hcal2
    simp only at hm10
    have hk10 := hkept.out w10 (Gr.trans hgw.out hm10.below) KA kc' FA fc' hs (hL.out.gr hm10.below)
    simp only [vP, lentP] at hk10
    have hk10 := Fact.mk hk10
    go_wp2_with (first | (refine wp_rng rfl 26 _ rfl g7 0 rfl [.slice KA kn kc', .slice FA fnn fc'] (rng_blk hm10 m3) row_P szP ?_) | (refine wp_rng rfl 26 _ rfl g 0 rfl [.slice kA kn kc, .slice fA fnn fc] (rng_blk (hmp.out.gr hm10.below) m2) row_P szP ?_))
    refine hk10.out.mono ?_
    rintro e w11 ⟨rfl, hg11⟩
    have hm11 := hm10.gr hg11
    clear hg11 hk10 hm10
    have hdl := hDl.out
    go_wp2_with fail
    refine (sameValues_ok w11 B2 B1 dl.length e2 e1 dl ⟨hm11.rd m1⟩ ⟨hm11.rd m2⟩ (by omega)).mono ?_
    rintro e w12 ⟨rfl, hg12⟩
    have hm12 := hm11.gr hg12
    clear hg12 hm11
    go_wp2_with fail
    refine (sameValues_ok w12 B3 B1 dl.length e3 e1 dl ⟨hm12.rd m0⟩ ⟨hm12.rd m2⟩ (by omega)).mono ?_
    rintro e w13 ⟨rfl, hg13⟩
    have hm13 := hm12.gr hg13
    clear hg13 hm12
    go_wp2_with fail
    have hA1 := ((hm13.alloc (.cells [.slice B2 dl.length e2, .slice B3 dl.length e3].toArray 28)))
    have hA2 := Mem.blk_own (n := 2) (size := 1) hA1 rfl (by simp [maxLen]) (svs_one [⟨0, 0, B2, dl.length, e2, dl⟩, ⟨0, 0, B3, dl.length, e3, dl⟩])
    have hA3 := hA2.sel 3 [2, 1, 0] (by decide)
    refine (apartValues_ok wb _ (some ⟨w13.heap.size, 0, none⟩) 2 2 1048576 [⟨0, 0, B2, dl.length, e2, dl⟩, ⟨0, 0, B3, dl.length, e3, dl⟩] _ hA3 ⟨rfl⟩ ⟨fun y hy => by simp at hy; rcases hy with rfl | rfl <;> exact hdl⟩ (by omega) (by omega)).mono ?_
    rintro e w14 ⟨rfl, hm14⟩
    clear hA1 hA2 hA3 hm13
    have hg14 := Fact.mk hm14.below
    clear hm14
    obtain ⟨we, rfl⟩ : ∃ we : World, we = w14 := ⟨_, rfl⟩
    have hns : n' ≤ 1048576 := hx.out.small
    have hln : h.objs.length = n' := by rw [hobj.out, List.length_map]; exact hxl.out
    go_upto_region 18 with (fail)
    have hcl : ∀ k, Calls Tryz.prog 40 #[.pointer (some ⟨h.g, 0, none⟩)] (we.drewN k) fun e w' => e = .returned (.int .i64 n') ∧ w' = we.drewN k := fun k => by
      have := heapLenR_ok (we.drewN k) h (hr.out.gr (Gr.drewN hg14.out k))
      rwa [hln] at this
    have s0 := (hmp.out.gr hg14.out).cell m1 0 rfl
    go_quiet (exact Calls.quiet_of_same (hcl _))
    have hgq := Fact.mk (Gr.drewN hg14.out nq)
    generalize we.drewN nq = wf at hgq ⊢
    clear hcl s0 hg14
    go_wp2_with fail
    go_loopw [19] (fun s19 W => ∃ k : Nat, s19 = .int .i64 k ∧ k ≤ n' ∧ Gr wb W) (fun s19 _ => n' - (intOf s19).toNat)
    case atStart => exact ⟨0, rfl, by omega, hgq.out⟩
    case round =>
      obtain ⟨k, rfl, hkn, hgr⟩ := hrel
      have s0 := (hmp.out.gr hgr).cell m1 0 rfl
      by_cases hlt : k < n'
      · obtain ⟨bb, o, hA, hc, hkl, hrd⟩ := (((hx.out.rd.gr hgw.out).gr hgr)).at k hlt
        have hszx := Fact.mk (hx.out.sz _ (getD_mem xs' k ro0 hkl))
        have hgo : h.objs.getD k ob0 = (xs'.getD k ro0).ob := by rw [hobj.out]; simp [hkl]
        have hob := objectR_ok wr h ⟨hr.out.gr hgr⟩ hok k (by omega)
        rw [hgo] at hob
        clear hgo
        generalize xs'.getD k ro0 = x at hc hrd hszx hob
        subst hA
        replace hc := Fact.mk hc
        replace hrd := Fact.mk hrd
        replace hob := Fact.mk hob
        replace hgr := Fact.mk hgr
        go_wp2_with fail
        refine hob.out.mono ?_
        rintro e w15 ⟨v, rfl, A2, d2, K2, k2, rfl, hm15⟩
        clear hob s0
        go_upto_region 24 with (refine wp_setrow rfl 59 _ _ rfl w15.heap.size rfl 59 _ (obC x.ob.kind A2 x.ob.items.length d2 K2 x.ob.keys.length k2 x.ob.fn x.ob.cap x.ob.shut) rfl (hm15.alloc _) sz_O rfl (obC_one _ _ _ _ _ _ _ _ _ _) ?_; intro w16 hm16)
        generalize w15.heap.size = g16 at hm16 ⊢
        clear hm15
        have hr1 : Fact (RO.reads ⟨A2, d2, K2, k2, x.ob⟩ w16) := ⟨hm16.rd m1, hm16.rd m2⟩
        have hr2 : Fact (x.reads w16) := ⟨hrd.out.gr hm16.below⟩
        have hcd1 : w16.drew.rangeAt g16 0 (cRO ⟨A2, d2, K2, k2, x.ob⟩) := rng_blk hm16 m0
        have hcd2 : w16.drew.rangeAt bb (o + k * 6) (cRO x) := rng_gr hc.out (Gr.drew hm16.below)
        have s0 : w16.drew.cell? ⟨g + 1, 0, none⟩ = some (.slice (some ⟨bb, o, none⟩) n' c') := (hmp.out.gr (Gr.trans hgr.out hm16.below)).cell m1 0 rfl
        have hg16 := Fact.mk (Gr.trans hgr.out hm16.below)
        clear hm16
        refine wp_region_still_tail 6 (by kernel_rfl) (by kernel_rfl) ?_
        simp only [List.take_succ_cons, List.take_zero, List.drop_succ_cons, List.drop_zero]
        repeat (first | (refine still_rng rfl 59 _ rfl g16 0 rfl (cRO ⟨A2, d2, K2, k2, x.ob⟩) hcd1 row_O sz_O ?_; simp only [Act.put, List.setIfInBounds_toArray, List.set_cons_zero, List.set_cons_succ]) | (refine still_rng rfl 59 _ rfl bb (o + k * 6) rfl (cRO x) hcd2 row_O sz_O ?_; simp only [Act.put, List.setIfInBounds_toArray, List.set_cons_zero, List.set_cons_succ]) | still_step)
        refine wpStill_nil ?_
        clear hcd1 hcd2 s0
        go_wp2_with fail
        refine (sameObject_ok _ ⟨A2, d2, K2, k2, x.ob⟩ x ⟨hr1.out.gr (Gr.refl w16).drew⟩ ⟨hr2.out.gr (Gr.refl w16).drew⟩ rfl (Nat.le_trans hszx.out.1 (by omega)) (Nat.le_trans hszx.out.2 (by omega))).mono ?_
        rintro e w17 ⟨rfl, hg17⟩
        go_wp2_with fail
        go_roundw
        case rel => exact ⟨k + 1, by go_num, by omega, Gr.trans hg16.out.drew hg17⟩
        case measure => exact measP_lt hlt
      · have hkn' : k = n' := by omega
        have hgr := Fact.mk (Gr.trans hgw.out hgr)
        go_wp2
        go_ret
        exact ⟨rfl, hgr.out⟩
end Go.Proofs.YtgflfpepfpekhaaGreat
namespace Go.Proofs.YtgflfpepfpekhaaGreat
open Go.RowKit Go.Mm
set_option maxHeartbeats 1000000
set_option maxRecDepth 100000
/-- Does a handler take what is thrown at pc, m slots lying there? -/
def hit (pc locals : Int) (m : Nat) (h : H4) : Bool := decide (h.1 ≤ pc) && decide (pc < h.2.1) && decide (0 ≤ h.2.2.2) && decide (h.2.2.2 ≤ (m : Int) - locals)
def takesG (G : Option Fn) (pc : Int) (m : Nat) : Option (Int × Nat) :=
  match G with
  | none => none
  | some g => if 0 ≤ g.locals ∧ g.locals ≤ m then (g.hands.find? (hit pc g.locals m)).map fun h => (h.2.2.1, (g.locals + h.2.2.2).toNat) else none
def TakesR (r : Option (Int × Nat)) (m : Nat) (e : Ending) : Prop :=
  match r with
  | none => ∃ h : H4, e = .returned (.tuple #[.agg (cH h).toArray, .int .i64 0, .bool false])
  | some (t, st) => ∃ h : H4, h.2.2.1 = t ∧ e = .returned (.tuple #[.agg (cH h).toArray, .int .i64 st, .bool true]) ∧ st ≤ m
def h0 : H4 := (0, 0, 0, 0)
theorem find_no {α : Type} (q : α → Bool) (d : α) : ∀ (l : List α), (∀ i, i < l.length → q (l.getD i d) = false) → l.find? q = none := fun l h => by
  rw [List.find?_eq_none]
  intro x hx
  obtain ⟨i, hi, rfl⟩ := List.getElem_of_mem hx
  have := h i hi
  simp [List.getD_eq_getElem?_getD, List.getElem?_eq_getElem hi] at this
  simp [this]
theorem find_at {α : Type} (q : α → Bool) (d : α) (l : List α) (k : Nat) (hk : k < l.length) (h : ∀ i, i < k → q (l.getD i d) = false) (hq : q (l.getD k d) = true) : l.find? q = some (l.getD k d) := by
  have e : l = l.take k ++ l.getD k d :: l.drop (k + 1) := by
    have : l.getD k d = l[k] := by simp [hk]
    rw [this]; simp
  have hn : (l.take k).find? q = none := find_no q d _ (fun i hi => by
    rw [List.length_take] at hi
    have := h i (by omega)
    rw [List.getD_eq_getElem?_getD, List.getElem?_take_of_lt (by omega), ← List.getD_eq_getElem?_getD]
    exact this)
  conv => lhs; rw [e]
  rw [List.find?_append, hn, Option.none_or, List.find?_cons, hq]
theorem takes_ok (w : World) (p : Pg) (hp : Fact (PgOk w p)) (f : Fr) (hn : f.n ≤ 2000000) :
    Calls Tryz.prog 18 #[vP p, .agg (cR f).toArray] w fun e w' => TakesR (takesG (fnAt p f.fn) f.pc f.n) f.n e ∧ Gr w w' := by
  have hf := fun (w1 : World) (hg : Gr w w1) => function_ok w1 p ⟨hp.out.gr hg⟩ f.fn
  have hfm : ∀ g, fnAt p f.fn = some g → FnOk w g ∧ g.hn ≤ 1048576 := fun g hg => by
    unfold fnAt at hg
    split at hg
    · rename_i hi
      cases hg
      have hl : p.fns.length = p.fn := rd_len cF_len (by omega) hp.out.fns
      have hm : p.fns.getD f.fn.toNat fn0 ∈ p.fns := List.mem_of_getElem? (getD_some p.fns fn0 f.fn.toNat (by omega))
      exact ⟨hp.out.each _ hm, (hp.out.small.2 _ hm).1⟩
    · cases hg
  generalize fnAt p f.fn = G at hf hfm ⊢
  obtain ⟨kA, kn, kc, consts, fA, fnn, fc, fns⟩ := p
  obtain ⟨fnum, pc, sA, n, sc, sl⟩ := f
  simp only [vP, cR] at hf hn hfm ⊢
  go_enter Tryz.func18, Tryz.ntmps18
  go_upto_region 1 with (fail)
  have hm := ((((Mem.start w).alloc (.cells [.slice kA kn kc, .slice fA fnn fc].toArray 26)).alloc (.cells [.int .i64 fnum, .int .i64 pc, .slice sA n sc].toArray 30)).alloc (.cells (cH h0).toArray 43))
  simp only [World.size_alloc] at hm
  generalize hgX : w.heap.size = g at hm ⊢
  generalize hwX : (((w.alloc (.cells [.slice kA kn kc, .slice fA fnn fc].toArray 26)).alloc (.cells [.int .i64 fnum, .int .i64 pc, .slice sA n sc].toArray 30)).alloc (.cells (cH h0).toArray 43)) = w1 at hm
  try refine wp_world hwX ?_
  clear hwX hgX
  have c1 := hm.cell m2 0 rfl
  have c2 := hm.cell m2 1 rfl
  have c3 := hm.cell m1 0 rfl
  go_wp2_with fail
  refine (hf w1 hm.below).mono ?_
  rintro e w2 ⟨rfl, hg2⟩
  have hm2 := hm.gr hg2
  clear hm c1 c2 c3 hg2 hf
  cases G with
  | none =>
    go_upto_region 2 with (refine wp_setrow rfl 47 _ _ rfl _ rfl 47 _ (cF fn0) rfl (hm2.alloc _) szF rfl (cF_one _) ?_; intro w3 hm3)
    go_wp2_with (first | (refine wp_rng rfl 43 _ rfl (g + 2) _ rfl (cH h0) (rng_blk hm3 m1) row_Hh szHh ?_) | (refine wp_setrow rfl 43 _ _ rfl (g + 2) rfl 43 _ (cH h0) rfl hm3.swap szHh rfl (cH_one _) ?_; intro w4 hm4))
    refine bodyPost_ret (res_cell_tmp2 rfl _ (g + 2) 43 (cH h0) (0, 0) rfl hm4 m0 row_Hh szHh) rfl ⟨⟨h0, rfl⟩, hm4.below⟩
  | some G =>
    obtain ⟨hG, hGn⟩ := hfm G rfl
    have hgd : Fact ((some G).getD fn0 = G) := ⟨rfl⟩
    have hgs : (some G).isSome = true := rfl
    rw [hgs, hgd.out]
    clear hgs hgd hfm
    have hlen := Fact.mk (rdH_len hG.2)
    by_cases hl : 0 ≤ G.locals ∧ G.locals ≤ n
    · have hr := Fact.mk hG.2
      have htk : Fact (takesG (some G) pc n = (G.hands.find? (hit pc G.locals n)).map fun h => (h.2.2.1, (G.locals + h.2.2.2).toNat)) := ⟨by unfold takesG; exact if_pos hl⟩
      obtain ⟨name, params, locals, cA, cn, cc, code, hA, hhn, hhc, hands⟩ := G
      simp only [cF] at hl hGn hr hlen htk ⊢
      clear hG
      obtain ⟨L, rfl⟩ : ∃ L : Nat, locals = (L : Int) := ⟨locals.toNat, by omega⟩
      have hl1 : ((L : Int) < 0) = False := by simp
      have hl2 : ((L : Int) > (n : Int)) = False := by simp; omega
      have hLn : L ≤ n := by omega
      clear hl
      go_upto_region 2 with (refine wp_setrow rfl 47 _ _ rfl _ rfl 47 _ [.string name, .int .i64 params, .int .i64 L, .slice cA cn cc, .slice hA hhn hhc] rfl (hm2.alloc _) szF rfl (cF_one ⟨name, params, L, cA, cn, cc, code, hA, hhn, hhc, hands⟩) ?_; intro w3 hm3)
      generalize w2.heap.size = gF at hm3 ⊢
      have c1 := hm3.cell m0 2 rfl
      have c2 := hm3.cell m2 2 rfl
      have c3 := hm3.cell m0 4 rfl
      go_wp2
      clear c1 c2 c3
      have hm4 : Mem w w3 [Blk gF (.cells [.string name, .int .i64 params, .int .i64 L, .slice cA cn cc, .slice hA hhn hhc].toArray 47), Blk (g + 1 + 1) (.cells (cH h0).toArray 43), Blk (g + 1) (.cells [.int .i64 fnum, .int .i64 pc, .slice sA n sc].toArray 30)] := hm3.sub (by simp)
      clear hm3 hm2
      go_loopw [36] (fun v w' => ∃ (k : Nat), v = .int .i64 k ∧ k ≤ hhn ∧ (∀ j, j < k → hit pc L n (hands.getD j (0, 0, 0, 0)) = false) ∧ Mem w w' [Blk gF (.cells [.string name, .int .i64 params, .int .i64 L, .slice cA cn cc, .slice hA hhn hhc].toArray 47), Blk (g + 1 + 1) (.cells (cH h0).toArray 43), Blk (g + 1) (.cells [.int .i64 fnum, .int .i64 pc, .slice sA n sc].toArray 30)]) (fun v _ => hhn - (intOf v).toNat)
      case atStart => exact ⟨0, rfl, by omega, fun j hj => by omega, hm4⟩
      case round =>
        clear hm4
        obtain ⟨k, rfl, hk, hno, hm⟩ := hrel
        have hno := Fact.mk hno
        by_cases hlt : k < hhn
        · obtain ⟨b, o, rfl, r1, _, _⟩ := rd_at cH_len (by omega) (0, 0, 0, 0) hr.out k hlt
          have r1 := rng_gr r1 hm.below
          have hxe : ∃ x, Fact (hands.getD k (0, 0, 0, 0) = x) := ⟨_, ⟨rfl⟩⟩
          obtain ⟨x, hxe⟩ := hxe
          rw [hxe.out] at r1
          go_upto_region 7 with (first | (refine wp_rng rfl 43 _ rfl b _ rfl (cH x) r1 row_Hh szHh ?_) | (refine wp_setrow rfl 43 _ _ rfl _ rfl 43 _ (cH x) rfl (hm.alloc _) szHh rfl (cH_one _) ?_; intro w4 hm4))
          generalize wr.heap.size = g9 at hm4 ⊢
          have c1 := hm4.cell m0 0 rfl
          have c2 := hm4.cell m0 1 rfl
          have c3 := hm4.cell m0 2 rfl
          have c4 := hm4.cell m0 3 rfl
          have c5 := hm4.cell m3 1 rfl
          have c6 := hm4.cell m3 2 rfl
          have c7 := hm4.cell m1 2 rfl
          obtain ⟨x1, x2, x3, x4⟩ := x
          have hxb : Fact (hit pc L n (x1, x2, x3, x4) = (decide (x1 ≤ pc) && decide (pc < x2) && decide (0 ≤ x4) && decide (x4 ≤ (n : Int) - L))) := ⟨rfl⟩
          have e1 : IntKind.i64.wrap ((n : Int) - L) = n - L := IntWalk.i64_in _ (by omega)
          dsimp only at c1 c2 c3 c4
          clear r1
          by_cases hA1 : x1 ≤ pc
          · by_cases hA2 : pc < x2
            · by_cases hA3 : 0 ≤ x4
              · by_cases hA4 : x4 ≤ (n : Int) - L
                · have hy : hit pc L n (hands.getD k (0, 0, 0, 0)) = true := by rw [hxe.out, hxb.out]; simp [hA1, hA2, hA3, hA4]
                  have hfn := Fact.mk (find_at (hit pc L n) (0, 0, 0, 0) hands k (by have := hlen.out; omega) hno.out hy)
                  go_upto_region 8 with (fail)
                  have n1 := hm4.ne (m1 (b := Blk gF _))
                  have n2 := hm4.tail.ne m0
                  have f0 := hm4.free m2 0
                  have f1 := hm4.free m2 1
                  have f2 := hm4.free m2 2
                  have f3 := hm4.free m2 3
                  have d0 := hm4.cell m2 0 rfl
                  have d1 := hm4.cell m2 1 rfl
                  have d2 := hm4.cell m2 2 rfl
                  have d3 := hm4.cell m2 3 rfl
                  have e2 : IntKind.i64.wrap ((L : Int) + x4) = L + x4 := IntWalk.i64_in _ (by omega)
                  have hm5 := (((hm4.pull2.set 0 (.int .i64 x1)).set 1 (.int .i64 x2)).set 2 (.int .i64 x3)).set 3 (.int .i64 x4)
                  have hm6 := hm5.drew
                  simp only [cH, h0, List.set_cons_zero, List.set_cons_succ] at hm6
                  clear hm5
                  go_region
                  go_wp2
                  refine bodyPost_ret (res_cell_tmp2 rfl _ (g + 2) 43 (cH (x1, x2, x3, x4)) (0, 0) rfl hm6 m0 row_Hh szHh) rfl ⟨?_, hm6.below⟩
                  rw [htk.out, hfn.out, hxe.out]
                  exact ⟨(x1, x2, x3, x4), rfl, by rw [show (((L : Int) + x4).toNat : Int) = L + x4 from Int.toNat_of_nonneg (by omega)]; rfl, by show ((L : Int) + x4).toNat ≤ n; omega⟩
                · go_wp2
                  go_roundw
                  case rel => exact ⟨k + 1, by go_num, by omega, fun j hj => by
                    rcases Nat.lt_succ_iff_lt_or_eq.1 hj with hj | rfl
                    · exact hno.out j hj
                    · rw [hxe.out, hxb.out]; simp [hA4], hm4.tail⟩
                  case measure => simp [intOf]; omega
              · go_wp2
                go_roundw
                case rel => exact ⟨k + 1, by go_num, by omega, fun j hj => by
                  rcases Nat.lt_succ_iff_lt_or_eq.1 hj with hj | rfl
                  · exact hno.out j hj
                  · rw [hxe.out, hxb.out]; simp [hA3], hm4.tail⟩
                case measure => simp [intOf]; omega
            · go_wp2
              go_roundw
              case rel => exact ⟨k + 1, by go_num, by omega, fun j hj => by
                rcases Nat.lt_succ_iff_lt_or_eq.1 hj with hj | rfl
                · exact hno.out j hj
                · rw [hxe.out, hxb.out]; simp [hA2], hm4.tail⟩
              case measure => simp [intOf]; omega
          · go_wp2
            go_roundw
            case rel => exact ⟨k + 1, by go_num, by omega, fun j hj => by
              rcases Nat.lt_succ_iff_lt_or_eq.1 hj with hj | rfl
              · exact hno.out j hj
              · rw [hxe.out, hxb.out]; simp [hA1], hm4.tail⟩
            case measure => simp [intOf]; omega
        · obtain rfl : k = hhn := by omega
          have hfn : Fact (hands.find? (hit pc L n) = none) := ⟨find_no _ (0, 0, 0, 0) hands (fun i hi => hno.out i (by have := hlen.out; omega))⟩
          go_wp2_with (first | (refine wp_rng rfl 43 _ rfl (g + 2) _ rfl (cH h0) (rng_blk hm m1) row_Hh szHh ?_) | (refine wp_setrow rfl 43 _ _ rfl (g + 2) rfl 43 _ (cH h0) rfl hm.swap szHh rfl (cH_one _) ?_; intro w4 hm4))
          refine bodyPost_ret (res_cell_tmp2 rfl _ (g + 2) 43 (cH h0) (0, 0) rfl hm4 m0 row_Hh szHh) rfl ⟨by rw [htk.out, hfn.out]; exact ⟨h0, rfl⟩, hm4.below⟩
    · have htk : Fact (takesG (some G) pc n = none) := ⟨by unfold takesG; exact if_neg hl⟩
      obtain ⟨name, params, locals, cA, cn, cc, code, hA, hhn, hhc, hands⟩ := G
      simp only [cF] at hl ⊢
      clear hG hlen hGn
      go_upto_region 2 with (refine wp_setrow rfl 47 _ _ rfl _ rfl 47 _ [.string name, .int .i64 params, .int .i64 locals, .slice cA cn cc, .slice hA hhn hhc] rfl (hm2.alloc _) szF rfl (cF_one ⟨name, params, locals, cA, cn, cc, code, hA, hhn, hhc, hands⟩) ?_; intro w3 hm3)
      generalize w2.heap.size = gF at hm3 ⊢
      have c1 := hm3.cell m0 2 rfl
      have c2 := hm3.cell m2 2 rfl
      by_cases h0l : locals < 0
      · go_wp2_with (first | (refine wp_rng rfl 43 _ rfl (g + 2) _ rfl (cH h0) (rng_blk hm3 m1) row_Hh szHh ?_) | (refine wp_setrow rfl 43 _ _ rfl (g + 2) rfl 43 _ (cH h0) rfl hm3.swap szHh rfl (cH_one _) ?_; intro w4 hm4))
        refine bodyPost_ret (res_cell_tmp2 rfl _ (g + 2) 43 (cH h0) (0, 0) rfl hm4 m0 row_Hh szHh) rfl ⟨by rw [htk.out]; exact ⟨h0, rfl⟩, hm4.below⟩
      · have h1l : (locals > (n : Int)) = True := by simp; omega
        go_wp2_with (first | (refine wp_rng rfl 43 _ rfl (g + 2) _ rfl (cH h0) (rng_blk hm3 m1) row_Hh szHh ?_) | (refine wp_setrow rfl 43 _ _ rfl (g + 2) rfl 43 _ (cH h0) rfl hm3.swap szHh rfl (cH_one _) ?_; intro w4 hm4))
        refine bodyPost_ret (res_cell_tmp2 rfl _ (g + 2) 43 (cH h0) (0, 0) rfl hm4 m0 row_Hh szHh) rfl ⟨by rw [htk.out]; exact ⟨h0, rfl⟩, hm4.below⟩
end Go.Proofs.YtgflfpepfpekhaaGreat
namespace Go.Proofs.YtgflfpepfpekhaaGreat
open Go.RowKit Go.Mm
set_option maxHeartbeats 400000
set_option maxRecDepth 100000
theorem copyFrame_ok (w : World) (fn pc : Int) (A : Option Addr) (n c : Nat) (sl : List V2) (hx : Fact (RdC w 2 (.slice A n c) (fV sl))) (hn : n ≤ 4194304) :
    Calls Tryz.prog 76 #[.agg #[.int .i64 fn, .int .i64 pc, .slice A n c]] w fun e w' => ∃ B d, e = .returned (.agg #[.int .i64 fn, .int .i64 pc, .slice B n d]) ∧ New w w' (Own 2 (.slice B n d) (fV sl)) := by
  go_enter Tryz.func76, Tryz.ntmps76
  go_upto_region 1 with (fail)
  have hm := (((Mem.start w).alloc (.cells [.int .i64 fn, .int .i64 pc, .slice A n c].toArray 30)).alloc (.cells (cR fr0).toArray 30))
  simp only [World.size_alloc] at hm
  generalize hgX : w.heap.size = g at hm ⊢
  generalize hwX : ((w.alloc (.cells [.int .i64 fn, .int .i64 pc, .slice A n c].toArray 30)).alloc (.cells (cR fr0).toArray 30)) = w1 at hm
  try refine wp_world hwX ?_
  clear hwX hgX
  go_upto_region 2 with (first | (refine wp_rng rfl 30 _ rfl g 0 rfl [.int .i64 fn, .int .i64 pc, .slice A n c] (rng_blk hm m1) row_R szR ?_) | (refine wp_setrow rfl 30 _ _ rfl _ rfl 30 _ [.int .i64 fn, .int .i64 pc, .slice A n c] rfl (hm.alloc _) szR rfl (cR_one ⟨fn, pc, A, n, c, sl⟩) ?_; intro w2 hm2))
  generalize w1.heap.size = g3 at hm2 ⊢
  have c1 := hm2.cell m2 2 rfl
  have c2 := hm2.cell m0 2 rfl
  have f2 := hm2.free m0 2
  have hr := Fact.mk (hx.out.gr hm2.below)
  go_wp2_with fail
  refine (copyValues_ok w2 A n c sl hr hn).mono ?_
  rintro e w3 ⟨B, d, rfl, hnw⟩
  have hm3 := hm2.new hnw
  have c2 := hm3.cell m1 2 rfl
  have f2 := hm3.free m1 2
  have hm4 := hm3.swap.set 2 (.slice B n d)
  simp only [List.set_cons_succ, List.set_cons_zero] at hm4
  clear hnw hm2
  go_upto_region 3 with (fail)
  generalize w3.setCell _ _ = w4 at hm4 ⊢
  go_wp2_with (first | (refine wp_rng rfl 30 _ rfl g3 0 rfl [.int .i64 fn, .int .i64 pc, .slice B n d] (rng_blk hm4 m0) row_R szR ?_) | (refine wp_setrow rfl 30 _ _ rfl _ rfl 30 _ [.int .i64 fn, .int .i64 pc, .slice B n d] rfl hm4.pull2 szR rfl (cR_one ⟨fn, pc, B, n, d, sl⟩) ?_; intro w5 hm5))
  refine bodyPost_ret (Mm.res_cell rfl _ (g + 1) 30 [.int .i64 fn, .int .i64 pc, .slice B n d] (0, 0) rfl hm5 m0 row_R szR) rfl ⟨B, d, rfl, (hm5.sub (.cons _ (.cons _ (.cons_cons _ (List.nil_sublist _))))).new_of⟩
theorem copyFrames_ok (w : World) (N : Nat) (A : Option Addr) (n c : Nat) (xs : List Fr) (hx : Fact (FrsOk N w A n c xs)) (hn : n ≤ 1048577) (hN : N ≤ 2000000) :
    Calls Tryz.prog 46 #[.slice A n c] w fun e w' => ∃ A' c' ys, e = .returned (.slice A' n c') ∧ Mem w w' (Own 3 (.slice A' n c') (fR ys) :: slots ys) ∧ ys.map Fr.data = xs.map Fr.data ∧ ∀ y, y ∈ ys → y.n ≤ N := by
  obtain ⟨iR, hi, hz0, hz1, hz2⟩ := info_parts inf_R
  have hl := Fact.mk hx.out.len
  go_enter Tryz.func46, Tryz.ntmps46
  go_wp2
  go_loopw [3, 4] (fun l v w' => ∃ (k : Nat) (A' : Option Addr) (c' : Nat) (ys : List Fr), v = .int .i64 k ∧ k ≤ n ∧ l = .slice A' k c' ∧ Mem w w' (Own 3 (.slice A' k c') (fR ys) :: (slots ys ++ [])) ∧ Fact (ys.map Fr.data = (xs.take k).map Fr.data ∧ (∀ y, y ∈ ys → y.n ≤ N) ∧ ys.length = k)) (fun _ v _ => n - (intOf v).toNat)
  case atStart => exact ⟨0, none, 0, [], rfl, by omega, rfl, by simpa [slots, fR] using (Mem.start w).nil 3 none, ⟨by simp, by simp, rfl⟩⟩
  case round =>
    obtain ⟨k, A', c', ys, rfl, hk, rfl, hm, hd⟩ := hrel
    by_cases hlt : k < n
    · obtain ⟨b, o, rfl, r1, hok, _⟩ := hx.out.at k hlt
      have hxe : ∃ x, Fact (xs.getD k fr0 = x) := ⟨_, ⟨rfl⟩⟩
      obtain ⟨x, hxe⟩ := hxe
      rw [hxe.out] at r1 hok
      have r1 := rng_gr r1 hm.below
      have hok := Fact.mk (hok.gr hm.below)
      obtain ⟨xfn, xpc, xA, xn, xc, xsl⟩ := x
      have hxn : xn ≤ N := hok.out.2
      go_upto_region 5 with (fail)
      go_wp2_with (refine wp_rng rfl 30 _ rfl b _ rfl [.int .i64 xfn, .int .i64 xpc, .slice xA xn xc] r1 row_R szR ?_)
      refine (copyFrame_ok wr xfn xpc xA xn xc xsl ⟨hok.out.1⟩ (by omega)).mono ?_
      rintro e w2 ⟨B, d, rfl, hnw⟩
      have hm2 := hm.new hnw
      clear hnw hm r1 hok
      go_upto_region 6 with (refine wp_setrow rfl 30 _ _ rfl _ rfl 30 _ [.int .i64 xfn, .int .i64 xpc, .slice B xn d] rfl (hm2.alloc _) szR rfl (cR_one ⟨xfn, xpc, B, xn, d, xsl⟩) ?_; intro w3 hm3)
      generalize w2.heap.size = g5 at hm3 ⊢
      go_wp2_with (first | (refine wp_rng rfl 30 _ rfl g5 0 rfl [.int .i64 xfn, .int .i64 xpc, .slice B xn d] (rng_blk hm3 m0) row_R szR ?_) | (at_builtin; (refine wp_app rfl _ _ _ rfl 30 iR _ 3 40 ty_Rs hi hz0 hz1 hz2 rfl A' k c' _ rfl ((hm3.alloc _).pull3) _ 1 1 (cR ⟨xfn, xpc, B, xn, d, xsl⟩) rfl (RdC.lit _ _ _ _ _ rfl (by simp [maxLen]) (cR_one ⟨xfn, xpc, B, xn, d, xsl⟩)) (by unfold maxLen; omega) (by omega) ?_); intro A1 c1 w4 HM1))
      go_roundw
      case rel =>
        have HM2 := (HM1.sub (.cons_cons _ (.cons _ (.cons _ (List.Sublist.refl _))))).swap
        have HM3 := slots_snoc (⟨xfn, xpc, B, xn, d, xsl⟩ : Fr) HM2
        have hd1 := hd.out.1
        have hd2 := hd.out.2.1
        have hd3 := hd.out.2.2
        refine ⟨k + 1, A1, c1, ys ++ [⟨xfn, xpc, B, xn, d, xsl⟩], by go_num, by omega, rfl, ?_, ⟨data_at hd1 (by have := hl.out; omega) _ (by rw [hxe.out]; rfl), fun y hy => ?_, by simp [hd3]⟩⟩
        · rw [fR_app]; simpa [fR] using HM3
        · rcases List.mem_append.1 hy with hy | hy
          · exact hd2 y hy
          · simp at hy; subst hy; exact hxn
      case measure => simp [intOf]; omega
    · obtain rfl : k = n := by omega
      have hd := hd.out
      rw [List.take_of_length_le (by have := hl.out; omega)] at hd
      go_wp2
      go_ret
      exact ⟨A', c', ys, rfl, by simpa using hm, hd.1, hd.2.1⟩
end Go.Proofs.YtgflfpepfpekhaaGreat
namespace Go.Proofs.YtgflfpepfpekhaaGreat
open Go.RowKit Go.Mm
set_option maxHeartbeats 1000000
set_option maxRecDepth 100000
theorem fR_take (xs : List Fr) (n : Nat) : fR (xs.take n) = (fR xs).take (n * 3) := flatMap_take cR 3 cR_len xs n
theorem FrsOk.pre {N : Nat} {w : World} {A : Option Addr} {n c : Nat} {xs : List Fr} (h : FrsOk N w A n c xs) (k : Nat) (hk : k ≤ n) : FrsOk N w A k c (xs.take k) := by
  refine ⟨?_, fun f hf => h.each f (List.mem_of_mem_take hf)⟩
  rw [fR_take]
  exact RdC.pre h.rd k hk
/-- What is returned into. -/
def retF (f : FrD) (v : V2) : FrD := (f.1, wrap64 (f.2.1 + 1), f.2.2 ++ [v])
def retD (xs : List Fr) (v : V2) : List FrD := if xs.length < 2 then [] else (xs.take (xs.length - 2)).map Fr.data ++ [retF (xs.getD (xs.length - 2) fr0).data v]
theorem return_ok (w : World) (p : Pg) (N : Nat) (A : Option Addr) (n c : Nat) (xs : List Fr) (hx : Fact (FrsOk N w A n c xs)) (hn : n ≤ 1048577) (hN : N ≤ 1048580) (v : V2) :
    Calls Tryz.prog 12 #[vP p, .slice A n c, .agg (cV v).toArray] w fun e w' => ∃ A' m c' zs, e = .returned (.tuple #[.slice A' m c', .bool (decide (2 ≤ n))]) ∧ Mem w w' (Own 3 (.slice A' m c') (fR zs) :: slots zs) ∧ zs.map Fr.data = retD xs v ∧ ∀ z, z ∈ zs → z.n ≤ N + 1 := by
  obtain ⟨iR, hi, hz0, hz1, hz2⟩ := info_parts inf_R
  have hl := Fact.mk hx.out.len
  obtain ⟨v1, v2⟩ := v
  obtain ⟨kA, kn, kc, consts, fA, fnn, fc, fns⟩ := p
  simp only [vP, cV]
  by_cases h2 : 2 ≤ n
  · obtain ⟨k, rfl⟩ : ∃ k, n = k + 2 := ⟨n - 2, by omega⟩
    have hb2 : Fact (decide (2 ≤ k + 2) = true) := ⟨by simp⟩
    obtain ⟨b, o, rfl, r1, hok, _⟩ := hx.out.at k (by omega)
    have hrd : Fact (retD xs (v1, v2) = (xs.take k).map Fr.data ++ [retF (xs.getD k fr0).data (v1, v2)]) := ⟨by unfold retD; rw [if_neg (by have := hl.out; omega), hl.out]; rfl⟩
    have hxe : ∃ x, Fact (xs.getD k fr0 = x) := ⟨_, ⟨rfl⟩⟩
    obtain ⟨x, hxe⟩ := hxe
    rw [hxe.out] at r1 hok hrd
    have hok := Fact.mk hok
    obtain ⟨xfn, xpc, xA, xn, xc, xsl⟩ := x
    have hcp : k + 2 ≤ c := by obtain ⟨_, _, _, e, _, h, _⟩ := hx.out.rd; cases e; exact h
    have e1 : (((k + 2 : Nat) : Int) - 2) = (k : Int) := by omega
    rw [hb2.out]
    have hxn : xn ≤ N := hok.out.2
    have hxl : Fact (xsl.length = xn) := ⟨rdV_len hok.out.1⟩
    go_enter Tryz.func12, Tryz.ntmps12
    go_upto_region 1 with (fail)
    have hm := (((Mem.start w).alloc (.cells [.slice kA kn kc, .slice fA fnn fc].toArray 26)).alloc (.cells [.int .i64 v1, .int .i64 v2].toArray 36))
    simp only [World.size_alloc] at hm
    generalize hgX : w.heap.size = g at hm ⊢
    generalize hwX : ((w.alloc (.cells [.slice kA kn kc, .slice fA fnn fc].toArray 26)).alloc (.cells [.int .i64 v1, .int .i64 v2].toArray 36)) = w1 at hm
    try refine wp_world hwX ?_
    clear hwX hgX
    have r2 := rng_gr r1 hm.below
    go_upto_region 5 with (first | (refine wp_rng rfl 30 _ rfl b _ rfl [.int .i64 xfn, .int .i64 xpc, .slice xA xn xc] r2 row_R szR ?_) | (refine wp_setrow rfl 30 _ _ rfl _ rfl 30 _ [.int .i64 xfn, .int .i64 xpc, .slice xA xn xc] rfl (hm.alloc _) szR rfl (cR_one ⟨xfn, xpc, xA, xn, xc, xsl⟩) ?_; intro w2 hm2))
    generalize w1.heap.size = g9 at hm2 ⊢
    have c1 := hm2.cell m0 1 rfl
    have f1 := hm2.free m0 1
    go_upto_region 6 with (fail)
    have hm3 := hm2.set 1 (.int .i64 (wrap64 (xpc + 1)))
    simp only [List.set_cons_zero, List.set_cons_succ] at hm3
    generalize w2.setCell _ _ = w3 at hm3 ⊢
    have c2 := hm3.cell m0 2 rfl
    have d1 := hm3.cell m1 0 rfl
    have d2 := hm3.cell m1 1 rfl
    have f2 := hm3.free m0 2
    clear c1 f1 hm2
    go_wp2_with fail
    refine (laid_ok w3 xA xn xc xsl ⟨hok.out.1.gr hm3.below⟩ xn _ rfl (by omega) (by omega) (v1, v2)).mono ?_
    rintro e w4 ⟨B, d, rfl, hn4⟩
    have hm4 := hm3.new hn4
    have htk : Fact (xsl.take xn = xsl) := ⟨List.take_of_length_le (by have := hxl.out; omega)⟩
    rw [htk.out] at hm4
    have c3 := hm4.cell m1 2 rfl
    have f3 := hm4.free m1 2
    have hm5 := hm4.swap.set 2 (.slice B (xn + 1) d)
    simp only [List.set_cons_zero, List.set_cons_succ] at hm5
    clear hn4 hm3
    go_upto_region 7 with (fail)
    generalize w4.setCell _ _ = w5 at hm5 ⊢
    have hS : Gr w5 w5.drew ∧ w5.drew.cell? ⟨g9, 0, none⟩ = some (.int .i64 xfn) ∧ w5.drew.cell? ⟨g9, 1, none⟩ = some (.int .i64 (wrap64 (xpc + 1))) ∧ w5.drew.cell? ⟨g9, 2, none⟩ = some (.slice B (xn + 1) d) := ⟨(Gr.refl _).drew, hm5.drew.cell m0 0 rfl, hm5.drew.cell m0 1 rfl, hm5.drew.cell m0 2 rfl⟩
    have k1 := hm5.cell m0 0 rfl
    have k2 := hm5.cell m0 1 rfl
    have k3 := hm5.cell m0 2 rfl
    have key : ∀ (A1 : Option Addr) (e1 : Nat) (w8 : World) (X : Chunk) (ys : List Fr), ys.map Fr.data = (xs.take k).map Fr.data → (∀ y, y ∈ ys → y.n ≤ N) →
        Mem w w8 (Own 3 (.slice A1 (k + 1) e1) (fR ys ++ [.int .i64 xfn, .int .i64 (wrap64 (xpc + 1)), .slice B (xn + 1) d]) :: X :: (slots ys ++ [Blk g9 (.cells [.int .i64 xfn, .int .i64 (wrap64 (xpc + 1)), .slice B (xn + 1) d].toArray 30), Own 2 (.slice B (xn + 1) d) (fV (xsl ++ [(v1, v2)])), Blk (g + 1) (.cells [.int .i64 v1, .int .i64 v2].toArray 36), Blk g (.cells [.slice kA kn kc, .slice fA fnn fc].toArray 26)])) →
        ∃ A' m c' zs, Ending.returned (.tuple #[.slice A1 (k + 1) e1, .bool true]) = .returned (.tuple #[.slice A' m c', .bool true]) ∧ Mem w w8 (Own 3 (.slice A' m c') (fR zs) :: slots zs) ∧ zs.map Fr.data = retD xs (v1, v2) ∧ ∀ z, z ∈ zs → z.n ≤ N + 1 := fun A1 e1 w8 X ys h1 h2 h3 => by
      refine ⟨A1, k + 1, e1, ys ++ [⟨xfn, wrap64 (xpc + 1), B, xn + 1, d, xsl ++ [(v1, v2)]⟩], rfl, ?_, ?_, fun z hz => ?_⟩
      · rw [fR_app, slots_app]
        exact h3.sub (.cons_cons _ (.cons _ (List.Sublist.append (List.Sublist.refl _) (.cons _ (.cons_cons _ (List.nil_sublist _))))))
      · rw [hrd.out, List.map_append, h1]; rfl
      · rcases List.mem_append.1 hz with hz | hz
        · have := h2 z hz; omega
        · simp at hz; subst hz; show xn + 1 ≤ N + 1; omega
    have key := Fact.mk key
    have e2 : k ≤ c := by omega
    refine wp_region_until (S := fun W => Gr w5 W ∧ W.cell? ⟨g9, 0, none⟩ = some (.int .i64 xfn) ∧ W.cell? ⟨g9, 1, none⟩ = some (.int .i64 (wrap64 (xpc + 1))) ∧ W.cell? ⟨g9, 2, none⟩ = some (.slice B (xn + 1) d)) 6 (by kernel_rfl) ?_
    refine wpAnyU_take 0 (v := ?va0) rfl (by kernel_rfl) (by kernel_rfl) (fun _ _ _ h => h) hS (Or.inl ⟨rfl, ?ya0⟩) ?ra0
    case ya0 =>
      intro W hW
      obtain ⟨hW0, hW1, hW2, hW3⟩ := hW
      go_simp
      try with_reducible rfl
    try simp only [Act.put, List.setIfInBounds_toArray, List.set_cons_zero, List.set_cons_succ]
    refine wpAnyU_take 1 (v := ?va1) rfl (by kernel_rfl) (by kernel_rfl) (fun _ _ _ h => h) hS (Or.inl ⟨rfl, ?ya1⟩) ?ra1
    case ya1 =>
      intro W hW
      obtain ⟨hW0, hW1, hW2, hW3⟩ := hW
      go_simp
      try with_reducible rfl
    try simp only [Act.put, List.setIfInBounds_toArray, List.set_cons_zero, List.set_cons_succ]
    refine wpAnyU_take 2 (v := ?va2) rfl (by kernel_rfl) (by kernel_rfl) (fun _ _ _ h => h) hS (Or.inl ⟨rfl, ?ya2⟩) ?ra2
    case ya2 =>
      intro W hW
      obtain ⟨hW0, hW1, hW2, hW3⟩ := hW
      go_simp
      try with_reducible rfl
    try simp only [Act.put, List.setIfInBounds_toArray, List.set_cons_zero, List.set_cons_succ]
    refine wpAnyU_take 4 (v := ?va4) rfl (by kernel_rfl) (by kernel_rfl) (fun _ _ _ h => h) hS (Or.inl ⟨rfl, ?ya4⟩) ?ra4
    case ya4 =>
      intro W hW
      obtain ⟨hW0, hW1, hW2, hW3⟩ := hW
      go_simp
      try with_reducible rfl
    try simp only [Act.put, List.setIfInBounds_toArray, List.set_cons_zero, List.set_cons_succ]
    refine wpAnyU_two 3 5 (by kernel_rfl) rfl rfl (fun K hK => ?_) (fun K hK => ?_)
    · refine step_call rfl 19 Tryz.f19 Tryz.func19 (by kernel_rfl) (by kernel_rfl) _ _ rfl #[.slice (some ⟨b, o, none⟩) k c] (by simp [Act.eval]) ?_
      refine (copied_ok _ N (some ⟨b, o, none⟩) k c (xs.take k) ⟨(hx.out.pre k (by omega)).gr hm5.drew.below⟩ (by omega) (by omega)).mono ?_
      rintro e w6 ⟨gC, ys, rfl, hm6, hyd, hyn⟩
      have hg6 := Gr.trans (Gr.refl w5).drew hm6.below
      refine ⟨_, rfl, hK _ _ (fun _ => ⟨hg6, Gr.cell hg6 k1, Gr.cell hg6 k2, Gr.cell hg6 k3⟩) ?_⟩
      clear hK K
      try simp only [Act.put, List.setIfInBounds_toArray, List.set_cons_zero, List.set_cons_succ]
      refine wpAnyU_one 5 (by kernel_rfl) rfl (fun K hK => ?_)
      go_simp
      have hg7 := Gr.alloc hg6 (.cells [.int .i64 xfn, .int .i64 (wrap64 (xpc + 1)), .slice B (xn + 1) d].toArray 30)
      refine hK _ _ (fun _ => ⟨hg7, Gr.cell hg7 k1, Gr.cell hg7 k2, Gr.cell hg7 k3⟩) ?_
      clear hK K
      have hmj := (hm5.drew.join hm6)
      refine wpAnyU_one 6 (by kernel_rfl) rfl (fun K hK => ?_)
      refine step_app rfl _ _ _ rfl 30 iR _ 3 40 ty_Rs hi hz0 hz1 hz2 rfl (some ⟨gC, 0, none⟩) k k _ rfl (hmj.alloc _).swap _ 1 1 [.int .i64 xfn, .int .i64 (wrap64 (xpc + 1)), .slice B (xn + 1) d] rfl (RdC.lit _ _ _ _ _ rfl (by simp [maxLen]) (cR_one ⟨xfn, wrap64 (xpc + 1), B, xn + 1, d, []⟩)) (by unfold maxLen; omega) (by omega) ?_
      intro A1 e1 w8 HM1
      refine hK _ _ (fun h => absurd h (by decide)) ?_
      clear hK K
      try simp only [Act.put, List.setIfInBounds_toArray, List.set_cons_zero, List.set_cons_succ]
      refine wpAnyU_one 7 (by kernel_rfl) rfl (fun K hK => ?_)
      go_simp
      refine hK _ _ (fun h => absurd h (by decide)) ?_
      clear hK K
      refine wpAnyU_one 8 (by kernel_rfl) rfl (fun K hK => ?_)
      go_simp
      refine hK _ _ (fun h => absurd h (by decide)) ?_
      clear hK K
      refine wpAnyU_done (by kernel_rfl) ?_ _
      go_wp2
      go_ret2
      exact key.out A1 e1 w8 _ ys hyd hyn HM1
    · go_simp
      have hg7 := Gr.drew (Gr.alloc (Gr.refl w5) (.cells [.int .i64 xfn, .int .i64 (wrap64 (xpc + 1)), .slice B (xn + 1) d].toArray 30))
      have hm7 := (hm5.alloc (.cells [.int .i64 xfn, .int .i64 (wrap64 (xpc + 1)), .slice B (xn + 1) d].toArray 30)).drew
      refine hK _ _ (fun _ => ⟨hg7, Gr.cell hg7 k1, Gr.cell hg7 k2, Gr.cell hg7 k3⟩) ?_
      clear hK K
      refine wpAnyU_one 3 (by kernel_rfl) rfl (fun K hK => ?_)
      refine step_call rfl 19 Tryz.f19 Tryz.func19 (by kernel_rfl) (by kernel_rfl) _ _ rfl #[.slice (some ⟨b, o, none⟩) k c] (by simp [Act.eval]) ?_
      refine (copied_ok _ N (some ⟨b, o, none⟩) k c (xs.take k) ⟨(hx.out.pre k (by omega)).gr hm7.below⟩ (by omega) (by omega)).mono ?_
      rintro e w6 ⟨gC, ys, rfl, hm6, hyd, hyn⟩
      have hg6 := Gr.trans hg7 hm6.below
      refine ⟨_, rfl, hK _ _ (fun _ => ⟨hg6, Gr.cell hg6 k1, Gr.cell hg6 k2, Gr.cell hg6 k3⟩) ?_⟩
      clear hK K
      try simp only [Act.put, List.setIfInBounds_toArray, List.set_cons_zero, List.set_cons_succ]
      have hmj := (Mem.mid (hm7.join hm6)).swap
      refine wpAnyU_one 6 (by kernel_rfl) rfl (fun K hK => ?_)
      refine step_app rfl _ _ _ rfl 30 iR _ 3 40 ty_Rs hi hz0 hz1 hz2 rfl (some ⟨gC, 0, none⟩) k k _ rfl hmj _ 1 1 [.int .i64 xfn, .int .i64 (wrap64 (xpc + 1)), .slice B (xn + 1) d] rfl (hmj.rdblk m1 1 3 rfl (by simp [maxLen]) (cR_one ⟨xfn, wrap64 (xpc + 1), B, xn + 1, d, []⟩)) (by unfold maxLen; omega) (by omega) ?_
      intro A1 e1 w8 HM1
      refine hK _ _ (fun h => absurd h (by decide)) ?_
      clear hK K
      try simp only [Act.put, List.setIfInBounds_toArray, List.set_cons_zero, List.set_cons_succ]
      refine wpAnyU_one 7 (by kernel_rfl) rfl (fun K hK => ?_)
      go_simp
      refine hK _ _ (fun h => absurd h (by decide)) ?_
      clear hK K
      refine wpAnyU_one 8 (by kernel_rfl) rfl (fun K hK => ?_)
      go_simp
      refine hK _ _ (fun h => absurd h (by decide)) ?_
      clear hK K
      refine wpAnyU_done (by kernel_rfl) ?_ _
      go_wp2
      go_ret2
      exact key.out A1 e1 w8 _ ys hyd hyn HM1
  · have hb2 : Fact (decide (2 ≤ n) = false) := ⟨by simpa using h2⟩
    have hrd : Fact (retD xs (v1, v2) = []) := ⟨by unfold retD; rw [if_pos (by have := hl.out; omega)]⟩
    rw [hb2.out]
    have e1 : decide ((n : Int) - 2 < 0) = true := by simp; omega
    go_enter Tryz.func12, Tryz.ntmps12
    go_wp2
    go_ret2
    have hm := (Mem.start w).alloc (.cells [.slice kA kn kc, .slice fA fnn fc].toArray 26) |>.alloc (.cells [.int .i64 v1, .int .i64 v2].toArray 36)
    exact ⟨none, 0, 0, [], rfl, (hm.nil 3 none).sub (.cons_cons _ (List.nil_sublist _)), by rw [hrd.out]; rfl, fun z hz => by cases hz⟩
end Go.Proofs.YtgflfpepfpekhaaGreat
namespace Go.Proofs.YtgflfpepfpekhaaGreat
open Go.RowKit Go.Mm
set_option maxHeartbeats 4000000
set_option maxRecDepth 100000
def d0 : FrD := (0, 0, [])
/-- What is caught, by the lowest n frames. -/
def catchD (p : Pg) (v : V2) (D : List FrD) : Nat → Option (List FrD)
  | 0 => none
  | n + 1 => match takesG (fnAt p (D.getD n d0).1) (D.getD n d0).2.1 (D.getD n d0).2.2.length with
    | some (t, st) => some (D.take n ++ [((D.getD n d0).1, t, (D.getD n d0).2.2.take st ++ [v])])
    | none => catchD p v D n
def Frames (w w' : World) (N : Nat) (D : List FrD) (e : Ending) : Prop :=
  ∃ A n c ys, e = .returned (.tuple #[.slice A n c, .bool true]) ∧ Mem w w' (Own 3 (.slice A n c) (fR ys) :: slots ys) ∧ ys.map Fr.data = D ∧ ∀ y, y ∈ ys → y.n ≤ N
def CatchR (w w' : World) (N : Nat) (r : Option (List FrD)) (e : Ending) : Prop :=
  match r with
  | none => e = .returned (.tuple #[.slice none 0 0, .bool false]) ∧ Gr w w'
  | some D => Frames w w' N D e
theorem data_getD (xs : List Fr) (k : Nat) : (xs.map Fr.data).getD k d0 = (xs.getD k fr0).data := by
  rw [List.getD_eq_getElem?_getD, List.getD_eq_getElem?_getD, List.getElem?_map]
  cases xs[k]? <;> rfl
theorem catch_ok (w : World) (p : Pg) (hp : Fact (PgOk w p)) (N : Nat) (A : Option Addr) (n c : Nat) (xs : List Fr) (hx : Fact (FrsOk N w A n c xs)) (v : V2) (hn : n ≤ 1048577) (hN : N ≤ 1999999) :
    Calls Tryz.prog 10 #[vP p, .slice A n c, .agg (cV v).toArray] w fun e w' => CatchR w w' (N + 1) (catchD p v (xs.map Fr.data) n) e := by
  have hl := Fact.mk hx.out.len
  have htk := fun (f : Fr) (hf : f.n ≤ 2000000) (W : World) (hW : Gr w W) => takes_ok W p ⟨hp.out.gr hW⟩ f hf
  obtain ⟨v1, v2⟩ := v
  obtain ⟨kA, kn, kc, consts, fA, fnn, fc, fns⟩ := p
  simp only [vP, cV] at htk ⊢
  go_enter Tryz.func10, Tryz.ntmps10
  go_upto_region 1 with (fail)
  have hm := (((Mem.start w).alloc (.cells [.slice kA kn kc, .slice fA fnn fc].toArray 26)).alloc (.cells [.int .i64 v1, .int .i64 v2].toArray 36))
  simp only [World.size_alloc] at hm
  generalize hgX : w.heap.size = g at hm ⊢
  generalize hwX : ((w.alloc (.cells [.slice kA kn kc, .slice fA fnn fc].toArray 26)).alloc (.cells [.int .i64 v1, .int .i64 v2].toArray 36)) = w1 at hm
  try refine wp_world hwX ?_
  clear hwX hgX
  go_wp2
  go_loopw [8] (fun i w' => ∃ (k : Nat), i = .int .i64 ((k : Int) - 1) ∧ k ≤ n ∧ Fact (catchD ⟨kA, kn, kc, consts, fA, fnn, fc, fns⟩ (v1, v2) (xs.map Fr.data) n = catchD ⟨kA, kn, kc, consts, fA, fnn, fc, fns⟩ (v1, v2) (xs.map Fr.data) k) ∧ Mem w w' [Blk (g + 1) (.cells [.int .i64 v1, .int .i64 v2].toArray 36), Blk g (.cells [.slice kA kn kc, .slice fA fnn fc].toArray 26)]) (fun i _ => ((intOf i) + 1).toNat)
  case atStart => exact ⟨n, by go_num, by omega, ⟨rfl⟩, hm⟩
  case round =>
    clear hm
    obtain ⟨k, rfl, hk, hc, hm⟩ := hrel
    cases k with
    | zero =>
      go_wp2
      go_ret2
      rw [hc.out]
      exact ⟨rfl, hm.below⟩
    | succ k =>
      have e0 : ((k + 1 : Nat) : Int) - 1 = (k : Int) := by omega
      rw [e0]
      clear e0
      have hge : ((k : Int) ≥ 0) = True := by simp
      obtain ⟨b, o, rfl, r1, hok, _⟩ := hx.out.at k (by omega)
      have hxe : ∃ x, Fact (xs.getD k fr0 = x) := ⟨_, ⟨rfl⟩⟩
      obtain ⟨x, hxe⟩ := hxe
      rw [hxe.out] at r1 hok
      have r0 := Fact.mk r1
      have r1 := rng_gr r1 hm.below
      have hxn := hok.2
      have hkc : k ≤ c := by obtain ⟨_, _, _, e, _, h, _⟩ := hx.out.rd; cases e; omega
      have hxl := Fact.mk hok.len
      have htx := fun (W : World) (hW : Gr w W) => htk x (by omega) W hW
      obtain ⟨xfn, xpc, xA, xn, xc, xsl⟩ := x
      simp only [cR] at htx r1 hxl hxn
      have hcd : Fact (catchD ⟨kA, kn, kc, consts, fA, fnn, fc, fns⟩ (v1, v2) (xs.map Fr.data) (k + 1) = match takesG (fnAt ⟨kA, kn, kc, consts, fA, fnn, fc, fns⟩ xfn) xpc xn with
        | some (t, st) => some ((xs.map Fr.data).take k ++ [(xfn, t, xsl.take st ++ [(v1, v2)])])
        | none => catchD ⟨kA, kn, kc, consts, fA, fnn, fc, fns⟩ (v1, v2) (xs.map Fr.data) k) := ⟨by
        rw [catchD, data_getD, hxe.out]; simp only [Fr.data, hxl.out]⟩
      have c1 := hm.cell m1 0 rfl
      have c2 := hm.cell m1 1 rfl
      have x1 : wr.cell? ⟨b, o + k * 3, none⟩ = some (.int .i64 xfn) := r1 0 _ rfl
      have x2 : wr.cell? ⟨b, o + k * 3 + 1, none⟩ = some (.int .i64 xpc) := r1 1 _ rfl
      have x3 : wr.cell? ⟨b, o + k * 3 + 2, none⟩ = some (.slice xA xn xc) := r1 2 _ rfl
      have hkn : k < n := by omega
      have hb := hm.below
      have hbl : b < wr.heap.size := World.block_lt_of_cell? wr _ x1
      have hgl : g < wr.heap.size := World.block_lt_of_cell? wr _ c1
      clear r1 htk
      cases hT : takesG (fnAt ⟨kA, kn, kc, consts, fA, fnn, fc, fns⟩ xfn) xpc xn with
      | none =>
        rw [hT] at hcd
        simp only [hT] at htx
        go_upto_region 4 with (fail)
        go_cut [9, 10, 11] (fun _ _ s11 W => s11 = .bool false ∧ Gr wr W)
        case first =>
          go_region_held3 (fun w' => Gr wr w' ∧ w'.cell? ⟨g, 0, none⟩ = some (.slice kA kn kc) ∧ w'.cell? ⟨g, 1, none⟩ = some (.slice fA fnn fc) ∧ w'.cell? ⟨b, o + k * 3, none⟩ = some (.int .i64 xfn) ∧ w'.cell? ⟨b, o + k * 3 + 1, none⟩ = some (.int .i64 xpc) ∧ w'.cell? ⟨b, o + k * 3 + 2, none⟩ = some (.slice xA xn xc)) ((refine (fun hG => ⟨hG, hG.cell c1, hG.cell c2, hG.cell x1, hG.cell x2, hG.cell x3⟩ : Gr wr _ → _) ?_; repeat (first | with_reducible exact Gr.refl _ | assumption | with_reducible refine Gr.setc ?_ (Nat.le_refl _) _ | with_reducible refine Gr.drew ?_ | with_reducible refine Gr.alloc ?_ _))) ((go_at_call 18; refine (htx _ (by repeat (first | with_reducible exact hb | with_reducible refine Gr.drew ?_ | with_reducible refine Gr.alloc ?_ _))).mono ?_; rintro e w5 ⟨⟨⟨y1, y2, y3, y4⟩, rfl⟩, hg⟩; simp only [cH]; have hgr : Gr wr w5 := Gr.trans (by repeat (first | with_reducible exact Gr.refl _ | with_reducible refine Gr.drew ?_ | with_reducible refine Gr.alloc ?_ _)) hg; try (have qh := hg.heap (k := wr.heap.size) (o := .cells (cH h0).toArray 43) (by first | exact heap_alloc_new wr _ | exact heap_alloc_new wr.drew _); obtain ⟨q0, f0⟩ := blk_cell (u := .int .i64 0) qh 0 rfl; obtain ⟨q1, f1⟩ := blk_cell (u := .int .i64 0) qh 1 rfl; obtain ⟨q2, f2⟩ := blk_cell (u := .int .i64 0) qh 2 rfl; obtain ⟨q3, f3⟩ := blk_cell (u := .int .i64 0) qh 3 rfl)))
          all_goals
            go_wp2
            (try simp only [Act.put, List.getElem_toArray, List.getElem_cons_succ, List.getElem_cons_zero, List.setIfInBounds_toArray, List.set_cons_succ, List.set_cons_zero])
            go_meet
            case rel => exact ⟨rfl, by repeat (first | with_reducible exact hgr | with_reducible refine Gr.setc ?_ (Nat.le_refl _) _ | with_reducible refine Gr.drew ?_ | with_reducible refine Gr.alloc ?_ _)⟩
        case rest =>
          obtain ⟨rfl, hgr⟩ := hcut
          go_wp2
          go_roundw
          case rel => exact ⟨k, rfl, by omega, ⟨hc.out.trans hcd.out⟩, hm.gr hgr⟩
          case measure => simp [intOf]
      | some ts =>
        obtain ⟨t, st⟩ := ts
        rw [hT] at hcd
        simp only [hT] at htx
        go_upto_region 4 with (fail)
        go_cut [9, 10, 11] (fun s9 s10 s11 W => ∃ (g9 : Nat) (y : H4), s9 = .pointer (some ⟨g9, 0, none⟩) ∧ s10 = .int .i64 st ∧ s11 = .bool true ∧ y.2.2.1 = t ∧ st ≤ xn ∧ Mem w W [Blk g9 (.cells (cH y).toArray 43), Blk (g + 1) (.cells [.int .i64 v1, .int .i64 v2].toArray 36), Blk g (.cells [.slice kA kn kc, .slice fA fnn fc].toArray 26)])
        case first =>
          go_region_held3 (fun w' => Gr wr w' ∧ w'.cell? ⟨g, 0, none⟩ = some (.slice kA kn kc) ∧ w'.cell? ⟨g, 1, none⟩ = some (.slice fA fnn fc) ∧ w'.cell? ⟨b, o + k * 3, none⟩ = some (.int .i64 xfn) ∧ w'.cell? ⟨b, o + k * 3 + 1, none⟩ = some (.int .i64 xpc) ∧ w'.cell? ⟨b, o + k * 3 + 2, none⟩ = some (.slice xA xn xc)) ((refine (fun hG => ⟨hG, hG.cell c1, hG.cell c2, hG.cell x1, hG.cell x2, hG.cell x3⟩ : Gr wr _ → _) ?_; repeat (first | with_reducible exact Gr.refl _ | assumption | with_reducible refine Gr.setc ?_ (Nat.le_refl _) _ | with_reducible refine Gr.drew ?_ | with_reducible refine Gr.alloc ?_ _))) ((go_at_call 18; refine (htx _ (by repeat (first | with_reducible exact hb | with_reducible refine Gr.drew ?_ | with_reducible refine Gr.alloc ?_ _))).mono ?_; rintro e w5 ⟨⟨⟨y1, y2, y3, y4⟩, rfl, rfl, hst⟩, hg⟩; simp only [cH]; have hgr : Gr wr w5 := Gr.trans (by repeat (first | with_reducible exact Gr.refl _ | with_reducible refine Gr.drew ?_ | with_reducible refine Gr.alloc ?_ _)) hg; have hmB := hm.gr hgr; try (have qh := hg.heap (k := wr.heap.size) (o := .cells (cH h0).toArray 43) (by first | exact heap_alloc_new wr _ | exact heap_alloc_new wr.drew _); have hmA := (((((hm.alloc (.cells (cH h0).toArray 43)).drew.gr hg).set 0 (.int .i64 y1)).set 1 (.int .i64 y2)).set 2 (.int .i64 y3)).set 3 (.int .i64 y4); obtain ⟨q0, f0⟩ := blk_cell (u := .int .i64 0) qh 0 rfl; obtain ⟨q1, f1⟩ := blk_cell (u := .int .i64 0) qh 1 rfl; obtain ⟨q2, f2⟩ := blk_cell (u := .int .i64 0) qh 2 rfl; obtain ⟨q3, f3⟩ := blk_cell (u := .int .i64 0) qh 3 rfl)))
          all_goals
            go_wp2
            try simp only [Act.put, List.getElem_toArray, List.getElem_cons_succ, List.getElem_cons_zero, List.setIfInBounds_toArray, List.set_cons_succ, List.set_cons_zero]
            go_meet
            case rel => first
              | exact ⟨_, (y1, y2, y3, y4), rfl, rfl, rfl, rfl, hst, hmA⟩
              | exact ⟨_, (y1, y2, y3, y4), rfl, rfl, rfl, rfl, hst, hmB.alloc _⟩
              | exact ⟨_, (y1, y2, y3, y4), rfl, rfl, rfl, rfl, hst, hmA.drew⟩
              | exact ⟨_, (y1, y2, y3, y4), rfl, rfl, rfl, rfl, hst, (hmB.alloc _).drew⟩
        case rest =>
          obtain ⟨g9, y, rfl, rfl, rfl, hy, hst, hm2⟩ := hcut
          obtain ⟨y1, y2, y3, y4⟩ := y
          simp only at hy
          subst hy
          clear hm hb c1 c2 x1 x2 x3 hbl hgl
          go_wp2_with fail
          refine (copied_ok wc N (some ⟨b, o, none⟩) k c (xs.take k) ⟨(hx.out.pre k (by omega)).gr hm2.below⟩ (by omega) (by omega)).mono ?_
          rintro e w6 ⟨gC, ys, rfl, hm3, hyd, hyn⟩
          have hm4 := hm2.join hm3
          simp only [List.cons_append, List.append_assoc] at hm4
          clear hm2 hm3
          have r2 := rng_gr r0.out hm4.below
          have hx1 : w6.cell? ⟨b, o + k * 3, none⟩ = some (.int .i64 xfn) := r2 0 _ rfl
          have hx3 : w6.cell? ⟨b, o + k * 3 + 2, none⟩ = some (.slice xA xn xc) := r2 2 _ rfl
          have hy3 : w6.cell? ⟨g9, 2, none⟩ = some (.int .i64 y3) := hm4.cell (t := 43) (fr := (0, 0)) (cs := cH (y1, y2, y3, y4)) (by simp) 2 rfl
          have hv1 : w6.cell? ⟨g + 1, 0, none⟩ = some (.int .i64 v1) := hm4.cell (t := 36) (fr := (0, 0)) (cs := [.int .i64 v1, .int .i64 v2]) (by simp) 0 rfl
          have hv2 : w6.cell? ⟨g + 1, 1, none⟩ = some (.int .i64 v2) := hm4.cell (t := 36) (fr := (0, 0)) (cs := [.int .i64 v1, .int .i64 v2]) (by simp) 1 rfl
          have hrs : Fact (RdC w6 2 (.slice xA xn xc) (fV xsl)) := ⟨(hok.1).gr hm4.below⟩
          clear r2
          go_upto_region 7 with (fail)
          go_cut [13] (fun s13 W => ∃ (g13 : Nat) (A7 : Option Addr) (c7 : Nat), s13 = .pointer (some ⟨g13, 0, none⟩) ∧ Mem w W (Blk g13 (.cells [.int .i64 xfn, .int .i64 y3, .slice A7 (st + 1) c7].toArray 30) :: Own 2 (.slice A7 (st + 1) c7) (fV (xsl.take st ++ [(v1, v2)])) :: Own 3 (.slice (some ⟨gC, 0, none⟩) k k) (fR ys) :: (slots ys ++ [Blk g9 (.cells (cH (y1, y2, y3, y4)).toArray 43), Blk (g + 1) (.cells [.int .i64 v1, .int .i64 v2].toArray 36), Blk g (.cells [.slice kA kn kc, .slice fA fnn fc].toArray 26)])))
          case first =>
            have k1 := Gr.cell (Gr.refl w6).drew hx1
            have k2 := Gr.cell (Gr.refl w6).drew hx3
            have k3 := Gr.cell (Gr.refl w6).drew hy3
            have k4 := Gr.cell (Gr.refl w6).drew hv1
            have k5 := Gr.cell (Gr.refl w6).drew hv2
            have hS : w6.drew.cell? ⟨b, o + k * 3, none⟩ = some (.int .i64 xfn) ∧ w6.drew.cell? ⟨b, o + k * 3 + 2, none⟩ = some (.slice xA xn xc) ∧ w6.drew.cell? ⟨g9, 2, none⟩ = some (.int .i64 y3) ∧ w6.drew.cell? ⟨g + 1, 0, none⟩ = some (.int .i64 v1) ∧ w6.drew.cell? ⟨g + 1, 1, none⟩ = some (.int .i64 v2) := ⟨k1, k2, k3, k4, k5⟩
            refine wp_region_until (S := fun W => W.cell? ⟨b, o + k * 3, none⟩ = some (.int .i64 xfn) ∧ W.cell? ⟨b, o + k * 3 + 2, none⟩ = some (.slice xA xn xc) ∧ W.cell? ⟨g9, 2, none⟩ = some (.int .i64 y3) ∧ W.cell? ⟨g + 1, 0, none⟩ = some (.int .i64 v1) ∧ W.cell? ⟨g + 1, 1, none⟩ = some (.int .i64 v2)) 17 (by kernel_rfl) ?_
            refine wpAnyU_take 0 (v := ?vb0) rfl (by kernel_rfl) (by kernel_rfl) (fun _ _ _ h => h) hS (Or.inl ⟨rfl, ?yb0⟩) ?rb0
            case yb0 =>
              intro W hW
              obtain ⟨hW0, hW1, hW2, hW3, hW4⟩ := hW
              go_simp
              try with_reducible rfl
            try simp only [Act.put, List.setIfInBounds_toArray, List.set_cons_zero, List.set_cons_succ]
            refine wpAnyU_take 1 (v := ?vb1) rfl (by kernel_rfl) (by kernel_rfl) (fun _ _ _ h => h) hS (Or.inl ⟨rfl, ?yb1⟩) ?rb1
            case yb1 =>
              intro W hW
              obtain ⟨hW0, hW1, hW2, hW3, hW4⟩ := hW
              go_simp
              try with_reducible rfl
            try simp only [Act.put, List.setIfInBounds_toArray, List.set_cons_zero, List.set_cons_succ]
            refine wpAnyU_take 2 (v := ?vb2) rfl (by kernel_rfl) (by kernel_rfl) (fun _ _ _ h => h) hS (Or.inl ⟨rfl, ?yb2⟩) ?rb2
            case yb2 =>
              intro W hW
              obtain ⟨hW0, hW1, hW2, hW3, hW4⟩ := hW
              go_simp
              try with_reducible rfl
            try simp only [Act.put, List.setIfInBounds_toArray, List.set_cons_zero, List.set_cons_succ]
            refine wpAnyU_take 3 (v := ?vb3) rfl (by kernel_rfl) (by kernel_rfl) (fun _ _ _ h => h) hS (Or.inl ⟨rfl, ?yb3⟩) ?rb3
            case yb3 =>
              intro W hW
              obtain ⟨hW0, hW1, hW2, hW3, hW4⟩ := hW
              go_simp
              try with_reducible rfl
            try simp only [Act.put, List.setIfInBounds_toArray, List.set_cons_zero, List.set_cons_succ]
            refine wpAnyU_take 4 (v := ?vb4) rfl (by kernel_rfl) (by kernel_rfl) (fun _ _ _ h => h) hS (Or.inl ⟨rfl, ?yb4⟩) ?rb4
            case yb4 =>
              intro W hW
              obtain ⟨hW0, hW1, hW2, hW3, hW4⟩ := hW
              go_simp
              try with_reducible rfl
            try simp only [Act.put, List.setIfInBounds_toArray, List.set_cons_zero, List.set_cons_succ]
            refine wpAnyU_take 5 (v := ?vb5) rfl (by kernel_rfl) (by kernel_rfl) (fun _ _ _ h => h) hS (Or.inl ⟨rfl, ?yb5⟩) ?rb5
            case yb5 =>
              intro W hW
              obtain ⟨hW0, hW1, hW2, hW3, hW4⟩ := hW
              go_simp
              try with_reducible rfl
            try simp only [Act.put, List.setIfInBounds_toArray, List.set_cons_zero, List.set_cons_succ]
            refine wpAnyU_take 6 (v := ?vb6) rfl (by kernel_rfl) (by kernel_rfl) (fun _ _ _ h => h) hS (Or.inl ⟨rfl, ?yb6⟩) ?rb6
            case yb6 =>
              intro W hW
              obtain ⟨hW0, hW1, hW2, hW3, hW4⟩ := hW
              go_simp
              try with_reducible rfl
            try simp only [Act.put, List.setIfInBounds_toArray, List.set_cons_zero, List.set_cons_succ]
            refine wpAnyU_take 7 (v := ?vb7) rfl (by kernel_rfl) (by kernel_rfl) (fun _ _ _ h => h) hS (Or.inl ⟨rfl, ?yb7⟩) ?rb7
            case yb7 =>
              intro W hW
              obtain ⟨hW0, hW1, hW2, hW3, hW4⟩ := hW
              go_simp
              try with_reducible rfl
            try simp only [Act.put, List.setIfInBounds_toArray, List.set_cons_zero, List.set_cons_succ]
            refine wpAnyU_take 8 (v := ?vb8) rfl (by kernel_rfl) (by kernel_rfl) (fun _ _ _ h => h) hS (Or.inl ⟨rfl, ?yb8⟩) ?rb8
            case yb8 =>
              intro W hW
              obtain ⟨hW0, hW1, hW2, hW3, hW4⟩ := hW
              go_simp
              try with_reducible rfl
            try simp only [Act.put, List.setIfInBounds_toArray, List.set_cons_zero, List.set_cons_succ]
            refine wpAnyU_take 9 (v := ?vb9) rfl (by kernel_rfl) (by kernel_rfl) (fun _ _ _ h => h) hS (Or.inl ⟨rfl, ?yb9⟩) ?rb9
            case yb9 =>
              intro W hW
              obtain ⟨hW0, hW1, hW2, hW3, hW4⟩ := hW
              go_simp
              try with_reducible rfl
            try simp only [Act.put, List.setIfInBounds_toArray, List.set_cons_zero, List.set_cons_succ]
            refine wpAnyU_take 10 (v := ?vb10) rfl (by kernel_rfl) (by kernel_rfl) (fun _ _ _ h => h) hS (Or.inl ⟨rfl, ?yb10⟩) ?rb10
            case yb10 =>
              intro W hW
              obtain ⟨hW0, hW1, hW2, hW3, hW4⟩ := hW
              go_simp
              try with_reducible rfl
            try simp only [Act.put, List.setIfInBounds_toArray, List.set_cons_zero, List.set_cons_succ]
            refine wpAnyU_take 11 (v := ?vb11) rfl (by kernel_rfl) (by kernel_rfl) (fun _ _ _ h => h) hS (Or.inl ⟨rfl, ?yb11⟩) ?rb11
            case yb11 =>
              intro W hW
              obtain ⟨hW0, hW1, hW2, hW3, hW4⟩ := hW
              go_simp
              try with_reducible rfl
            try simp only [Act.put, List.setIfInBounds_toArray, List.set_cons_zero, List.set_cons_succ]
            refine wpAnyU_take 12 (v := ?vb12) rfl (by kernel_rfl) (by kernel_rfl) (fun _ _ _ h => h) hS (Or.inl ⟨rfl, ?yb12⟩) ?rb12
            case yb12 =>
              intro W hW
              obtain ⟨hW0, hW1, hW2, hW3, hW4⟩ := hW
              go_simp
              try with_reducible rfl
            try simp only [Act.put, List.setIfInBounds_toArray, List.set_cons_zero, List.set_cons_succ]
            refine wpAnyU_take 13 (v := ?vb13) rfl (by kernel_rfl) (by kernel_rfl) (fun _ _ _ h => h) hS (Or.inl ⟨rfl, ?yb13⟩) ?rb13
            case yb13 =>
              intro W hW
              obtain ⟨hW0, hW1, hW2, hW3, hW4⟩ := hW
              go_simp
              try with_reducible rfl
            try simp only [Act.put, List.setIfInBounds_toArray, List.set_cons_zero, List.set_cons_succ]
            refine wpAnyU_two 14 16 (by kernel_rfl) rfl rfl (fun K hK => ?_) (fun K hK => ?_)
            · refine step_call rfl 20 Tryz.f20 Tryz.func20 (by kernel_rfl) (by kernel_rfl) _ _ rfl #[.slice xA xn xc, .int .i64 st, .agg #[.int .i64 v1, .int .i64 v2]] (by simp [Act.eval]) ?_
              refine (laid_ok w6.drew xA xn xc xsl ⟨hrs.out.gr (Gr.refl _).drew⟩ st _ rfl hst (by omega) (v1, v2)).mono ?_
              rintro e w7 ⟨A7, c7, rfl, hn7⟩
              have hS7 : w7.cell? ⟨b, o + k * 3, none⟩ = some (.int .i64 xfn) ∧ w7.cell? ⟨b, o + k * 3 + 2, none⟩ = some (.slice xA xn xc) ∧ w7.cell? ⟨g9, 2, none⟩ = some (.int .i64 y3) ∧ w7.cell? ⟨g + 1, 0, none⟩ = some (.int .i64 v1) ∧ w7.cell? ⟨g + 1, 1, none⟩ = some (.int .i64 v2) := ⟨Gr.cell hn7.gr k1, Gr.cell hn7.gr k2, Gr.cell hn7.gr k3, Gr.cell hn7.gr k4, Gr.cell hn7.gr k5⟩
              refine ⟨_, rfl, hK _ _ (fun _ => hS7) ?_⟩
              clear hK K
              try simp only [Act.put, List.setIfInBounds_toArray, List.set_cons_zero, List.set_cons_succ]
              refine wpAnyU_take 15 (v := ?vc15) rfl (by kernel_rfl) (by kernel_rfl) (fun _ _ _ h => h) hS7 (Or.inl ⟨rfl, ?yc15⟩) ?rc15
              case yc15 =>
                intro W hW
                obtain ⟨hW0, hW1, hW2, hW3, hW4⟩ := hW
                go_simp
                try with_reducible rfl
              try simp only [Act.put, List.setIfInBounds_toArray, List.set_cons_zero, List.set_cons_succ]
              refine wpAnyU_one 16 (by kernel_rfl) rfl (fun K hK => ?_)
              go_simp
              have hg8 := Gr.alloc (Gr.refl w7) (.cells [.int .i64 0, .int .i64 0, .slice none 0 0].toArray 30)
              refine hK _ _ (fun _ => ⟨Gr.cell hg8 (Gr.cell hn7.gr k1), Gr.cell hg8 (Gr.cell hn7.gr k2), Gr.cell hg8 (Gr.cell hn7.gr k3), Gr.cell hg8 (Gr.cell hn7.gr k4), Gr.cell hg8 (Gr.cell hn7.gr k5)⟩) ?_
              clear hK K
              refine wpAnyU_one 17 (by kernel_rfl) rfl (fun K hK => ?_)
              go_simp
              refine hK _ _ (fun h => absurd h (by decide)) ?_
              clear hK K
              refine wpAnyU_done (by kernel_rfl) ?_ _
              go_wp2
              try simp only [Act.put, List.getElem_toArray, List.getElem_cons_succ, List.getElem_cons_zero, List.setIfInBounds_toArray, List.set_cons_succ, List.set_cons_zero]
              go_meet
              case rel => exact ⟨_, A7, c7, rfl, (hm4.drew.new hn7).alloc _⟩
            · go_simp
              have hg8 := Gr.drew (Gr.alloc (Gr.refl w6) (.cells [.int .i64 0, .int .i64 0, .slice none 0 0].toArray 30))
              have hm8 := (hm4.alloc (.cells [.int .i64 0, .int .i64 0, .slice none 0 0].toArray 30)).drew
              refine hK _ _ (fun _ => ⟨Gr.cell hg8 hx1, Gr.cell hg8 hx3, Gr.cell hg8 hy3, Gr.cell hg8 hv1, Gr.cell hg8 hv2⟩) ?_
              clear hK K
              refine wpAnyU_one 14 (by kernel_rfl) rfl (fun K hK => ?_)
              refine step_call rfl 20 Tryz.f20 Tryz.func20 (by kernel_rfl) (by kernel_rfl) _ _ rfl #[.slice xA xn xc, .int .i64 st, .agg #[.int .i64 v1, .int .i64 v2]] (by simp [Act.eval]) ?_
              refine (laid_ok _ xA xn xc xsl ⟨hrs.out.gr hg8⟩ st _ rfl hst (by omega) (v1, v2)).mono ?_
              rintro e w7 ⟨A7, c7, rfl, hn7⟩
              have hg9 := Gr.trans hg8 hn7.gr
              have hS7 : w7.cell? ⟨b, o + k * 3, none⟩ = some (.int .i64 xfn) ∧ w7.cell? ⟨b, o + k * 3 + 2, none⟩ = some (.slice xA xn xc) ∧ w7.cell? ⟨g9, 2, none⟩ = some (.int .i64 y3) ∧ w7.cell? ⟨g + 1, 0, none⟩ = some (.int .i64 v1) ∧ w7.cell? ⟨g + 1, 1, none⟩ = some (.int .i64 v2) := ⟨Gr.cell hg9 hx1, Gr.cell hg9 hx3, Gr.cell hg9 hy3, Gr.cell hg9 hv1, Gr.cell hg9 hv2⟩
              refine ⟨_, rfl, hK _ _ (fun _ => hS7) ?_⟩
              clear hK K
              try simp only [Act.put, List.setIfInBounds_toArray, List.set_cons_zero, List.set_cons_succ]
              refine wpAnyU_take 15 (v := ?vd15) rfl (by kernel_rfl) (by kernel_rfl) (fun _ _ _ h => h) hS7 (Or.inl ⟨rfl, ?yd15⟩) ?rd15
              case yd15 =>
                intro W hW
                obtain ⟨hW0, hW1, hW2, hW3, hW4⟩ := hW
                go_simp
                try with_reducible rfl
              try simp only [Act.put, List.setIfInBounds_toArray, List.set_cons_zero, List.set_cons_succ]
              have hm9 := (hm8.new hn7).swap
              have q0 := hm9.cell m0 0 rfl
              have q1 := hm9.cell m0 1 rfl
              have q2 := hm9.cell m0 2 rfl
              have f0 := hm9.free m0 0
              have f1 := hm9.free m0 1
              have f2 := hm9.free m0 2
              refine wpAnyU_one 17 (by kernel_rfl) rfl (fun K hK => ?_)
              go_simp
              refine hK _ _ (fun h => absurd h (by decide)) ?_
              clear hK K
              refine wpAnyU_done (by kernel_rfl) ?_ _
              go_wp2
              try simp only [Act.put, List.getElem_toArray, List.getElem_cons_succ, List.getElem_cons_zero, List.setIfInBounds_toArray, List.set_cons_succ, List.set_cons_zero]
              go_meet
              case rel => exact ⟨_, A7, c7, rfl, ((hm9.set 0 (.int .i64 xfn)).set 1 (.int .i64 y3)).set 2 (.slice A7 (st + 1) c7)⟩
          case rest =>
            obtain ⟨g13, A7, c7, rfl, hm10⟩ := hcut
            obtain ⟨iR, ri, rz0, rz1, rz2⟩ := info_parts inf_R
            have hfin : Fact (Frames w wc (N + 1) [] .outgrown → True) := ⟨fun _ => trivial⟩
            have hcl : Fact (catchD ⟨kA, kn, kc, consts, fA, fnn, fc, fns⟩ (v1, v2) (xs.map Fr.data) n = some (ys.map Fr.data ++ [(xfn, y3, xsl.take st ++ [(v1, v2)])])) := ⟨by rw [hc.out, hcd.out, hyd, List.map_take]⟩
            have key : ∀ (A1 : Option Addr) (e1 : Nat) (w8 : World) (X : Chunk),
                Mem w w8 (Own 3 (.slice A1 (k + 1) e1) (fR ys ++ [.int .i64 xfn, .int .i64 y3, .slice A7 (st + 1) c7]) :: X :: Blk g13 (.cells [.int .i64 xfn, .int .i64 y3, .slice A7 (st + 1) c7].toArray 30) :: Own 2 (.slice A7 (st + 1) c7) (fV (xsl.take st ++ [(v1, v2)])) :: (slots ys ++ [Blk g9 (.cells (cH (y1, y2, y3, y4)).toArray 43), Blk (g + 1) (.cells [.int .i64 v1, .int .i64 v2].toArray 36), Blk g (.cells [.slice kA kn kc, .slice fA fnn fc].toArray 26)])) →
                Frames w w8 (N + 1) (ys.map Fr.data ++ [(xfn, y3, xsl.take st ++ [(v1, v2)])]) (.returned (.tuple #[.slice A1 (k + 1) e1, .bool true])) := fun A1 e1 w8 X h3 => by
              refine ⟨A1, k + 1, e1, ys ++ [⟨xfn, y3, A7, st + 1, c7, xsl.take st ++ [(v1, v2)]⟩], rfl, ?_, by rw [List.map_append]; rfl, fun z hz => ?_⟩
              · rw [fR_app, slots_app]
                have h4 : Mem w w8 (Own 3 (.slice A1 (k + 1) e1) (fR ys ++ [.int .i64 xfn, .int .i64 y3, .slice A7 (st + 1) c7]) :: slot ⟨xfn, y3, A7, st + 1, c7, xsl.take st ++ [(v1, v2)]⟩ :: (slots ys ++ [Blk g9 (.cells (cH (y1, y2, y3, y4)).toArray 43), Blk (g + 1) (.cells [.int .i64 v1, .int .i64 v2].toArray 36), Blk g (.cells [.slice kA kn kc, .slice fA fnn fc].toArray 26)])) := h3.sel 4 [0, 3] (by decide)
                exact (h4.perm (.cons _ List.perm_middle.symm)).sub (.cons_cons _ (List.Sublist.append (List.Sublist.refl _) (.cons_cons _ (List.nil_sublist _))))
              · rcases List.mem_append.1 hz with hz | hz
                · have := hyn z hz; omega
                · simp at hz; subst hz; show st + 1 ≤ N + 1; omega
            have key := Fact.mk key
            clear hfin
            go_wp2_with (first | (refine wp_rng rfl 30 _ rfl g13 0 rfl [.int .i64 xfn, .int .i64 y3, .slice A7 (st + 1) c7] (rng_blk hm10 m0) row_R szR ?_) | (at_builtin; refine wp_app rfl _ _ _ rfl 30 iR _ 3 40 ty_Rs ri rz0 rz1 rz2 rfl (some ⟨gC, 0, none⟩) k k _ rfl ((hm10.alloc _).pull3) _ 1 1 [.int .i64 xfn, .int .i64 y3, .slice A7 (st + 1) c7] rfl (RdC.lit _ _ _ _ _ rfl (by simp [maxLen]) (cR_one ⟨xfn, y3, A7, st + 1, c7, []⟩)) (by unfold maxLen; omega) (by omega) ?_; intro A1 e1 w8 HM1))
            go_ret2
            rw [hcl.out]
            exact key.out A1 e1 w8 _ HM1
end Go.Proofs.YtgflfpepfpekhaaGreat
namespace Go.Proofs.YtgflfpepfpekhaaGreat
open Go.RowKit Go.Mm
set_option maxHeartbeats 400000
set_option maxRecDepth 100000
theorem ty_longs : Tryz.prog.underlying 34 = some (.slice 2) := by kernel_rfl
theorem inf_long : (Tryz.prog.info? 2).map (fun i => (i.zero, i.size, i.bytes)) = some (some (.int .i64 0), 1, 8) := by kernel_rfl
/-- A number from 0 to n - 1 out of any. -/
theorem pick_ok (w : World) (k N : Int) (n : Nat) (hN : N = n) (hn : n ≤ 1048577) (h0 : 0 < n) :
    Calls Tryz.prog 50 #[.int .i64 k, .int .i64 N] w fun e w' => ∃ j : Nat, e = .returned (.int .i64 j) ∧ w' = w ∧ j < n := by
  subst hN
  go_enter Tryz.func50, Tryz.ntmps50
  have h1 : ((n : Int) < 1) = False := by simp; omega
  have hb : -(n : Int) < k.tmod n ∧ k.tmod n < n := by
    have hn0 : (0 : Int) < n := by omega
    exact ⟨Int.lt_tmod_of_pos k hn0, Int.tmod_lt_of_pos k hn0⟩
  by_cases hs : k.tmod n < 0
  · have hw : wrap64 (k.tmod n + n) = k.tmod n + n := IntWalk.wrap64_in _ (by omega)
    have hw2 : IntKind.i64.wrap (k.tmod n + n) = k.tmod n + n := IntWalk.i64_in _ (by omega)
    go_wp2
    go_ret
    exact ⟨(k.tmod n + n).toNat, by rw [Int.toNat_of_nonneg (by omega)]; rfl, rfl, by omega⟩
  · go_wp2
    go_ret
    exact ⟨(k.tmod n).toNat, by rw [Int.toNat_of_nonneg (by omega)]; rfl, rfl, by omega⟩
theorem sameLongs_ok (w : World) (A B : Option Addr) (n c d : Nat) (xs : List Int) (hx : Fact (RdC w 1 (.slice A n c) (nums .i64 xs))) (hy : Fact (RdC w 1 (.slice B n d) (nums .i64 xs))) (hn : n ≤ 16777216) :
    Calls Tryz.prog 61 #[.slice A n c, .slice B n d] w fun e w' => e = .returned (.bool true) ∧ Gr w w' := by
  go_enter Tryz.func61, Tryz.ntmps61
  go_wp2
  go_loopw [5] (fun v w' => ∃ (k : Nat), v = .int .i64 k ∧ k ≤ n ∧ ∃ m, w' = w.drewN m) (fun v _ => n - (intOf v).toNat)
  case atStart => exact ⟨0, rfl, by omega, 0, rfl⟩
  case round =>
    obtain ⟨k, rfl, hk, m, rfl⟩ := hrel
    by_cases hlt : k < n
    · obtain ⟨b, o, rfl, g1, _⟩ := hx.out.num k hlt
      obtain ⟨bb, ob, rfl, g2, _⟩ := hy.out.num k hlt
      generalize xs.getD k 0 = x at g1 g2
      go_upto_region 6 with (fail)
      go_quiet (fail)
      go_wp2
      go_roundw
      case rel => exact ⟨k + 1, by go_num, by omega, _, rfl⟩
      case measure => simp [intOf]; omega
    · go_wp2
      go_ret
      exact ⟨rfl, (Gr.refl _).drewN _⟩
theorem lenL_ok (w0 w : World) (L : List Chunk) (g : Nat) (A : Option Addr) (n c : Nat) (t : TypeId) (hm : Mem w0 w L) (hg : Blk g (.cells [.slice A n c].toArray t) ∈ L) :
    Calls Tryz.prog 81 #[.pointer (some ⟨g, 0, none⟩)] w fun e w' => e = .returned (.int .i64 n) ∧ w' = w := by
  have c1 := hm.cell hg 0 rfl
  go_enter Tryz.func81, Tryz.ntmps81
  go_wp2
  go_ret
  exact ⟨rfl, rfl⟩
theorem itemsL_ok (w0 w : World) (L : List Chunk) (g : Nat) (A : Option Addr) (n c : Nat) (xs : List Int) (t : TypeId) (hm : Mem w0 w L) (hg : Blk g (.cells [.slice A n c].toArray t) ∈ L) (hr : Fact (RdC w 1 (.slice A n c) (nums .i64 xs))) (hn : n ≤ 16777216) :
    Calls Tryz.prog 58 #[.pointer (some ⟨g, 0, none⟩)] w fun e w' => ∃ A' c', e = .returned (.slice A' n c') ∧ Mem w0 w' (Own 1 (.slice A' n c') (nums .i64 xs) :: L) := by
  obtain ⟨iV, hi, hz0, hz1, hz2⟩ := info_parts inf_long
  have c1 := hm.cell hg 0 rfl
  go_enter Tryz.func58, Tryz.ntmps58
  go_wp2_with (at_builtin; refine wp_app rfl _ _ _ rfl 2 iV _ 1 8 ty_longs hi hz0 hz1 hz2 rfl none 0 0 [] rfl (hm.nil 1 none) A n c _ rfl hr.out (by unfold maxLen; omega) (by omega) ?_; intro A1 c1 w1 HM1)
  go_ret
  exact ⟨A1, c1, by simp, by simpa using HM1⟩
theorem pushL_ok (w0 w : World) (L : List Chunk) (g : Nat) (A B : Option Addr) (n c m d : Nat) (xs ys : List Int) (t : TypeId) (hm : Mem w0 w (Blk g (.cells [.slice A n c].toArray t) :: Own 1 (.slice A n c) (nums .i64 xs) :: L)) (hr : Fact (RdC w 1 (.slice B m d) (nums .i64 ys))) (hn : n + m ≤ 16777216) :
    Calls Tryz.prog 53 #[.pointer (some ⟨g, 0, none⟩), .slice B m d] w fun e w' => ∃ A' c', e = .returned (.tuple #[]) ∧ Mem w0 w' (Blk g (.cells [.slice A' (n + m) c'].toArray t) :: Own 1 (.slice A' (n + m) c') (nums .i64 (xs ++ ys)) :: L) := by
  obtain ⟨iV, hi, hz0, hz1, hz2⟩ := info_parts inf_long
  have c1 := hm.cell m0 0 rfl
  go_enter Tryz.func53, Tryz.ntmps53
  go_wp2_with (at_builtin; refine wp_app rfl _ _ _ rfl 2 iV _ 1 8 ty_longs hi hz0 hz1 hz2 rfl A n c _ rfl (L := Blk _ _ :: L) hm.swap B m d _ rfl hr.out (by unfold maxLen; omega) (by omega) ?_; intro A1 c2 w1 HM1; have HM2 := HM1.swap; have f1 := HM2.free m0 0; have c3 := HM2.cell m0 0 rfl)
  go_end0
  refine ⟨A1, c2, rfl, ?_⟩
  have HM3 := HM2.set 0 (.slice A1 (n + m) c2)
  rw [nums_append]
  simpa using HM3
theorem topL_ok (w0 w : World) (L : List Chunk) (g : Nat) (A : Option Addr) (n c : Nat) (xs : List Int) (t : TypeId) (hm : Mem w0 w L) (hg : Blk g (.cells [.slice A n c].toArray t) ∈ L) (hr : Fact (RdC w 1 (.slice A n c) (nums .i64 xs))) (hn : n ≤ 16777216) (k : Nat) (hk : k ≤ 16777216) (K : Int) (hK : K = k) :
    Calls Tryz.prog 79 #[.pointer (some ⟨g, 0, none⟩), .int .i64 K] w fun e w' => e = .returned (.tuple #[.int .i64 (if k < n then xs.getD (n - 1 - k) 0 else 0), .bool (decide (k < n))]) ∧ Gr w w' := by
  subst hK
  have c1 := hm.cell hg 0 rfl
  go_enter Tryz.func79, Tryz.ntmps79
  by_cases hlt : k < n
  · obtain ⟨b, o, rfl, g1, _⟩ := hr.out.num (n - 1 - k) (by omega)
    generalize xs.getD (n - 1 - k) 0 = x at g1
    have hge : ((k : Int) ≥ (n : Int)) = False := by simp; omega
    have e1 : (n : Int) - 1 - (k : Int) = ((n - 1 - k : Nat) : Int) := by omega
    go_upto_region 4 with (fail)
    go_quiet (fail)
    go_wp2
    go_ret2
    exact ⟨by simp, (Gr.refl _).drewN _⟩
  · go_wp2
    go_ret2
    exact ⟨by simp, Gr.refl _⟩
theorem cutL_ok (w0 w : World) (L : List Chunk) (g : Nat) (A : Option Addr) (n c : Nat) (xs : List Int) (t : TypeId) (hm : Mem w0 w (Blk g (.cells [.slice A n c].toArray t) :: Own 1 (.slice A n c) (nums .i64 xs) :: L)) (_hn : n ≤ 16777216) (k : Nat) (hk : k ≤ n) (K : Int) (hK : K = k) :
    Calls Tryz.prog 77 #[.pointer (some ⟨g, 0, none⟩), .int .i64 K] w fun e w' => e = .returned (.bool true) ∧ Mem w0 w' (Blk g (.cells [.slice A k k].toArray t) :: Own 1 (.slice A k k) (nums .i64 (xs.take k)) :: L) := by
  subst hK
  have c1 := hm.cell m0 0 rfl
  have f1 := hm.free m0 0
  have hcap := OwnAt.cap (hm.ok _ m1)
  go_enter Tryz.func77, Tryz.ntmps77
  go_wp2
  go_ret
  refine ⟨rfl, ?_⟩
  have HM1 := hm.set 0 (.slice A k k)
  simp only [List.set_cons_zero] at HM1
  have HM2 := ((HM1.swap).recut k k hk (Nat.le_refl _) (by omega)).swap
  rw [Nat.mul_one, ← nums_take] at HM2
  exact HM2
theorem cutNo_ok (w0 w : World) (L : List Chunk) (g : Nat) (A : Option Addr) (n c : Nat) (t : TypeId) (hm : Mem w0 w L) (hg : Blk g (.cells [.slice A n c].toArray t) ∈ L) (k : Int) (hk : k < 0 ∨ (n : Int) < k) :
    Calls Tryz.prog 77 #[.pointer (some ⟨g, 0, none⟩), .int .i64 k] w fun e w' => e = .returned (.bool false) ∧ w' = w := by
  have c1 := hm.cell hg 0 rfl
  go_enter Tryz.func77, Tryz.ntmps77
  rcases hk with hk | hk
  · go_wp2
    go_ret
    exact ⟨rfl, rfl⟩
  · have hk0 : (k < 0) = False := by simp; omega
    go_wp2
    go_ret
    exact ⟨rfl, rfl⟩
/-- The last k come off. -/
theorem popL_ok (w0 w : World) (L : List Chunk) (g : Nat) (A : Option Addr) (n c : Nat) (xs : List Int) (t : TypeId) (hm : Mem w0 w (Blk g (.cells [.slice A n c].toArray t) :: Own 1 (.slice A n c) (nums .i64 xs) :: L)) (hn : n ≤ 16777216) (k : Nat) (hk : k ≤ n) (K : Int) (hK : K = k) :
    Calls Tryz.prog 57 #[.pointer (some ⟨g, 0, none⟩), .int .i64 K] w fun e w' => ∃ A' c', e = .returned (.tuple #[.slice A' k c', .bool true]) ∧
      Mem w0 w' (Blk g (.cells [.slice A (n - k) (n - k)].toArray t) :: Own 1 (.slice A (n - k) (n - k)) (nums .i64 (xs.take (n - k))) :: Own 1 (.slice A' k c') (nums .i64 (xs.drop (n - k))) :: L) := by
  subst hK
  have c1 := hm.cell m0 0 rfl
  have f1 := hm.free m0 0
  have hcap := OwnAt.cap (hm.ok _ m1)
  have hr := hm.rd m1
  obtain ⟨iV, hi, hz0, hz1, hz2⟩ := info_parts inf_long
  have e1 : (n : Int) - (k : Int) = ((n - k : Nat) : Int) := by omega
  go_enter Tryz.func57, Tryz.ntmps57
  by_cases hc : c = 0
  · subst hc
    obtain rfl : n = 0 := by omega
    obtain rfl : k = 0 := by omega
    obtain rfl : xs = [] := List.eq_nil_of_length_eq_zero (by simpa using hr.len)
    go_upto_region 4 with (fail)
    clear e1
    cases A with
    | none =>
      go_wp2_with (at_builtin; refine wp_app rfl _ _ _ rfl 2 iV _ 1 8 ty_longs hi hz0 hz1 hz2 rfl none 0 0 [] rfl (hm.nil 1 none) _ 0 _ _ rfl (RdC.empty _ _ _ _ (by omega)) (by unfold maxLen; omega) (by omega) ?_; intro A1 c2 w1 HM1)
      refine (cutL_ok w0 w1 (Own 1 (.slice A1 (0 + 0) c2) _ :: L) g _ 0 0 _ t HM1.back2 hn 0 (by omega) _ (by omega)).mono ?_
      rintro e w2 ⟨rfl, hm2⟩
      go_wp2
      go_ret2
      exact ⟨A1, c2, by simp, by simpa [nums] using hm2⟩
    | some a =>
      go_wp2_with (at_builtin; refine wp_app rfl _ _ _ rfl 2 iV _ 1 8 ty_longs hi hz0 hz1 hz2 rfl none 0 0 [] rfl (hm.nil 1 none) _ 0 _ _ rfl (RdC.empty _ _ _ _ (by omega)) (by unfold maxLen; omega) (by omega) ?_; intro A1 c2 w1 HM1)
      refine (cutL_ok w0 w1 (Own 1 (.slice A1 (0 + 0) c2) _ :: L) g _ 0 0 _ t HM1.back2 hn 0 (by omega) _ (by omega)).mono ?_
      rintro e w2 ⟨rfl, hm2⟩
      go_wp2
      go_ret2
      exact ⟨A1, c2, by simp, by simpa [nums] using hm2⟩
  · obtain ⟨g0, o0, rfl⟩ := OwnAt.addr (hm.ok _ m1) hc
    by_cases hck : c = n - k
    · obtain rfl : k = 0 := by omega
      obtain rfl : c = n := by omega
      clear e1 hck
      go_upto_region 4 with (fail)
      go_wp2_with (at_builtin; refine wp_app rfl _ _ _ rfl 2 iV _ 1 8 ty_longs hi hz0 hz1 hz2 rfl none 0 0 [] rfl (hm.nil 1 none) _ 0 _ _ rfl (RdC.empty _ _ _ _ (by omega)) (by unfold maxLen; omega) (by omega) ?_; intro A1 c2 w1 HM1)
      refine (cutL_ok w0 w1 (Own 1 (.slice A1 (0 + 0) c2) _ :: L) g _ c c _ t HM1.back2 hn c (by omega) _ (by omega)).mono ?_
      rintro e w2 ⟨rfl, hm2⟩
      go_wp2
      go_ret2
      exact ⟨A1, c2, by simp, by simpa [nums, List.drop_eq_nil_of_le (show (List.map (Value.int .i64) xs).length ≤ c by have := hr.nlen; simp; omega)] using hm2⟩
    · have e2 : n - (n - k) = k := by omega
      have hr2 := hr.behind (n - k) (by omega)
      rw [Nat.mul_one, e2] at hr2
      go_upto_region 4 with (fail)
      go_wp2_with (at_builtin; refine wp_app rfl _ _ _ rfl 2 iV _ 1 8 ty_longs hi hz0 hz1 hz2 rfl none 0 0 [] rfl (hm.nil 1 none) _ k _ _ rfl hr2 (by unfold maxLen; omega) (by omega) ?_; intro A1 c2 w1 HM1)
      refine (cutL_ok w0 w1 (Own 1 (.slice A1 (0 + k) c2) _ :: L) g _ n c _ t HM1.back2 hn (n - k) (by omega) _ (by omega)).mono ?_
      rintro e w2 ⟨rfl, hm2⟩
      go_wp2
      go_ret2
      exact ⟨A1, c2, by simp, by simpa [nums] using hm2⟩
theorem newL_ok (w : World) (B : Option Addr) (m d : Nat) (ys : List Int) (hr : Fact (RdC w 1 (.slice B m d) (nums .i64 ys))) (hn : m ≤ 16777216) :
    Calls Tryz.prog 49 #[.slice B m d] w fun e w' => ∃ g A' c', e = .returned (.pointer (some ⟨g, 0, none⟩)) ∧ Mem w w' [Blk g (.cells [.slice A' m c'].toArray 134), Own 1 (.slice A' m c') (nums .i64 ys)] := by
  go_enter Tryz.func49, Tryz.ntmps49
  go_wp2_with fail
  have hm := ((Mem.start w).nil 1 none).alloc (.cells [.slice none 0 0].toArray 134)
  generalize hg1 : w.heap.size = g1 at hm ⊢
  generalize hw1 : w.alloc (.cells [.slice none 0 0].toArray 134) = w1 at hm ⊢
  refine (pushL_ok w w1 [] g1 none B 0 0 m d [] ys 134 hm ⟨hr.out.gr hm.below⟩ (by omega)).mono ?_
  rintro e w2 ⟨A', c', rfl, hm2⟩
  go_wp2
  go_ret
  exact ⟨g1, A', c', rfl, by simpa using hm2⟩
end Go.Proofs.YtgflfpepfpekhaaGreat
namespace Go.Proofs.YtgflfpepfpekhaaGreat
open Go.RowKit Go.Mm
set_option maxHeartbeats 1000000
set_option maxRecDepth 100000
def iv (xs : List Int) : List V2 := xs.map fun x => (2, x)
theorem ints_ok (w : World) (A : Option Addr) (n c : Nat) (xs : List Int) (hx : Fact (RdC w 1 (.slice A n c) (nums .i64 xs))) (hn : n ≤ 4194304) :
    Calls Tryz.prog 8 #[.slice A n c] w fun e w' => ∃ A' c', e = .returned (.slice A' n c') ∧ New w w' (Own 2 (.slice A' n c') (fV (iv xs))) := by
  obtain ⟨iV, hi, hz0, hz1, hz2⟩ := info_parts inf_V
  have hl : Fact (xs.length = n) := ⟨hx.out.nlen⟩
  go_enter Tryz.func8, Tryz.ntmps8
  go_wp2
  go_loopw [3, 4] (fun l v w' => ∃ (k : Nat) (A' : Option Addr) (c' : Nat), v = .int .i64 k ∧ k ≤ n ∧ l = .slice A' k c' ∧ Mem w w' [Own 2 (.slice A' k c') (fV (iv (xs.take k)))]) (fun _ v _ => n - (intOf v).toNat)
  case atStart => exact ⟨0, none, 0, rfl, by omega, rfl, (Mem.start w).nil 2 none⟩
  case round =>
    obtain ⟨k, A', c', rfl, hk, rfl, hm⟩ := hrel
    by_cases hlt : k < n
    · obtain ⟨b, o, rfl, g1, ht⟩ := hx.out.num k hlt
      have g1 := Gr.cell hm.below g1
      have ht := Fact.mk ht
      generalize xs.getD k 0 = x at g1 ht
      go_wp2_with (at_builtin; refine wp_app rfl _ _ _ rfl 36 iV _ 2 16 ty_Vs hi hz0 hz1 hz2 rfl A' k c' _ rfl (L := [Blk _ _]) (hm.alloc _).swap _ 1 1 [.int .i64 2, .int .i64 x] rfl (RdC.lit _ _ _ _ _ rfl (by simp [maxLen]) (cV_one (2, x))) (by unfold maxLen; omega) (by omega) ?_; intro A1 c1 w1 HM1)
      go_roundw
      case rel => exact ⟨k + 1, A1, c1, by go_num, by omega, rfl, by
        have e : fV (iv (xs.take (k + 1))) = fV (iv (xs.take k)) ++ [.int .i64 2, .int .i64 x] := by rw [ht.out, iv, List.map_append, fV_app]; rfl
        rw [e]; exact HM1.only⟩
      case measure => simp [intOf]; omega
    · obtain rfl : k = n := by omega
      rw [List.take_of_length_le (Nat.le_of_eq hl.out)] at hm
      go_wp2
      go_ret
      exact ⟨A', c', rfl, hm.new_of⟩
def kMain : Fn := ⟨⟨#[109, 97, 105, 110]⟩, 0, 1, none, 0, 0, [], none, 0, 0, []⟩
def kF (gh : Nat) : Fn := ⟨⟨#[102]⟩, 2, 3, none, 0, 0, [], some ⟨gh, 0, none⟩, 2, 2, [(0, 4, 7, 1), (2, 6, 9, 0)]⟩
def kP (gh gf : Nat) : Pg := ⟨none, 0, 0, [], some ⟨gf, 0, none⟩, 2, 2, [kMain, kF gh]⟩
theorem psone (gf : Nat) : One [.slice none 0 0, .slice (some ⟨gf, 0, none⟩) 2 2] := fun u hu => by simp at hu; rcases hu with rfl | rfl <;> rfl
theorem known_ok (w : World) : Calls Tryz.prog 6 #[] w fun e w' => ∃ gh gf, e = .returned (vP (kP gh gf)) ∧ Gr w w' ∧ PgOk w' (kP gh gf) := by
  go_enter Tryz.func6, Tryz.ntmps6
  go_upto_region 1 with (fail)
  have hm := ((Mem.start w).alloc (.cells [.slice none 0 0, .slice none 0 0].toArray 26))
  generalize hgX : w.heap.size = g at hm ⊢
  generalize hwX : (w.alloc (.cells [.slice none 0 0, .slice none 0 0].toArray 26)) = w1 at hm
  try refine wp_world hwX ?_
  clear hwX hgX
  go_upto_region 2 with (fail)
  have hm2 := hm.alloc (.cells [.int .i64 0, .int .i64 4, .int .i64 7, .int .i64 1, .int .i64 2, .int .i64 6, .int .i64 9, .int .i64 0].toArray 43)
  generalize w1.heap.size = gh at hm2 ⊢
  generalize w1.alloc (.cells [.int .i64 0, .int .i64 4, .int .i64 7, .int .i64 1, .int .i64 2, .int .i64 6, .int .i64 9, .int .i64 0].toArray 43) = w2 at hm2 ⊢
  go_upto_region 3 with (refine wp_setrow rfl 47 _ _ rfl _ rfl 47 _ [.string ⟨#[109, 97, 105, 110]⟩, .int .i64 0, .int .i64 1, .slice none 0 0, .slice none 0 0] rfl (hm2.alloc _) szF rfl (cF_one kMain) ?_; intro w3 hm3)
  generalize w2.heap.size = g2 at hm3 ⊢
  go_wp2_with (first | (refine wp_rng rfl 47 _ rfl g2 0 rfl [.string ⟨#[109, 97, 105, 110]⟩, .int .i64 0, .int .i64 1, .slice none 0 0, .slice none 0 0] (rng_blk hm3 m0) row_F szF ?_) | (refine wp_setrow rfl 26 _ _ rfl _ rfl 26 _ [.slice none 0 0, .slice (some ⟨w3.heap.size, 0, none⟩) 2 2] rfl ((hm3.alloc _).pull3) szP rfl (psone _) ?_; intro w4 hm4))
  refine bodyPost_ret (Mm.res_cell rfl _ g 26 [.slice none 0 0, .slice (some ⟨w3.heap.size, 0, none⟩) 2 2] (0, 0) rfl hm4 m0 row_P szP) rfl ⟨gh, w3.heap.size, rfl, hm4.below, ?_⟩
  have hr1 : RdC w4 5 (.slice (some ⟨w3.heap.size, 0, none⟩) 2 2) (fF [kMain, kF gh]) := hm4.rdblk m1 2 5 rfl (by simp [maxLen]) (fF_one [kMain, kF gh])
  have hr2 : RdC w4 4 (.slice (some ⟨gh, 0, none⟩) 2 2) (fH [(0, 4, 7, 1), (2, 6, 9, 0)]) := hm4.rdblk m3 2 4 rfl (by simp [maxLen]) (One.flatMap cH_one [(0, 4, 7, 1), (2, 6, 9, 0)])
  refine ⟨RdC.nil _ _, hr1, fun f hf => ?_, ⟨by simp [kP], fun f hf => ?_⟩⟩
  · simp only [kP, List.mem_cons, List.not_mem_nil, or_false] at hf
    rcases hf with rfl | rfl
    · exact ⟨RdC.nil _ _, RdC.nil _ _⟩
    · exact ⟨RdC.nil _ _, hr2⟩
  · simp only [kP, List.mem_cons, List.not_mem_nil, or_false] at hf
    rcases hf with rfl | rfl
    · exact ⟨by simp [kMain], by simp [kMain]⟩
    · exact ⟨by simp [kF], by simp [kF]⟩
end Go.Proofs.YtgflfpepfpekhaaGreat
namespace Go.Proofs.YtgflfpepfpekhaaGreat
open Go.RowKit Go.Mm
set_option maxHeartbeats 4000000
set_option maxRecDepth 100000
set_option linter.unusedSimpArgs false
theorem measC {m k : Nat} (h : k < m) : m - (intOf (.int .i64 ((k : Int) + 1))).toNat < m - (intOf (.int .i64 (k : Int))).toNat := by
  simp [intOf]
  omega
theorem measD {m k : Nat} {o : Int} (h : k < m) : m - (intOf (.int .i64 (o + (k : Int) + 1)) - o).toNat < m - (intOf (.int .i64 (o + (k : Int))) - o).toNat := by
  simp [intOf]
  omega
def fnB (params locals : Int) : Fn := ⟨⟨#[]⟩, params, locals, none, 0, 0, [], none, 0, 0, []⟩
/-- A program of bare functions. -/
def pgB (g : Nat) (l : List Fn) : Pg := ⟨none, 0, 0, [], some ⟨g, 0, none⟩, l.length, l.length, l⟩
theorem pgB_ok {w : World} {g : Nat} {l : List Fn} (h : RdC w 5 (.slice (some ⟨g, 0, none⟩) l.length l.length) (fF l)) (hb : ∀ f, f ∈ l → FnOk w f ∧ f.hn ≤ 1048576 ∧ f.cn ≤ 1048576) (hl : l.length ≤ 1048576) : PgOk w (pgB g l) :=
  ⟨RdC.nil _ _, h, fun f hf => (hb f hf).1, hl, fun f hf => (hb f hf).2⟩
theorem fnB_ok (w : World) (p l : Int) : FnOk w (fnB p l) ∧ (fnB p l).hn ≤ 1048576 ∧ (fnB p l).cn ≤ 1048576 := ⟨⟨RdC.nil _ _, RdC.nil _ _⟩, by simp [fnB], by simp [fnB]⟩
def pgC (g : Nat) : Pg := pgB g [fnB 2 2, fnB 0 0, fnB (-1) 0]
def obsC (A : Option Addr) (c : Nat) : List RO := [⟨A, c, none, 0, ⟨8, iv [5], [], 0, 0, false⟩⟩, ⟨A, c, none, 0, ⟨8, iv [5, 6, 7], [], 0, 0, false⟩⟩, ⟨none, 0, none, 0, ⟨8, [], [], 3, 0, false⟩⟩, ⟨A, c, none, 0, ⟨6, iv [5, 6, 7], [], 0, 0, false⟩⟩, ⟨none, 0, none, 0, ⟨8, [], [], 1, 0, false⟩⟩, ⟨none, 0, none, 0, ⟨8, [], [], 2, 0, false⟩⟩]
def nsC : List Int := [-9223372036854775808, -1, 0, 1, 2, 3, 4, 5, 6, 4294967296, 4294967297, 9223372036854775807]
def countsC : List Int := [-9223372036854775808, -1, 0, 1, 2, 3, 9223372036854775807]
theorem obsC_in {w : World} {g : Nat} {A : Option Addr} {c : Nat} (h : RdC w 6 (.slice (some ⟨g, 0, none⟩) 6 6) ((obsC A c).flatMap cRO)) (hx : RdC w 2 (.slice A 3 c) (fV (iv [5, 6, 7]))) : ObIn w (some ⟨g, 0, none⟩) 6 6 (obsC A c) := by
  have h1 := hx.pre 1 (by omega)
  refine ⟨⟨h, fun x hx' => ?_⟩, by omega, fun x hx' => ?_, fun x hx' => ?_⟩ <;> simp only [obsC, List.mem_cons, List.not_mem_nil, or_false] at hx' <;> rcases hx' with rfl | rfl | rfl | rfl | rfl | rfl
  · exact ⟨h1, RdC.nil _ _⟩
  · exact ⟨hx, RdC.nil _ _⟩
  · exact ⟨RdC.nil _ _, RdC.nil _ _⟩
  · exact ⟨hx, RdC.nil _ _⟩
  · exact ⟨RdC.nil _ _, RdC.nil _ _⟩
  · exact ⟨RdC.nil _ _, RdC.nil _ _⟩
  all_goals refine ⟨?_, ?_⟩
  all_goals first
    | (simp [iv]; done)
    | (intro v hv; simp [iv] at hv; rcases hv with rfl | rfl | rfl <;> simp)
    | (intro v hv; simp [iv] at hv; subst hv; simp)
theorem calls_ok (w : World) : Calls Tryz.prog 14 #[] w fun e w' => e = .returned (.bool true) ∧ Gr w w' := by
  go_enter Tryz.func14, Tryz.ntmps14
  go_upto_region 2 with (fail)
  have hm1 := ((Mem.start w).alloc (.cells (fF [fnB 2 2, fnB 0 0, fnB (-1) 0]).toArray 47)).alloc (.cells [.slice none 0 0, .slice (some ⟨w.heap.size, 0, none⟩) 3 3].toArray 26)
  simp only [World.size_alloc] at hm1
  generalize hgX : w.heap.size = g at hm1 ⊢
  generalize hwX : ((w.alloc (.cells (fF [fnB 2 2, fnB 0 0, fnB (-1) 0]).toArray 47)).alloc (.cells [.slice none 0 0, .slice (some ⟨g, 0, none⟩) 3 3].toArray 26)) = w1 at hm1
  refine wp_world hwX ?_
  clear hwX hgX
  go_wp2_with fail
  have hm2 := hm1.alloc (.cells (nums .i64 [5, 6, 7]).toArray 2)
  refine (ints_ok _ (some ⟨w1.heap.size, 0, none⟩) 3 3 [5, 6, 7] ⟨hm2.rdblk m0 3 1 rfl (by simp [maxLen]) (One.nums _ _)⟩ (by omega)).mono ?_
  rintro e w3 ⟨A, c, rfl, hn3⟩
  have hm3 := hm2.new hn3
  have hcap := OwnAt.cap (hm3.ok _ m0)
  have hc1 : 3 ≤ c := by omega
  generalize w1.heap.size = gi at hm3 ⊢
  clear hn3 hm2 hm1 hcap
  go_upto_region 6 with (fail)
  have hm4 := ((hm3.alloc (.cells ((obsC A c).flatMap cRO).toArray 59)).alloc (.cells (nums .i64 nsC).toArray 2)).alloc (.cells (nums .i64 countsC).toArray 3)
  simp only [World.size_alloc] at hm4
  generalize hgX : w3.heap.size = go at hm4 ⊢
  generalize hwX : ((w3.alloc (.cells ((obsC A c).flatMap cRO).toArray 59)).alloc (.cells (nums .i64 nsC).toArray 2)).alloc (.cells (nums .i64 countsC).toArray 3) = w4 at hm4
  refine wp_world hwX ?_
  clear hwX hgX hm3
  have FP : Fact (PgOk w4 (pgC g)) := ⟨pgB_ok (hm4.rdblk (.tail _ (.tail _ (.tail _ (.tail _ (.tail _ m1))))) 3 5 rfl (by simp [maxLen]) (One.flatMap cF_one _)) (fun f hf => by simp only [List.mem_cons, List.not_mem_nil, or_false] at hf; rcases hf with rfl | rfl | rfl <;> exact fnB_ok _ _ _) (by simp)⟩
  have FB := Fact.mk (rng_blk hm4 (.tail _ (.tail _ (.tail _ (.tail _ (.tail _ m0))))))
  have FO : Fact (ObIn w4 (some ⟨go, 0, none⟩) 6 6 (obsC A c)) := ⟨obsC_in (hm4.rdblk m2 6 6 rfl (by simp [maxLen]) (One.flatMap cRO_one _)) (hm4.rd m3)⟩
  have FN : Fact (RdC w4 1 (.slice (some ⟨go + 1, 0, none⟩) 12 12) (nums .i64 nsC)) := ⟨hm4.rdblk m1 12 1 rfl (by simp [maxLen]) (One.nums _ _)⟩
  have FC : Fact (RdC w4 1 (.slice (some ⟨go + 1 + 1, 0, none⟩) 7 7) (nums .i64 countsC)) := ⟨hm4.rdblk m0 7 1 rfl (by simp [maxLen]) (One.nums _ _)⟩
  have hg4 := Fact.mk hm4.below
  clear hm4
  go_wp2
  go_loopw [6] (fun s1 W => ∃ n : Nat, s1 = .int .i64 (-1 + (n : Int)) ∧ n ≤ 13 ∧ Gr w4 W) (fun s1 _ => 13 - (intOf s1 - -1).toNat)
  case atStart => exact ⟨0, rfl, by omega, Gr.refl _⟩
  case round =>
    obtain ⟨n, rfl, hn, hg1⟩ := hrel
    by_cases h1 : n < 13
    · have e1 : (-1 + (n : Int) < 12) = True := eq_true (by omega)
      replace hg1 := Fact.mk hg1
      go_wp2
      go_loopw [7] (fun s2 W => ∃ i : Nat, s2 = .int .i64 i ∧ i ≤ 12 ∧ Gr w4 W) (fun s2 _ => 12 - (intOf s2).toNat)
      case atStart => exact ⟨0, rfl, by omega, hg1.out⟩
      case round =>
        obtain ⟨i, rfl, hi, hg2⟩ := hrel
        clear hg1
        by_cases h2 : i < 12
        · have e2 : ((i : Int) < 12) = True := eq_true (by omega)
          replace hg2 := Fact.mk hg2
          go_wp2
          go_loopw [8] (fun s3 W => ∃ k : Nat, s3 = .int .i64 k ∧ k ≤ 7 ∧ Gr w4 W) (fun s3 _ => 7 - (intOf s3).toNat)
          case atStart => exact ⟨0, rfl, by omega, hg2.out⟩
          case round =>
            obtain ⟨k, rfl, hk, hg3⟩ := hrel
            clear hg2
            by_cases h3 : k < 7
            · have e3 : ((k : Int) < 7) = True := eq_true (by omega)
              have hB := rng_gr FB.out (Gr.drew hg3)
              obtain ⟨b1, o1, q1, r1, _⟩ := (FN.out.gr (Gr.drew hg3)).num i h2
              obtain ⟨b2, o2, q2, r2, _⟩ := (FC.out.gr (Gr.drew hg3)).num k h3
              cases q1
              cases q2
              generalize nsC.getD i 0 = x at r1
              generalize countsC.getD k 0 = y at r2
              rw [Nat.zero_add] at r1 r2
              replace hg3 := Fact.mk hg3
              go_upto_region 15 with (fail)
              refine wp_region_still_tail 13 (by kernel_rfl) (by kernel_rfl) ?_
              simp only [List.take_succ_cons, List.take_zero, List.drop_succ_cons, List.drop_zero]
              repeat (first | (refine still_rng rfl 26 _ rfl (g + 1) 0 rfl [.slice none 0 0, .slice (some ⟨g, 0, none⟩) 3 3] hB row_P szP ?_; simp only [Act.put, List.setIfInBounds_toArray, List.set_cons_zero, List.set_cons_succ]) | still_step)
              refine wpStill_nil ?_
              clear hB r1 r2
              go_wp2_with fail
              refine (callee_walk _ (pgC g) ⟨FP.out.gr (Gr.drew hg3.out)⟩ (by simp [pgC, pgB]) (some ⟨go, 0, none⟩) 6 6 (obsC A c) ⟨FO.out.gr (Gr.drew hg3.out)⟩ (-1 + (n : Int)) x y).mono ?_
              rintro e w5 ⟨rfl, hg5⟩
              have hg6 := Fact.mk (Gr.trans (Gr.drew hg3.out) hg5)
              clear hg5 hg3
              go_wp2
              go_roundw
              case rel => exact ⟨k + 1, by go_num, by omega, hg6.out⟩
              case measure => exact measC h3
            · have e3 : ((k : Int) < 7) = False := eq_false (by omega)
              go_wp2
              go_roundw
              case rel => exact ⟨i + 1, by go_num, by omega, hg3⟩
              case measure => exact measC h2
        · have e2 : ((i : Int) < 12) = False := eq_false (by omega)
          go_wp2
          go_roundw
          case rel => exact ⟨n + 1, by go_num, by omega, hg2⟩
          case measure => exact measD h1
    · have e1 : (-1 + (n : Int) < 12) = False := eq_false (by omega)
      have hg5 := Fact.mk (Gr.trans hg4.out hg1)
      go_wp2
      go_ret
      exact ⟨rfl, hg5.out⟩
end Go.Proofs.YtgflfpepfpekhaaGreat
namespace Go.Proofs.YtgflfpepfpekhaaGreat
open Go.RowKit Go.Mm
set_option maxHeartbeats 1000000
set_option maxRecDepth 100000
set_option linter.unusedSimpArgs false
def markR (n i : Nat) : Fr := ⟨-7, (n : Int) + (i : Int), none, 0, 0, []⟩
def marksR (n k : Nat) : List Fr := (List.range k).map (markR n)
theorem marksR_succ (n k : Nat) : marksR n (k + 1) = marksR n k ++ [markR n k] := by simp [marksR, List.range_succ]
theorem marksR_len (n k : Nat) : (marksR n k).length = k := by simp [marksR]
/-- What holds the full list of slots of frame k. -/
def FullR (f : Fr) (k : Nat) (h : Fr) : Prop := h.fn = -7 ∧ h.pc = k ∧ h.n = f.n + 64 ∧ h.sl = f.sl ++ marksV 64
def lentR (f h : Fr) : Fr := ⟨f.fn, f.pc, h.A, f.n, h.c, f.sl⟩
theorem lentFrames_ok (w : World) (N : Nat) (A : Option Addr) (n c : Nat) (xs : List Fr) (hx : Fact (FrsOk N w A n c xs)) (hn : n ≤ 1048576) (hN : N ≤ 2000000) :
    Calls Tryz.prog 43 #[.slice A n c] w fun e w' => ∃ B d hs, e = .returned (.slice B n d) ∧ Mem w w' (Own 3 (.slice B (n + n + 64) d) (fR (List.zipWith lentR xs hs ++ (hs ++ marksR n 64))) :: slots hs) ∧ hs.length = n ∧ ∀ k, k < n → FullR (xs.getD k fr0) k (hs.getD k fr0) := by
  obtain ⟨iR, hi, hz0, hz1, hz2⟩ := info_parts inf_R
  have hl := Fact.mk hx.out.len
  go_enter Tryz.func43, Tryz.ntmps43
  go_wp2
  go_loopw [4, 5] (fun l v w' => ∃ (k : Nat) (B : Option Addr) (d : Nat), v = .int .i64 k ∧ k ≤ n ∧ l = .slice B k d ∧ Mem w w' [Own 3 (.slice B k d) (fR (xs.take k))]) (fun _ v _ => n - (intOf v).toNat)
  case atStart => exact ⟨0, none, 0, rfl, by omega, rfl, by simpa [fR] using (Mem.start w).nil 3 none⟩
  case round =>
    obtain ⟨k, B, d, rfl, hk, rfl, hm⟩ := hrel
    by_cases hlt : k < n
    · obtain ⟨b, o, rfl, r1, hok, htk⟩ := hx.out.at k hlt
      have htk := Fact.mk htk
      generalize xs.getD k fr0 = x at r1 hok htk
      have r1 := rng_gr r1 hm.below
      obtain ⟨xfn, xpc, xA, xn, xc, xsl⟩ := x
      clear hok
      go_wp2_with (first | (refine wp_rng rfl 30 _ rfl b _ rfl [.int .i64 xfn, .int .i64 xpc, .slice xA xn xc] r1 row_R szR ?_) | (at_builtin; (refine wp_app rfl _ _ _ rfl 30 iR _ 3 40 ty_Rs hi hz0 hz1 hz2 rfl B k d _ rfl ((hm.alloc _).swap) _ 1 1 (cR ⟨xfn, xpc, xA, xn, xc, xsl⟩) rfl (RdC.lit _ _ _ _ _ rfl (by simp [maxLen]) (cR_one ⟨xfn, xpc, xA, xn, xc, xsl⟩)) (by unfold maxLen; omega) (by omega) ?_); intro B1 d1 w4 HM1))
      go_roundw
      case rel =>
        have HM2 := HM1.sub (.cons_cons _ (.cons _ (List.Sublist.refl _)))
        refine ⟨k + 1, B1, d1, by go_num, by omega, rfl, ?_⟩
        rw [htk.out, fR_app]; simpa [fR] using HM2
      case measure => simp [intOf]; omega
    · obtain rfl : k = n := by omega
      rw [List.take_of_length_le (Nat.le_of_eq hl.out)] at hm
      go_wp2
      go_loopw [4, 6] (fun l v w' => ∃ (i : Nat) (B : Option Addr) (d : Nat) (hs : List Fr), v = .int .i64 i ∧ i ≤ k ∧ l = .slice B (k + i) d ∧ Mem w w' (Own 3 (.slice B (k + i) d) (fR (xs ++ hs)) :: (slots hs ++ [])) ∧ Fact (hs.length = i ∧ ∀ q, q < i → FullR (xs.getD q fr0) q (hs.getD q fr0))) (fun _ v _ => k - (intOf v).toNat)
      case atStart => exact ⟨0, B, d, [], rfl, by omega, rfl, by simpa [slots] using hm, ⟨rfl, fun q hq => by omega⟩⟩
      case round =>
        clear hm
        obtain ⟨i, B, d, hs, rfl, hi1, rfl, hm, hh⟩ := hrel
        by_cases hlt2 : i < k
        · obtain ⟨b, o, rfl, r1, hok, _⟩ := hx.out.at i hlt2
          have hxe : ∃ x, Fact (xs.getD i fr0 = x) := ⟨_, ⟨rfl⟩⟩
          obtain ⟨x, hxe⟩ := hxe
          rw [hxe.out] at r1 hok
          have r1 := rng_gr r1 hm.below
          have hok := Fact.mk (hok.gr hm.below)
          obtain ⟨xfn, xpc, xA, xn, xc, xsl⟩ := x
          have hxn : xn ≤ N := hok.out.2
          have a2 : wr.cell? ⟨b, o + i * 3 + 2, none⟩ = some (.slice xA xn xc) := r1 2 _ rfl
          clear r1
          go_wp2_with fail
          refine (lentValues_ok wr xA xn xc xsl ⟨hok.out.1⟩ (by omega)).mono ?_
          rintro e w2 ⟨C, cd, rfl, hnw⟩
          have hm2 := hm.new hnw
          clear hnw hm a2 hok
          go_wp2_with (at_builtin; (refine wp_app rfl _ _ _ rfl 30 iR _ 3 40 ty_Rs hi hz0 hz1 hz2 rfl B (k + i) d _ rfl ((hm2.alloc _).pull2) _ 1 1 [.int .i64 (-7), .int .i64 (i : Int), .slice C (xn + 64) cd] rfl (RdC.lit _ _ _ _ _ rfl (by simp [maxLen]) (cR_one ⟨-7, (i : Int), C, xn + 64, cd, []⟩)) (by unfold maxLen; omega) (by omega) ?_); intro B1 d1 w4 HM1)
          go_roundw
          case rel =>
            have HM2 := (HM1.sub (.cons_cons _ (.cons _ (List.Sublist.refl _)))).swap
            have HM3 := slots_snoc (⟨-7, (i : Int), C, xn + 64, cd, xsl ++ marksV 64⟩ : Fr) HM2
            have h1 := hh.out.1
            have h2 := hh.out.2
            refine ⟨i + 1, B1, d1, hs ++ [⟨-7, (i : Int), C, xn + 64, cd, xsl ++ marksV 64⟩], by go_num, by omega, rfl, ?_, ⟨by simp [h1], fun q hq => ?_⟩⟩
            · rw [← List.append_assoc, fR_app]; simpa [fR, cR, Nat.add_assoc] using HM3
            · by_cases e : q = i
              · subst e
                rw [hxe.out, getD_snoc_eq _ _ _ _ h1.symm]
                exact ⟨rfl, rfl, rfl, rfl⟩
              · rw [getD_snoc_lt _ _ _ _ (by omega)]
                exact h2 q (by omega)
          case measure => simp [intOf]; omega
        · obtain rfl : i = k := by omega
          go_wp2
          go_loopw [4, 7] (fun l v w' => ∃ (j : Nat) (B : Option Addr) (d : Nat), v = .int .i64 j ∧ j ≤ 64 ∧ l = .slice B (i + i + j) d ∧ Mem w w' (Own 3 (.slice B (i + i + j) d) (fR (xs ++ hs ++ marksR i j)) :: (slots hs ++ []))) (fun _ v _ => 64 - (intOf v).toNat)
          case atStart => exact ⟨0, B, d, rfl, by omega, rfl, by simpa [marksR] using hm⟩
          case round =>
            clear hm
            obtain ⟨j, B, d, rfl, hj, rfl, hm⟩ := hrel
            by_cases hlt3 : j < 64
            · go_wp2_with (at_builtin; (refine wp_app rfl _ _ _ rfl 30 iR _ 3 40 ty_Rs hi hz0 hz1 hz2 rfl B (i + i + j) d _ rfl ((hm.alloc _).swap) _ 1 1 [.int .i64 (-7), .int .i64 ((i : Int) + (j : Int)), .slice none 0 0] rfl (RdC.lit _ _ _ _ _ rfl (by simp [maxLen]) (cR_one (markR i j))) (by unfold maxLen; omega) (by omega) ?_); intro B1 d1 w4 HM1)
              go_roundw
              case rel =>
                have HM2 := HM1.sub (.cons_cons _ (.cons _ (List.Sublist.refl _)))
                refine ⟨j + 1, B1, d1, by go_num, by omega, rfl, ?_⟩
                rw [marksR_succ, ← List.append_assoc, fR_app]
                simpa [fR, cR, markR, Nat.add_assoc] using HM2
              case measure => simp [intOf]; omega
            · obtain rfl : j = 64 := by omega
              go_wp2
              obtain ⟨wo, hwo⟩ : ∃ wo : World, wo = wr := ⟨_, rfl⟩
              rw [← hwo] at hm ⊢
              clear hwo
              have hcap := OwnAt.cap (hm.ok _ m0)
              obtain ⟨gf, off, rfl⟩ := OwnAt.addr (hm.ok _ m0) (by omega)
              have hze : ∃ zs, Fact (List.zipWith lentR xs hs = zs ∧ zs.length = xs.length) := ⟨_, ⟨rfl, by have := hh.out.1; have := hl.out; simp; omega⟩⟩
              obtain ⟨zs, hze⟩ := hze
              go_loopw [8] (fun v w' => ∃ (r : Nat), v = .int .i64 r ∧ r ≤ i ∧ Mem w w' (Own 3 (.slice (some ⟨gf, off, none⟩) (i + i + 64) d) (fR ((zs.take r ++ xs.drop r) ++ (hs ++ marksR i 64))) :: (slots hs ++ []))) (fun v _ => i - (intOf v).toNat)
              case atStart => exact ⟨0, rfl, by omega, by simpa using hm⟩
              case round =>
                clear hm
                obtain ⟨r, rfl, hr1, hm⟩ := hrel
                by_cases hlt4 : r < i
                · obtain ⟨b, o, rfl, r1, hok, _⟩ := hx.out.at r hlt4
                  have r1 := rng_gr r1 hm.below
                  obtain ⟨_, _, e, r2, _, _⟩ := rd_at cR_len (by omega) fr0 (hm.ok _ m0).rd (i + r) (by omega)
                  cases e
                  have hce : (zs.take r ++ xs.drop r ++ (hs ++ marksR i 64)).getD r fr0 = xs.getD r fr0 := cur_at fr0 zs xs _ r (by have := hl.out; omega) hze.out.2
                  have hcb : (zs.take r ++ xs.drop r ++ (hs ++ marksR i 64)).getD (i + r) fr0 = hs.getD r fr0 := by
                    have e1 := cur_behind fr0 zs xs (hs ++ marksR i 64) r r hze.out.2 (by have := hl.out; omega)
                    rw [hl.out] at e1
                    rw [e1, List.getD_eq_getElem?_getD, List.getElem?_append_left (by have := hh.out.1; omega), ← List.getD_eq_getElem?_getD]
                  have hcs := Fact.mk (cur_step fr0 zs xs (hs ++ marksR i 64) r (by have := hl.out; omega) hze.out.2)
                  have hcl2 : Fact ((zs.take r ++ xs.drop r ++ (hs ++ marksR i 64)).length = i + i + 64) := ⟨by have := hl.out; have := hh.out.1; have := hze.out.2; simp [marksR_len]; omega⟩
                  have hfo := hh.out.2 r hlt4
                  have hzr : zs.getD r fr0 = lentR (xs.getD r fr0) (hs.getD r fr0) := by
                    rw [← hze.out.1]
                    have h1 := getD_some xs fr0 r (by have := hl.out; omega)
                    have h2 := getD_some hs fr0 r (by have := hh.out.1; omega)
                    simp only [List.getD_eq_getElem?_getD] at h1 h2 ⊢
                    rw [List.getElem?_zipWith, h1, h2]
                    rfl
                  have hhm : hs.getD r fr0 ∈ hs := List.mem_of_getElem? (getD_some hs fr0 r (by have := hh.out.1; omega))
                  have hc1 : (hs.getD r fr0).n ≤ (hs.getD r fr0).c ∧ (hs.getD r fr0).c ≤ maxLen := OwnAt.cap (hm.ok (slot (hs.getD r fr0)) (.tail _ (List.mem_append_left _ (slots_mem hhm))))
                  rw [hzr] at hcs
                  rw [hcb] at r2
                  have hxe : ∃ x, Fact (xs.getD r fr0 = x) := ⟨_, ⟨rfl⟩⟩
                  obtain ⟨x, hxe⟩ := hxe
                  have hye : ∃ y, Fact (hs.getD r fr0 = y) := ⟨_, ⟨rfl⟩⟩
                  obtain ⟨y, hye⟩ := hye
                  rw [hxe.out] at r1 hfo hcs hce hok
                  rw [hye.out] at r2 hfo hcs hc1
                  have hce := Fact.mk hce
                  generalize zs.take r ++ xs.drop r ++ (hs ++ marksR i 64) = cur at *
                  obtain ⟨xfn, xpc, xA, xn, xc, xsl⟩ := x
                  obtain ⟨yfn, ypc, yA, yn, yc, ysl⟩ := y
                  obtain ⟨rfl, rfl, rfl, rfl⟩ := hfo
                  have hxn : xn ≤ N := hok.2
                  dsimp only at hc1
                  have a2 : wr.cell? ⟨b, o + r * 3 + 2, none⟩ = some (.slice xA xn xc) := r1 2 _ rfl
                  have b2 : wr.cell? ⟨gf, off + (i + r) * 3 + 2, none⟩ = some (.slice yA (xn + 64) yc) := r2 2 _ rfl
                  clear r1 r2 hzr hok
                  have e1 : IntKind.i64.wrap ((i : Int) + (r : Int)) = (i : Int) + (r : Int) := IntWalk.i64_in _ (by omega)
                  have e2 : (0 : Int) ≤ (i : Int) + (r : Int) := by omega
                  have e2b : (i : Int) + (r : Int) < (i : Int) + (i : Int) + 64 := by omega
                  have e2c : ((i : Int) + (r : Int)).toNat = i + r := by omega
                  have e3 : r < i + i + 64 := by omega
                  have e4 : xn ≤ yc := by omega
                  go_upto_region 18 with (fail)
                  go_still_tail 16, (by kernel_rfl)
                  change wpList _ _ _ _ _ wr.drew
                  have hmd := hm.drew
                  have hj3 : (fR cur)[r * 3 + 2]? = some (.slice xA xn xc) := by rw [fR, flatMap_at cR 3 cR_len _ r 2 (by omega), getD_some _ fr0 r (by rw [hcl2.out]; omega), hce.out]; rfl
                  obtain ⟨g1, g2⟩ := hmd.own_cell m0 (r * 3 + 2) hj3
                  rw [← Nat.add_assoc] at g1 g2
                  have hm2 := hmd.own_set (r * 3 + 2) (by rw [fR, flatMap_length cR 3 cR_len, hcl2.out]; omega) (.slice yA xn yc) rfl
                  rw [fR, flatMap_set cR 3 cR_len fr0 cur r 2 (lentR ⟨xfn, xpc, xA, xn, xc, xsl⟩ ⟨-7, (r : Int), yA, xn + 64, yc, xsl ++ marksV 64⟩) _ (by rw [hcl2.out]; omega) (by omega) (by rw [hce.out]; rfl), hcs.out, ← Nat.add_assoc] at hm2
                  clear a2 b2 hm hmd hj3
                  generalize wr.drew = w2 at g1 g2 hm2 ⊢
                  go_wp2
                  go_roundw
                  case rel => exact ⟨r + 1, by go_num, by omega, by simpa [fR] using hm2⟩
                  case measure => simp [intOf]; omega
                · obtain rfl : r = i := by omega
                  rw [List.take_of_length_le (by have := hze.out.2; have := hl.out; omega), List.drop_eq_nil_of_le (by have := hl.out; omega), List.append_nil, ← hze.out.1] at hm
                  have hrd : r ≤ d := by omega
                  go_wp2
                  go_ret
                  exact ⟨_, _, hs, rfl, by simpa using hm, hh.out.1, hh.out.2⟩
end Go.Proofs.YtgflfpepfpekhaaGreat
namespace Go.Proofs.YtgflfpepfpekhaaGreat
open Go.RowKit Go.Mm
set_option maxHeartbeats 1000000
set_option maxRecDepth 100000
set_option linter.unusedSimpArgs false
/-- Frames that are lent, as they are read. -/
structure LentR (w : World) (N : Nat) (B : Option Addr) (n d : Nat) (ins hs : List Fr) : Prop where
  rd : RdC w 3 (.slice B (n + n + 64) d) (fR (ins ++ (hs ++ marksR n 64)))
  l1 : ins.length = n
  l2 : hs.length = n
  full : ∀ k, k < n → FullR (ins.getD k fr0) k (hs.getD k fr0)
  each : ∀ k, k < n → FrOk N w (ins.getD k fr0)
  hok : ∀ k, k < n → RdC w 2 (.slice (hs.getD k fr0).A (hs.getD k fr0).n (hs.getD k fr0).c) (fV (hs.getD k fr0).sl)
theorem LentR.gr {w w' : World} {N : Nat} {B : Option Addr} {n d : Nat} {ins hs : List Fr} (h : LentR w N B n d ins hs) (hg : Gr w w') : LentR w' N B n d ins hs :=
  ⟨h.rd.gr hg, h.l1, h.l2, h.full, fun k hk => (h.each k hk).gr hg, fun k hk => (h.hok k hk).gr hg⟩
theorem LentR.behind {w : World} {N : Nat} {B : Option Addr} {n d : Nat} {ins hs : List Fr} (h : LentR w N B n d ins hs) (k : Nat) (hk : k < n + 64) :
    ∃ b o, B = some ⟨b, o, none⟩ ∧ w.rangeAt b (o + (n + k) * 3) (cR ((hs ++ marksR n 64).getD k fr0)) := by
  obtain ⟨b, o, e, r, _⟩ := rd_at cR_len (by omega) fr0 h.rd (n + k) (by omega)
  refine ⟨b, o, e, ?_⟩
  have e1 : (ins ++ (hs ++ marksR n 64)).getD (n + k) fr0 = (hs ++ marksR n 64).getD k fr0 := by
    rw [List.getD_eq_getElem?_getD, List.getElem?_append_right (by have := h.l1; omega), h.l1, Nat.add_sub_cancel_left, ← List.getD_eq_getElem?_getD]
  rwa [e1] at r
theorem LentR.frs {w : World} {N : Nat} {B : Option Addr} {n d : Nat} {ins hs : List Fr} (h : LentR w N B n d ins hs) : FrsOk N w B n d ins := by
  refine ⟨?_, fun f hf => ?_⟩
  · have h1 := h.rd.pre n (by omega)
    rwa [← fR_take, List.take_append_of_le_length (Nat.le_of_eq h.l1.symm), List.take_of_length_le (Nat.le_of_eq h.l1)] at h1
  · obtain ⟨k, hk, rfl⟩ := List.mem_iff_getElem.1 hf
    have h1 := h.each k (by have := h.l1; omega)
    rwa [List.getD_eq_getElem?_getD, List.getElem?_eq_getElem hk] at h1
theorem keptFrames_ok (w : World) (N : Nat) (B : Option Addr) (n d : Nat) (ins hs : List Fr) (hl : Fact (LentR w N B n d ins hs)) (A : Option Addr) (c : Nat) (zs : List Fr) (hz : Fact (FrsOk N w A n c zs)) (hd : Fact (ins.map Fr.data = zs.map Fr.data)) (hn : n ≤ 1048576) (hN : N ≤ 2000000) :
    Calls Tryz.prog 45 #[.slice B n d, .slice A n c] w fun e w' => e = .returned (.bool true) ∧ Gr w w' := by
  have hzl := Fact.mk hz.out.len
  have hcd : n + n + 64 ≤ d := by obtain ⟨_, _, _, e, _, h, _⟩ := hl.out.rd; cases e; exact h
  have e1 : ((2 : Int) * (n : Int) + 64).toNat = n + n + 64 := by omega
  have e2 : (2 : Int) * (n : Int) + 64 ≤ (d : Int) := by omega
  have e3 : (0 : Int) ≤ (2 : Int) * (n : Int) + 64 := by omega
  go_enter Tryz.func45, Tryz.ntmps45
  go_wp2
  go_loopw [7] (fun v w' => ∃ (k : Nat), v = .int .i64 k ∧ k ≤ n ∧ Gr w w') (fun v _ => n - (intOf v).toNat)
  case atStart => exact ⟨0, rfl, by omega, Gr.refl _⟩
  case round =>
    obtain ⟨k, rfl, hk, hg⟩ := hrel
    have hg := Fact.mk hg
    by_cases hlt : k < n
    · have hlr := Fact.mk (hl.out.gr hg.out)
      obtain ⟨b, o, rfl, r1, ok1, _⟩ := hlr.out.frs.at k hlt
      obtain ⟨bb, ob, rfl, r2, ok2, _⟩ := (hz.out.gr hg.out).at k hlt
      obtain ⟨_, _, e, r3⟩ := hlr.out.behind k (by omega)
      cases e
      have hhk : (hs ++ marksR n 64).getD k fr0 = hs.getD k fr0 := by rw [List.getD_eq_getElem?_getD, List.getElem?_append_left (by have := hl.out.l2; omega), ← List.getD_eq_getElem?_getD]
      rw [hhk] at r3
      have hfu := hl.out.full k hlt
      have rh := hlr.out.hok k hlt
      have he : (ins.getD k fr0).data = (zs.getD k fr0).data := by
        have h1 : (ins.map Fr.data)[k]? = (zs.map Fr.data)[k]? := by rw [hd.out]
        rw [List.getElem?_map, List.getElem?_map, getD_some ins fr0 k (by have := hl.out.l1; omega), getD_some zs fr0 k (by have := hzl.out; omega)] at h1
        simpa using h1
      generalize ins.getD k fr0 = x at r1 ok1 he hfu
      generalize zs.getD k fr0 = y at r2 ok2 he
      generalize hs.getD k fr0 = h at r3 rh hfu
      obtain ⟨xfn, xpc, xA, xn, xc, xsl⟩ := x
      obtain ⟨yfn, ypc, yA, yn, yc, ysl⟩ := y
      obtain ⟨gfn, gpc, gA, gn, gc, gsl⟩ := h
      have l1 := ok1.len
      have l2 := ok2.len
      simp only [Fr.data, Prod.mk.injEq] at he l1 l2
      obtain ⟨rfl, rfl, rfl⟩ := he
      obtain rfl : xn = yn := by omega
      obtain ⟨rfl, rfl, rfl, rfl⟩ := hfu
      have hxn : xn ≤ N := ok1.2
      have ok1 := Fact.mk ok1
      have ok2 := Fact.mk ok2
      have rh := Fact.mk rh
      have b0 : wr.cell? ⟨bb, ob + k * 3, none⟩ = some (.int .i64 xfn) := r2 0 _ rfl
      have b1 : wr.cell? ⟨bb, ob + k * 3 + 1, none⟩ = some (.int .i64 xpc) := r2 1 _ rfl
      have b2 : wr.cell? ⟨bb, ob + k * 3 + 2, none⟩ = some (.slice yA xn yc) := r2 2 _ rfl
      have c2 : wr.cell? ⟨b, o + (n + k) * 3 + 2, none⟩ = some (.slice gA (xn + 64) gc) := r3 2 _ rfl
      have hm := Mem.start wr
      go_upto_region 9 with (first | (refine wp_rng rfl 30 _ rfl b _ rfl [.int .i64 xfn, .int .i64 xpc, .slice xA xn xc] r1 row_R szR ?_) | (refine wp_setrow rfl 30 _ _ rfl _ rfl 30 _ [.int .i64 xfn, .int .i64 xpc, .slice xA xn xc] rfl (hm.alloc _) szR rfl (cR_one ⟨xfn, xpc, xA, xn, xc, xsl⟩) ?_; intro w2 hm2))
      generalize wr.heap.size = g8 at hm2 ⊢
      have hg2 := hm2.below
      have q0 := hm2.cell m0 0 rfl
      have q1 := hm2.cell m0 1 rfl
      have q2 := hm2.cell m0 2 rfl
      have b0 := Gr.cell hg2 b0
      have b1 := Gr.cell hg2 b1
      have b2 := Gr.cell hg2 b2
      have c2 := Gr.cell hg2 c2
      have hgg := Fact.mk (hg.out.trans hg2)
      have ok1 := Fact.mk (ok1.out.gr hg2)
      have ok2 := Fact.mk (ok2.out.gr hg2)
      have rh := Fact.mk (rh.out.gr hg2)
      clear hg2 hm2 hm r1 r2 r3 hg hlr l1 l2 hhk
      have e4 : IntKind.i64.wrap ((n : Int) + (k : Int)) = (n : Int) + (k : Int) := IntWalk.i64_in _ (by omega)
      have e5 : (0 : Int) ≤ (n : Int) + (k : Int) := by omega
      have e6 : (n : Int) + (k : Int) < (n : Int) + (n : Int) + 64 := by omega
      have e7 : ((n : Int) + (k : Int)).toNat = n + k := by omega
      go_still_tail 43, (by kernel_rfl)
      change wpList _ _ _ _ _ w2.drew
      have hg2 := (Gr.refl w2).drew
      have b2 := Gr.cell hg2 b2
      have q2 := Gr.cell hg2 q2
      have hgg := Fact.mk (hgg.out.trans hg2)
      have ok1 := Fact.mk (ok1.out.gr hg2)
      have ok2 := Fact.mk (ok2.out.gr hg2)
      have rh := Fact.mk (rh.out.gr hg2)
      clear hg2 b0 b1 c2 q0 q1 e1 e2 e3 e4 e5 e6 e7
      generalize w2.drew = w3 at *
      go_wp2_with fail
      refine (keptValues_ok w3 gA xn gc yA yc xsl ⟨rh.out⟩ ⟨ok2.out.1⟩ (by omega)).mono ?_
      rintro e w4 ⟨rfl, hg2⟩
      have b2 := Gr.cell hg2 b2
      have q2 := Gr.cell hg2 q2
      have hgg := Fact.mk (hgg.out.trans hg2)
      have ok1 := Fact.mk (ok1.out.gr hg2)
      have ok2 := Fact.mk (ok2.out.gr hg2)
      clear hg2 rh
      go_wp2
      go_loopw [9] (fun v w' => ∃ (j : Nat), v = .int .i64 j ∧ j ≤ xn ∧ ∃ m, w' = w4.drewN m) (fun v _ => xn - (intOf v).toNat)
      case atStart => exact ⟨0, rfl, by omega, 0, rfl⟩
      case round =>
        obtain ⟨j, rfl, hj, m, rfl⟩ := hrel
        by_cases hlt2 : j < xn
        · obtain ⟨u, uo, e, g1, g2, ht, _⟩ := rdV_at ok1.out.1 j hlt2
          obtain ⟨v, vo, e', g1b, g2b, htb, _⟩ := rdV_at ok2.out.1 j hlt2
          dsimp only at e e'
          subst e
          subst e'
          generalize xsl.getD j (0, 0) = x at g1 g2 g1b g2b ht htb
          clear ht htb
          go_upto_region 14 with (fail)
          go_quiet (fail)
          go_wp2
          go_roundw
          case rel => exact ⟨j + 1, by go_num, by omega, _, rfl⟩
          case measure => simp [intOf]; omega
        · have hfin := Fact.mk (hgg.out.trans ((Gr.refl w4).drewN m))
          go_wp2
          go_roundw
          case rel => exact ⟨k + 1, by go_num, by omega, hfin.out⟩
          case measure => simp [intOf]; omega
    · obtain rfl : k = n := by omega
      go_wp2
      obtain ⟨wo, hwo⟩ : ∃ wo : World, wo = wr := ⟨_, rfl⟩
      rw [← hwo] at hg ⊢
      clear hwo
      have hlr := Fact.mk (hl.out.gr hg.out)
      go_loopw [10] (fun v w' => ∃ (i : Nat), v = .int .i64 i ∧ i ≤ k + 64 ∧ Gr wo w') (fun v _ => k + 64 - (intOf v).toNat)
      case atStart => exact ⟨0, rfl, by omega, Gr.refl _⟩
      case round =>
        obtain ⟨i, rfl, hi, hg3⟩ := hrel
        have hg3 := Fact.mk hg3
        by_cases hlt2 : i < k + 64
        · obtain ⟨b, o, rfl, r3⟩ := (hlr.out.gr hg3.out).behind i hlt2
          have hh : ((hs ++ marksR k 64).getD i fr0).fn = -7 ∧ ((hs ++ marksR k 64).getD i fr0).pc = i ∧ (k ≤ i → ((hs ++ marksR k 64).getD i fr0).n = 0) := by
            by_cases e : i < k
            · have h := hlr.out.full i e
              rw [List.getD_eq_getElem?_getD, List.getElem?_append_left (by have := hlr.out.l2; omega), ← List.getD_eq_getElem?_getD]
              exact ⟨h.1, h.2.1, fun h => by omega⟩
            · have e1 : (hs ++ marksR k 64).getD i fr0 = markR k (i - k) := by
                rw [List.getD_eq_getElem?_getD, List.getElem?_append_right (by have := hlr.out.l2; omega), hlr.out.l2]
                have : i - k < 64 := by omega
                simp [marksR, this]
              rw [e1]
              exact ⟨rfl, by simp [markR]; omega, fun _ => rfl⟩
          generalize (hs ++ marksR k 64).getD i fr0 = h at r3 hh
          obtain ⟨gfn, gpc, gA, gn, gc, gsl⟩ := h
          obtain ⟨rfl, rfl, hgn⟩ := hh
          have hm := Mem.start wr
          have e4 : IntKind.i64.wrap ((k : Int) + (i : Int)) = (k : Int) + (i : Int) := IntWalk.i64_in _ (by omega)
          have e5 : (0 : Int) ≤ (k : Int) + (i : Int) := by omega
          have e6 : (k : Int) + (i : Int) < (k : Int) + (k : Int) + 64 := by omega
          have e7 : ((k : Int) + (i : Int)).toNat = k + i := by omega
          go_upto_region 20 with (first | (refine wp_rng rfl 30 _ rfl b _ rfl [.int .i64 (-7), .int .i64 (i : Int), .slice gA gn gc] r3 row_R szR ?_) | (refine wp_setrow rfl 30 _ _ rfl _ rfl 30 _ [.int .i64 (-7), .int .i64 (i : Int), .slice gA gn gc] rfl (hm.alloc _) szR rfl (cR_one ⟨-7, (i : Int), gA, gn, gc, gsl⟩) ?_; intro w2 hm2))
          generalize wr.heap.size = g8 at hm2 ⊢
          have hgg := Fact.mk (hg3.out.trans hm2.below)
          have q0 := hm2.cell m0 0 rfl
          have q1 := hm2.cell m0 1 rfl
          have q2 := hm2.cell m0 2 rfl
          clear hm2 hm r3 e4 e5 e6 e7
          by_cases e : k ≤ i
          · obtain rfl := hgn e
            have e8 : ((i : Int) ≥ (k : Int)) = True := eq_true (by omega)
            go_wp2
            go_roundw
            case rel => exact ⟨i + 1, by go_num, by omega, hgg.out⟩
            case measure => simp [intOf]; omega
          · have e8 : ((i : Int) ≥ (k : Int)) = False := eq_false (by omega)
            go_wp2
            go_roundw
            case rel => exact ⟨i + 1, by go_num, by omega, hgg.out⟩
            case measure => simp [intOf]; omega
        · have hfin := Fact.mk (hg.out.trans hg3.out)
          go_wp2
          go_ret
          exact ⟨rfl, hfin.out⟩
end Go.Proofs.YtgflfpepfpekhaaGreat
namespace Go.Proofs.YtgflfpepfpekhaaGreat
open Go.RowKit Go.Mm
structure FL where
  A : Option Addr
  n : Nat
  c : Nat
  fs : List Fr
def fl0 : FL := ⟨none, 0, 0, []⟩
def lv (l : FL) : Value := .slice l.A l.n l.c
def lvs (ls : List FL) : List Value := ls.map lv
def lst (l : FL) : Chunk := Own 3 (lv l) (fR l.fs)
theorem lvs_one (ls : List FL) : One (lvs ls) := fun u hu => by
  obtain ⟨y, _, rfl⟩ := List.mem_map.1 hu
  rfl
theorem lvs_at (ls : List FL) (k : Nat) (h : k < ls.length) : (lvs ls)[k]? = some (lv (ls.getD k fl0)) := by simp [lvs, h]
theorem ch_get {α : Type} (f : α → Chunk) (d : α) {w0 w : World} {ys : List α} {R : List Chunk} {k : Nat} (hk : k < ys.length) (h : Mem w0 w (ys.map f ++ R)) : Mem w0 w (f (ys.getD k d) :: ((ys.eraseIdx k).map f ++ R)) := by
  refine h.perm ?_
  have e : ys.getD k d = ys[k] := by simp [hk]
  rw [e]
  have := ((perm_front ys k hk).map f).append_right R
  simpa using this
theorem ch_put {α : Type} (f : α → Chunk) {w0 w : World} {ys : List α} {R : List Chunk} {k : Nat} {y : α} (hk : k < ys.length) (h : Mem w0 w (f y :: ((ys.eraseIdx k).map f ++ R))) : Mem w0 w ((ys.set k y).map f ++ R) := by
  refine h.perm ?_
  have := ((perm_front (ys.set k y) k (by simpa using hk)).map f).append_right R
  rw [List.eraseIdx_set_eq] at this
  simpa using this.symm
theorem lvs_set (ys : List FL) (k : Nat) (y : FL) (h : k < ys.length) (hy : lv y = lv (ys.getD k fl0)) : lvs (ys.set k y) = lvs ys := by
  apply List.ext_getElem?
  intro i
  simp only [lvs, List.getElem?_map, List.getElem?_set]
  by_cases hik : k = i
  · subst hik
    simp only [if_pos h, if_true, Option.map_some]
    rw [getD_some ys fl0 k h]
    simp [hy]
  · rw [if_neg hik]
/-- A list and what it was grown to. -/
def exl (p : FL × FL) : Chunk := Ext 3 (lv p.2) (fR p.2.fs) (lv p.1) (fR p.1.fs)
def pl0 : FL × FL := (fl0, fl0)
theorem exl_start {w0 w : World} {ys : List FL} {R : List Chunk} (h : Mem w0 w (ys.map lst ++ R)) : Mem w0 w ((ys.map fun y => (y, y)).map exl ++ R) := by
  have := Mem.conv (fun y : FL => lst y) (fun y => exl (y, y)) (fun x k hk => hk.elim id id) (fun x hx => OwnAt.ext hx) ys [] R h
  simpa [List.map_map, Function.comp_def] using this
/-- The mark behind a list of frames. -/
def markG (k : Nat) : Fr := ⟨-1 - (k : Int), 0, none, 0, 0, []⟩
theorem fR_fn (ys : List Fr) (i : Nat) (x : Int) (h : i < ys.length) : (fR ys).set (i * 3 + 0) (.int .i64 x) = fR (ys.set i { ys.getD i fr0 with fn := x }) :=
  flatMap_set cR 3 cR_len fr0 ys i 0 _ _ h (by omega) rfl
theorem fR_pc (ys : List Fr) (i : Nat) (x : Int) (h : i < ys.length) : (fR ys).set (i * 3 + 1) (.int .i64 x) = fR (ys.set i { ys.getD i fr0 with pc := x }) :=
  flatMap_set cR 3 cR_len fr0 ys i 1 _ _ h (by omega) rfl
/-- So many frames of list k are marked. -/
def Marked (k i : Nat) (fs : List Fr) : Prop := ∀ q, q < i → (fs.getD q fr0).fn = k ∧ (fs.getD q fr0).pc = q
theorem Marked.step {k i : Nat} {fs : List Fr} (h : Marked k i fs) (hi : i < fs.length) (y : Fr) (h1 : y.fn = k) (h2 : y.pc = i) : Marked k (i + 1) (fs.set i y) := fun q hq => by
  rw [getD_set _ _ _ _ _ hi]
  by_cases e : q = i
  · subst e; rw [if_pos rfl]; exact ⟨h1, h2⟩
  · rw [if_neg e]; exact h q (by omega)
theorem outer_addr {w0 w : World} {A : Option Addr} {m c : Nat} {ls : List FL} {L : List Chunk} (h : Mem w0 w L) (hm : Own 1 (.slice A m c) (lvs ls) ∈ L) (k : Nat) (hk : k < m) : ∃ b o, A = some ⟨b, o, none⟩ := by
  obtain ⟨b, o, _, e, _⟩ := (h.rd hm).at1 k hk
  exact ⟨b, o, e⟩
theorem outer_at {w0 w : World} {b o : Nat} {m c : Nat} {ls : List FL} {L : List Chunk} (h : Mem w0 w L) (hm : Own 1 (.slice (some ⟨b, o, none⟩) m c) (lvs ls) ∈ L) (k : Nat) (hk : k < m) (hl : ls.length = m) : w.cell? ⟨b, o + k, none⟩ = some (lv (ls.getD k fl0)) := by
  obtain ⟨_, _, c0, e, h1, h2, _, _⟩ := (h.rd hm).at1 k hk
  cases e
  rw [lvs_at ls k (by omega)] at h2
  cases h2
  exact h1
theorem lst_at {w0 w : World} {A : Option Addr} {n c : Nat} {fs : List Fr} {L : List Chunk} (h : Mem w0 w L) (hm : lst ⟨A, n, c, fs⟩ ∈ L) (i : Nat) (hi : i < n) : ∃ b o, A = some ⟨b, o, none⟩ ∧ w.rangeAt b (o + i * 3) (cR (fs.getD i fr0)) := by
  obtain ⟨b, o, e, r, _⟩ := rd_at cR_len (by omega) fr0 (h.rd hm) i hi
  exact ⟨b, o, e, r⟩
theorem lst_len {w0 w : World} {A : Option Addr} {n c : Nat} {fs : List Fr} {L : List Chunk} (h : Mem w0 w L) (hm : lst ⟨A, n, c, fs⟩ ∈ L) : fs.length = n := rd_len cR_len (by omega) (h.rd hm)
end Go.Proofs.YtgflfpepfpekhaaGreat
namespace Go.Proofs.YtgflfpepfpekhaaGreat
open Go.RowKit Go.Mm
set_option maxHeartbeats 1000000
set_option maxRecDepth 100000
set_option linter.unusedSimpArgs false
theorem ty_FFs : Tryz.prog.underlying 90 = some (.slice 38) := by kernel_rfl
theorem inf_Fs : (Tryz.prog.info? 38).map (fun i => (i.zero, i.size, i.bytes)) = some (some (.slice none 0 0), 1, 24) := by kernel_rfl
theorem flatMap_take_succ (ls : List FL) (k : Nat) (h : k < ls.length) : (ls.take (k + 1)).flatMap FL.fs = (ls.take k).flatMap FL.fs ++ (ls.getD k fl0).fs := by
  rw [List.take_succ_eq_append_getElem h, List.flatMap_append]
  simp [h]
theorem apartFrames_ok (w0 w : World) (A : Option Addr) (m c N : Nat) (ls : List FL) (L : List Chunk) (hm : Mem w0 w (slots (ls.flatMap FL.fs) ++ (ls.map lst ++ (Own 1 (.slice A m c) (lvs ls) :: L)))) (hl : Fact (ls.length = m)) (hN : Fact (∀ l, l ∈ ls → l.n ≤ 1048577 ∧ ∀ y, y ∈ l.fs → y.n ≤ N)) (hmm : m ≤ 2) (hNN : N ≤ 4194304) :
    Calls Tryz.prog 47 #[.slice A m c] w fun e w' => e = .returned (.bool true) ∧ Mem w0 w' L := by
  obtain ⟨iR, ri, rz0, rz1, rz2⟩ := info_parts inf_R
  obtain ⟨iS, si, sz0, sz1, sz2⟩ := info_parts inf_Vs
  obtain ⟨iF, fi, fz0, fz1, fz2⟩ := info_parts inf_Fs
  go_enter Tryz.func47, Tryz.ntmps47
  go_wp2
  obtain ⟨R, hR⟩ : ∃ R, Fact (slots (ls.flatMap FL.fs) ++ (ls.map lst ++ (Own 1 (.slice A m c) (lvs ls) :: L)) = R) := ⟨_, ⟨rfl⟩⟩
  rw [hR.out] at hm
  have hR1 : Fact (Own 1 (.slice A m c) (lvs ls) ∈ R ∧ ∀ l, l ∈ ls → lst l ∈ R) := ⟨by rw [← hR.out]; exact ⟨by simp, fun l hl => List.mem_append_right _ (List.mem_append_left _ (List.mem_map.2 ⟨l, hl, rfl⟩))⟩⟩
  go_loopw [3, 4] (fun l v w' => ∃ (k : Nat) (B : Option Addr) (d j : Nat), v = .int .i64 k ∧ k ≤ m ∧ l = .slice B j d ∧ Mem w0 w' (Own 1 (.slice B j d) (svs ((ls.take k).flatMap FL.fs)) :: R) ∧ Fact (((ls.take k).flatMap FL.fs).length = j ∧ j ≤ k * 1048577)) (fun _ v _ => m - (intOf v).toNat)
  case atStart => exact ⟨0, none, 0, 0, rfl, by omega, rfl, by simpa [svs] using hm.nil 1 none, ⟨by simp, by omega⟩⟩
  case round =>
    clear hm
    obtain ⟨k, B, d, j, rfl, hk, rfl, hm, hj⟩ := hrel
    by_cases hlt : k < m
    · have hkl : k < ls.length := by have := hl.out; omega
      have hlm : ls.getD k fl0 ∈ ls := List.mem_of_getElem? (getD_some ls fl0 k hkl)
      have hNl := hN.out _ hlm
      obtain ⟨bo, oo, rfl⟩ := outer_addr hm (.tail _ hR1.out.1) k hlt
      have hat : Fact (∀ (W : World) (C : Chunk), Mem w0 W (C :: R) → W.cell? ⟨bo, oo + k, none⟩ = some (lv (ls.getD k fl0))) := ⟨fun W C h => outer_at h (.tail _ hR1.out.1) k hlt hl.out⟩
      have hts := Fact.mk (flatMap_take_succ ls k hkl)
      have hxm := Fact.mk (hR1.out.2 _ hlm)
      generalize ls.getD k fl0 = x at hat hNl hts hxm
      obtain ⟨xA, xn, xc, xfs⟩ := x
      have hxl := Fact.mk (lst_len hm (.tail _ hxm.out))
      simp only [lv] at hat
      dsimp only at hNl hts
      have hxn := hNl.1
      clear hlm hNl
      have h1 := hat.out _ _ hm
      go_wp2
      clear h1
      go_loopw [3, 5] (fun l v w' => ∃ (i : Nat) (B : Option Addr) (d : Nat), v = .int .i64 i ∧ i ≤ xn ∧ l = .slice B (j + i) d ∧ Mem w0 w' (Own 1 (.slice B (j + i) d) (svs ((ls.take k).flatMap FL.fs ++ xfs.take i)) :: R)) (fun _ v _ => xn - (intOf v).toNat)
      case atStart => exact ⟨0, B, d, rfl, by omega, rfl, by simpa using hm⟩
      case round =>
        clear hm
        obtain ⟨i, B, d, rfl, hi, rfl, hm⟩ := hrel
        have h1 := hat.out _ _ hm
        by_cases hlt2 : i < xn
        · obtain ⟨lb, lo, rfl, r1⟩ := lst_at hm (.tail _ hxm.out) i hlt2
          have htk : Fact (xfs.take (i + 1) = xfs.take i ++ [xfs.getD i fr0]) := ⟨take_snoc _ _ _ (by have := hxl.out; omega)⟩
          generalize xfs.getD i fr0 = y at r1 htk
          obtain ⟨yfn, ypc, yA, yn, yc, ysl⟩ := y
          have a2 : wr.cell? ⟨lb, lo + i * 3 + 2, none⟩ = some (.slice yA yn yc) := r1 2 _ rfl
          clear r1
          have hjb := hj.out.2
          go_wp2_with (at_builtin; (refine wp_app rfl _ _ _ rfl 28 iS _ 1 24 ty_VVs si sz0 sz1 sz2 rfl B (j + i) d _ rfl ((hm.alloc _).swap) _ 1 1 [.slice yA yn yc] rfl (RdC.lit _ _ _ _ _ rfl (by simp [maxLen]) (svs_one [⟨0, 0, yA, yn, yc, []⟩])) (by unfold maxLen; omega) (by omega) ?_); intro B1 d1 w4 HM1)
          go_roundw
          case rel =>
            have HM2 := HM1.sub (.cons_cons _ (.cons _ (List.Sublist.refl _)))
            refine ⟨i + 1, B1, d1, by go_num, by omega, rfl, ?_⟩
            rw [htk.out]
            simpa [svs, sv, Nat.add_assoc] using HM2
          case measure => simp [intOf]; omega
        · obtain rfl : i = xn := by omega
          rw [List.take_of_length_le (Nat.le_of_eq hxl.out)] at hm
          go_wp2
          go_roundw
          case rel =>
            have hj1 := hj.out.1
            have hj2 := hj.out.2
            refine ⟨k + 1, B, d, j + i, by go_num, by omega, rfl, ?_, ⟨?_, by omega⟩⟩
            · rw [hts.out]; exact hm
            · rw [hts.out, List.length_append, hj1, hxl.out]
          case measure => simp [intOf]; omega
    · obtain rfl : k = m := by omega
      have hj1 := hj.out.1
      have hj2 := hj.out.2
      rw [List.take_of_length_le (Nat.le_of_eq hl.out)] at hm hj1
      rw [← hR.out] at hm
      have hNf : Fact (∀ y, y ∈ ls.flatMap FL.fs → y.n ≤ N) := ⟨fun y hy => by
        obtain ⟨l, hl, hy⟩ := List.mem_flatMap.1 hy
        exact (hN.out l hl).2 y hy⟩
      go_wp2_with fail
      refine (apartValues_ok w0 wr B j d N (ls.flatMap FL.fs) (ls.map lst ++ (Own 1 (.slice A k c) (lvs ls) :: L)) hm.unmid ⟨hj1⟩ hNf (by omega) hNN).mono ?_
      rintro e w2 ⟨rfl, hm⟩
      clear hR hR1 hj hj1 hj2 hNf
      go_wp2
      obtain ⟨wo, hwo⟩ : ∃ wo : World, wo = w2 := ⟨_, rfl⟩
      rw [← hwo] at hm ⊢
      clear hwo
      go_loopw [6] (fun v w' => ∃ (q : Nat) (zs : List FL), v = .int .i64 q ∧ q ≤ k ∧ Mem w0 w' (zs.map lst ++ (Own 1 (.slice A k c) (lvs zs) :: L)) ∧ Fact (zs.length = k ∧ (∀ z, z ∈ zs → z.n ≤ 1048577) ∧ ∀ p, p < q → Marked p (zs.getD p fl0).n (zs.getD p fl0).fs)) (fun v _ => k - (intOf v).toNat)
      case atStart => exact ⟨0, ls, rfl, by omega, hm, ⟨hl.out, fun z hz => (hN.out z hz).1, fun p hp => by omega⟩⟩
      case round =>
        clear hm hl hN
        obtain ⟨q, zs, rfl, hq, hm, hz⟩ := hrel
        by_cases hlt : q < k
        · have hql : q < zs.length := by have := hz.out.1; omega
          have hxm : zs.getD q fl0 ∈ zs := List.mem_of_getElem? (getD_some zs fl0 q hql)
          have hxn := hz.out.2.1 _ hxm
          obtain ⟨bo, oo, rfl⟩ := outer_addr hm (List.mem_append_right _ m0) q hlt
          have hm1 := ch_get lst fl0 hql hm
          have hat : Fact (∀ (W : World) (C : Chunk), Mem w0 W (C :: ((zs.eraseIdx q).map lst ++ (Own 1 (.slice (some ⟨bo, oo, none⟩) k c) (lvs zs) :: L))) → W.cell? ⟨bo, oo + q, none⟩ = some (lv (zs.getD q fl0))) := ⟨fun W C h => outer_at h (.tail _ (List.mem_append_right _ m0)) q hlt hz.out.1⟩
          have hxe : ∃ x, Fact (zs.getD q fl0 = x) := ⟨_, ⟨rfl⟩⟩
          obtain ⟨x, hxe⟩ := hxe
          rw [hxe.out] at hat hm1 hxn
          obtain ⟨xA, xn, xc, xfs⟩ := x
          have hxl := lst_len hm1 m0
          simp only [lv] at hat
          dsimp only at hxn
          have h1 := hat.out _ _ hm1
          clear hm hxm
          go_wp2
          clear h1
          obtain ⟨wp, hwp⟩ : ∃ wp : World, wp = wr := ⟨_, rfl⟩
          rw [← hwp] at hm1 ⊢
          clear hwp
          go_loopw [7] (fun v w' => ∃ (i : Nat) (fs : List Fr), v = .int .i64 i ∧ i ≤ xn ∧ Mem w0 w' (lst ⟨xA, xn, xc, fs⟩ :: ((zs.eraseIdx q).map lst ++ (Own 1 (.slice (some ⟨bo, oo, none⟩) k c) (lvs zs) :: L))) ∧ Fact (fs.length = xn ∧ Marked q i fs)) (fun v _ => xn - (intOf v).toNat)
          case atStart => exact ⟨0, xfs, rfl, by omega, hm1, ⟨hxl, fun p hp => by omega⟩⟩
          case round =>
            clear hm1 hxl
            obtain ⟨i, fs, rfl, hi, hm, hs⟩ := hrel
            have h1 := hat.out _ _ hm
            by_cases hlt2 : i < xn
            · obtain ⟨lb, lo, rfl, _⟩ := lst_at hm m0 i hlt2
              have hil : i < fs.length := by have := hs.out.1; omega
              have hm' : Mem w0 wr (Own 3 (.slice (some ⟨lb, lo, none⟩) xn xc) (fR fs) :: _) := hm
              have hj0 : (fR fs)[i * 3 + 0]? = some (.int .i64 (fs.getD i fr0).fn) := by rw [fR, flatMap_at cR 3 cR_len _ i 0 (by omega), getD_some _ fr0 i hil]; rfl
              obtain ⟨g1, g2⟩ := hm'.own_cell m0 (i * 3 + 0) hj0
              have hm2 := hm'.own_set (i * 3 + 0) (by rw [fR_len]; omega) (.int .i64 (q : Int)) rfl
              rw [fR_fn fs i q hil] at hm2
              simp only [Nat.add_zero] at g1 g2 hm2
              clear hm' hj0
              go_upto_region 18 with (fail)
              generalize wr.setCell _ _ = w3 at hm2 ⊢
              have hye : ∃ y, Fact (({ fs.getD i fr0 with fn := (q : Int) } : Fr) = y ∧ y.fn = q) := ⟨_, ⟨rfl, rfl⟩⟩
              obtain ⟨y, hye⟩ := hye
              rw [hye.out.1] at hm2
              have hil2 : i < (fs.set i y).length := by simpa using hil
              have hy2 : (fs.set i y).getD i fr0 = y := by rw [getD_set _ _ _ _ _ hil, if_pos rfl]
              have hj1 : (fR (fs.set i y))[i * 3 + 1]? = some (.int .i64 ((fs.set i y).getD i fr0).pc) := by rw [fR, flatMap_at cR 3 cR_len _ i 1 (by omega), getD_some _ fr0 i hil2]; rfl
              have h1 := hat.out _ _ hm2
              obtain ⟨g1, g2⟩ := hm2.own_cell m0 (i * 3 + 1) hj1
              have hm3 := hm2.own_set (i * 3 + 1) (by rw [fR_len]; omega) (.int .i64 (i : Int)) rfl
              rw [fR_pc _ i i hil2, hy2, List.set_set] at hm3
              rw [← Nat.add_assoc] at g1 g2 hm3
              clear hm2 hj1 hm
              go_wp2
              go_roundw
              case rel =>
                have hs1 := hs.out.1
                exact ⟨i + 1, fs.set i { y with pc := (i : Int) }, by go_num, by omega, hm3, ⟨by simpa using hs1, hs.out.2.step hil _ hye.out.2 rfl⟩⟩
              case measure => simp [intOf]; omega
            · obtain rfl : i = xn := by omega
              go_wp2
              go_roundw
              case rel =>
                have hz1 := hz.out
                have hsv : lvs (zs.set q ⟨xA, i, xc, fs⟩) = lvs zs := lvs_set zs q _ hql (by rw [hxe.out]; rfl)
                refine ⟨q + 1, zs.set q ⟨xA, i, xc, fs⟩, by go_num, by omega, ?_, ⟨by simpa using hz1.1, fun z hz => ?_, fun p hp => ?_⟩⟩
                · rw [hsv]
                  exact ch_put lst hql hm
                · rcases List.mem_or_eq_of_mem_set hz with h | rfl
                  · exact hz1.2.1 z h
                  · exact hxn
                · rw [getD_set _ _ _ _ _ hql]
                  by_cases e : p = q
                  · subst e; rw [if_pos rfl]; exact hs.out.2
                  · rw [if_neg e]; exact hz1.2.2 p (by omega)
              case measure => simp [intOf]; omega
        · obtain rfl : q = k := by omega
          have hm := exl_start hm
          go_wp2
          obtain ⟨wp, hwp⟩ : ∃ wp : World, wp = wr := ⟨_, rfl⟩
          rw [← hwp] at hm ⊢
          clear hwp
          go_loopw [8, 9] (fun l v w' => ∃ (j : Nat) (B : Option Addr) (d : Nat) (ps : List (FL × FL)), v = .int .i64 j ∧ j ≤ q ∧ l = .slice B j d ∧ Mem w0 w' (ps.map exl ++ (Own 1 (.slice A q c) (lvs zs) :: Own 1 (.slice B j d) (lvs ((ps.map Prod.snd).take j)) :: L)) ∧ Fact (ps.map Prod.fst = zs ∧ (∀ i, j ≤ i → i < q → (ps.getD i pl0).2 = zs.getD i fl0) ∧ ∀ i, i < j → (ps.getD i pl0).2.n = (zs.getD i fl0).n + 64 ∧ (ps.getD i pl0).2.fs = (zs.getD i fl0).fs ++ List.replicate 64 (markG i))) (fun _ v _ => q - (intOf v).toNat)
          case atStart =>
            refine ⟨0, none, 0, zs.map fun y => (y, y), rfl, by omega, rfl, ?_, ⟨by simp [List.map_map, Function.comp_def], fun i _ hi => ?_, fun i hi => by omega⟩⟩
            · exact (hm.nil 1 none).unmid2
            · rw [List.getD_eq_getElem?_getD, List.getElem?_map, getD_some zs fl0 i (by have := hz.out.1; omega)]; rfl
          case round =>
            clear hm
            obtain ⟨j, B, d, ps, rfl, hj, rfl, hm, hp⟩ := hrel
            have hpl : ps.length = q := by have := congrArg List.length hp.out.1; simpa [hz.out.1] using this
            have hpl := Fact.mk hpl
            by_cases hlt2 : j < q
            · obtain ⟨bo, oo, rfl⟩ := outer_addr hm (List.mem_append_right _ m0) j hlt2
              have hm1 := ch_get exl pl0 (k := j) (by have := hpl.out; omega) hm
              have hfst : (ps.getD j pl0).1 = zs.getD j fl0 := by
                have e := hp.out.1
                rw [← e, getD_map Prod.fst ps j pl0 fl0 (by have := hpl.out; omega)]
              have hsnd := hp.out.2.1 j (Nat.le_refl _) hlt2
              have hpe : ps.getD j pl0 = (zs.getD j fl0, zs.getD j fl0) := Prod.ext hfst hsnd
              rw [hpe] at hm1
              have hy : zs.getD j fl0 ∈ zs := List.mem_of_getElem? (getD_some zs fl0 j (by have := hz.out.1; omega))
              have hxn := hz.out.2.1 _ hy
              have hat : Fact (∀ (W : World) (C : Chunk), Mem w0 W (C :: ((ps.eraseIdx j).map exl ++ (Own 1 (.slice (some ⟨bo, oo, none⟩) q c) (lvs zs) :: Own 1 (.slice B j d) (lvs ((ps.map Prod.snd).take j)) :: L))) → W.cell? ⟨bo, oo + j, none⟩ = some (lv (zs.getD j fl0))) := ⟨fun W C h => outer_at h (.tail _ (List.mem_append_right _ m0)) j hlt2 hz.out.1⟩
              have hxe : ∃ x, Fact (zs.getD j fl0 = x) := ⟨_, ⟨rfl⟩⟩
              obtain ⟨x, hxe⟩ := hxe
              rw [hxe.out] at hat hm1 hxn
              obtain ⟨xA, xn, xc, xfs⟩ := x
              simp only [lv] at hat
              dsimp only at hxn
              have h1 := hat.out _ _ hm1
              clear hm hy hfst hsnd hpe
              go_wp2
              clear h1
              obtain ⟨wp, hwp⟩ : ∃ wp : World, wp = wr := ⟨_, rfl⟩
              rw [← hwp] at hm1 ⊢
              clear hwp
              go_loopw [10, 11] (fun l v w' => ∃ (i : Nat) (C : Option Addr) (e : Nat), v = .int .i64 i ∧ i ≤ 64 ∧ l = .slice C (xn + i) e ∧ Mem w0 w' (Ext 3 (.slice C (xn + i) e) (fR (xfs ++ List.replicate i (markG j))) (.slice xA xn xc) (fR xfs) :: ((ps.eraseIdx j).map exl ++ (Own 1 (.slice (some ⟨bo, oo, none⟩) q c) (lvs zs) :: Own 1 (.slice B j d) (lvs ((ps.map Prod.snd).take j)) :: L)))) (fun _ v _ => 64 - (intOf v).toNat)
              case atStart => exact ⟨0, xA, xc, rfl, by omega, rfl, by simpa [exl, lv] using hm1⟩
              case round =>
                clear hm1
                obtain ⟨i, C, e, rfl, hi1, rfl, hm⟩ := hrel
                by_cases hlt3 : i < 64
                · go_wp2_with (at_builtin; refine wp_appe rfl _ _ _ rfl 30 iR _ 3 40 ty_Rs ri rz0 rz1 rz2 rfl C (xn + i) e _ _ _ rfl (L := Blk _ _ :: _) (hm.alloc _).swap _ 1 1 [.int .i64 (-1 - (j : Int)), .int .i64 0, .slice none 0 0] rfl (RdC.lit _ _ _ _ _ rfl (by simp [maxLen]) (cR_one (markG j))) (by unfold maxLen; omega) (by omega) ?_; intro C1 e1 w2 hm2)
                  go_roundw
                  case rel =>
                    refine ⟨i + 1, C1, e1, by go_num, by omega, rfl, ?_⟩
                    have hm3 := hm2.sub (.cons_cons _ (.cons _ (List.Sublist.refl _)))
                    rw [show xn + (i + 1) = xn + i + 1 by omega, List.replicate_succ', ← List.append_assoc, fR_app]
                    exact hm3
                  case measure => simp [intOf]; omega
                · obtain rfl : i = 64 := by omega
                  go_wp2_with (at_builtin; refine wp_app rfl _ _ _ rfl 38 iF _ 1 24 ty_FFs fi fz0 fz1 fz2 rfl B j d _ rfl (Mem.mid2 (A := _ :: _ :: (ps.eraseIdx j).map exl) (hm.alloc _)) _ 1 1 [.slice C (xn + 64) e] rfl (RdC.lit _ _ _ _ _ rfl (by simp [maxLen]) (lvs_one [⟨C, xn + 64, e, []⟩])) (by unfold maxLen; omega) (by omega) ?_; intro B1 d1 w2 hm2)
                  go_roundw
                  case rel =>
                    have hm3 := Mem.unmid2 (A := exl (⟨xA, xn, xc, xfs⟩, ⟨C, xn + 64, e, xfs ++ List.replicate 64 (markG j)⟩) :: (ps.eraseIdx j).map exl) (hm2.sub (.cons_cons _ (.cons _ (List.Sublist.refl _))))
                    have hm4 := ch_put exl (k := j) (by have := hpl.out; omega) hm3
                    have hp1 := hp.out
                    have e0 : (ps.map Prod.snd).take j ++ [⟨C, xn + 64, e, xfs ++ List.replicate 64 (markG j)⟩] = ((ps.set j (⟨xA, xn, xc, xfs⟩, ⟨C, xn + 64, e, xfs ++ List.replicate 64 (markG j)⟩)).map Prod.snd).take (j + 1) := by
                      rw [List.map_set, List.take_succ_eq_append_getElem (by simp; have := hpl.out; omega), List.take_set_of_le (Nat.le_refl _)]
                      simp
                    refine ⟨j + 1, B1, d1, ps.set j (⟨xA, xn, xc, xfs⟩, ⟨C, xn + 64, e, xfs ++ List.replicate 64 (markG j)⟩), by go_num, by omega, rfl, ?_, ⟨?_, fun i h1 h2 => ?_, fun i h1 => ?_⟩⟩
                    rotate_left 1
                    · rw [List.map_set, hp1.1]
                      apply List.ext_getElem?
                      intro i
                      rw [List.getElem?_set]
                      by_cases e : j = i
                      · subst e
                        have := hz.out.1
                        rw [if_pos rfl, if_pos (by omega), getD_some zs fl0 j (by omega), hxe.out]
                      · rw [if_neg e]
                    · rw [getD_set _ _ _ _ _ (by have := hpl.out; omega), if_neg (by omega)]
                      exact hp1.2.1 i (by omega) h2
                    · rw [getD_set _ _ _ _ _ (by have := hpl.out; omega)]
                      by_cases e : i = j
                      · subst e; rw [if_pos rfl, hxe.out]; exact ⟨rfl, rfl⟩
                      · rw [if_neg e]; exact hp1.2.2 i (by omega)
                    · rw [← e0]
                      simpa [lvs, lv] using hm4
                  case measure => simp [intOf]; omega
            · obtain rfl : j = q := by omega
              have hps : (ps.map Prod.snd).take j = ps.map Prod.snd := List.take_of_length_le (by simp; have := hpl.out; omega)
              rw [hps] at hm
              clear hps hlt2
              go_wp2
              obtain ⟨wo, hwo⟩ : ∃ wo : World, wo = wr := ⟨_, rfl⟩
              rw [← hwo] at hm ⊢
              clear hwo
              go_loopw [12] (fun v w' => ∃ (p : Nat), v = .int .i64 p ∧ p ≤ j ∧ w' = wo) (fun v _ => j - (intOf v).toNat)
              case atStart => exact ⟨0, rfl, by omega, rfl⟩
              case round =>
                obtain ⟨p, rfl, hp1, rfl⟩ := hrel
                by_cases hlt2 : p < j
                · obtain ⟨bo, oo, rfl⟩ := outer_addr hm (List.mem_append_right _ m0) p hlt2
                  obtain ⟨bg, og, rfl⟩ := outer_addr hm (List.mem_append_right _ m1) p hlt2
                  have h1 := outer_at hm (List.mem_append_right _ m0) p hlt2 hz.out.1
                  have g1 := outer_at hm (List.mem_append_right _ m1) p hlt2 (by simpa using hpl.out)
                  rw [getD_map Prod.snd ps p pl0 fl0 (by have := hpl.out; omega)] at g1
                  have hfst : (ps.getD p pl0).1 = zs.getD p fl0 := by
                    have e := hp.out.1
                    rw [← e, getD_map Prod.fst ps p pl0 fl0 (by have := hpl.out; omega)]
                  have hpm : ps.getD p pl0 ∈ ps := List.mem_of_getElem? (getD_some ps pl0 p (by have := hpl.out; omega))
                  have hext := hm.ok (exl (ps.getD p pl0)) (List.mem_append.2 (.inl (List.mem_map.2 ⟨_, hpm, rfl⟩)))
                  have q1 := (hp.out.2.2 p (by omega)).1
                  have q2 := (hp.out.2.2 p (by omega)).2
                  have q3 := hz.out.2.2 p (by omega)
                  have hy : zs.getD p fl0 ∈ zs := List.mem_of_getElem? (getD_some zs fl0 p (by have := hz.out.1; omega))
                  have q4 := hz.out.2.1 _ hy
                  have r1 := hext.1.rd
                  have r2 := ExtAt.rd0 hext
                  rw [hfst] at r2
                  clear hfst hpm hext hy hm hp hz
                  generalize zs.getD p fl0 = x at *
                  generalize (ps.getD p pl0).2 = y at *
                  obtain ⟨xA, xn, xc, xfs⟩ := x
                  obtain ⟨yA, yn, yc, yfs⟩ := y
                  simp only [lv] at h1 g1 r1 r2
                  try dsimp only at q1 q2 q3 q4
                  subst q1
                  subst q2
                  have hxl : xfs.length = xn := rd_len cR_len (by omega) r2
                  have r1 := Fact.mk r1
                  have r2 := Fact.mk r2
                  have q3 := Fact.mk q3
                  have hxl := Fact.mk hxl
                  go_wp2
                  go_loopw [13] (fun v w' => ∃ (i : Nat), v = .int .i64 i ∧ xn ≤ i ∧ i ≤ xn + 64 ∧ w' = wr) (fun v _ => xn + 64 - (intOf v).toNat)
                  case atStart => exact ⟨xn, rfl, by omega, by omega, rfl⟩
                  case round =>
                    obtain ⟨i, rfl, hi1, hi2, rfl⟩ := hrel
                    by_cases hlt3 : i < xn + 64
                    · obtain ⟨ba, oa, e, a0, _, _⟩ := rd_at cR_len (by omega) fr0 r1.out i hlt3
                      subst e
                      have e1 : (xfs ++ List.replicate 64 (markG p)).getD i fr0 = markG p := by
                        rw [List.getD_eq_getElem?_getD, List.getElem?_append_right (by have := hxl.out; omega), List.getElem?_replicate, if_pos (by have := hxl.out; omega)]
                        rfl
                      rw [e1] at a0
                      have a1 : wr.cell? ⟨ba, oa + i * 3, none⟩ = some (.int .i64 (-1 - (p : Int))) := a0 0 _ rfl
                      clear a0 e1
                      go_wp2
                      go_roundw
                      case rel => exact ⟨i + 1, by go_num, by omega, by omega, trivial⟩
                      case measure => simp [intOf]; omega
                    · go_wp2
                      go_loopw [14] (fun v w' => ∃ (u : Nat), v = .int .i64 u ∧ u ≤ xn ∧ w' = wr) (fun v _ => xn - (intOf v).toNat)
                      case atStart => exact ⟨0, rfl, by omega, rfl⟩
                      case round =>
                        obtain ⟨u, rfl, hu, rfl⟩ := hrel
                        by_cases hlt4 : u < xn
                        · obtain ⟨ba, oa, e, a0, _, _⟩ := rd_at cR_len (by omega) fr0 r2.out u hlt4
                          subst e
                          have hmk := q3.out u hlt4
                          generalize xfs.getD u fr0 = y at a0 hmk
                          obtain ⟨yfn, ypc, yA, yn, yc, ysl⟩ := y
                          obtain ⟨rfl, rfl⟩ := hmk
                          have a1 : wr.cell? ⟨ba, oa + u * 3, none⟩ = some (.int .i64 (p : Int)) := a0 0 _ rfl
                          have a2 : wr.cell? ⟨ba, oa + u * 3 + 1, none⟩ = some (.int .i64 (u : Int)) := a0 1 _ rfl
                          clear a0
                          go_wp2
                          go_roundw
                          case rel => exact ⟨u + 1, by go_num, by omega, trivial⟩
                          case measure => simp [intOf]; omega
                        · go_wp2
                          go_roundw
                          case rel => exact ⟨p + 1, by go_num, by omega, trivial⟩
                          case measure => simp [intOf]; omega
                · go_wp2
                  go_ret
                  exact ⟨rfl, hm.sub ((List.sublist_cons_self _ _).trans ((List.sublist_cons_self _ _).trans (List.sublist_append_right _ _)))⟩
end Go.Proofs.YtgflfpepfpekhaaGreat
namespace Go.Proofs.YtgflfpepfpekhaaGreat
open Go.RowKit Go.Mm
set_option maxHeartbeats 1000000
set_option maxRecDepth 100000
theorem data_len {xs ys : List Fr} (h : xs.map Fr.data = ys.map Fr.data) : xs.length = ys.length := by simpa using congrArg List.length h
theorem snoc_of_len {α : Type} {l : List α} {k : Nat} (h : l.length = k + 1) : ∃ l0 x, l = l0 ++ [x] ∧ l0.length = k :=
  ⟨l.take k, l[k], by rw [← List.take_succ_eq_append_getElem, List.take_of_length_le (by omega)], by simp [h]⟩
theorem refReturn_ok (w : World) (N : Nat) (A : Option Addr) (n c : Nat) (xs : List Fr) (hx : Fact (FrsOk N w A n c xs)) (hn : n ≤ 1048577) (hN : N ≤ 1048580) (v : V2) :
    Calls Tryz.prog 48 #[.slice A n c, .agg (cV v).toArray] w fun e w' => ∃ A' m c' zs, e = .returned (.tuple #[.slice A' m c', .bool (decide (2 ≤ n))]) ∧ Mem w w' (Own 3 (.slice A' m c') (fR zs) :: slots zs) ∧ zs.map Fr.data = retD xs v ∧ ∀ z, z ∈ zs → z.n ≤ N + 1 := by
  obtain ⟨iV, hi, hz0, hz1, hz2⟩ := info_parts inf_V
  have hl := Fact.mk hx.out.len
  obtain ⟨v1, v2⟩ := v
  simp only [cV]
  by_cases h2 : 2 ≤ n
  · obtain ⟨k, rfl⟩ : ∃ k, n = k + 2 := ⟨n - 2, by omega⟩
    have hb2 : Fact (decide (2 ≤ k + 2) = true) := ⟨by simp⟩
    have hrd : Fact (retD xs (v1, v2) = (xs.take k).map Fr.data ++ [retF (xs.getD k fr0).data (v1, v2)]) := ⟨by unfold retD; rw [if_neg (by have := hl.out; omega), hl.out]; rfl⟩
    have htk : Fact (xs.take (k + 1) = xs.take k ++ [xs.getD k fr0]) := ⟨take_snoc _ _ _ (by have := hl.out; omega)⟩
    have hcp : k + 2 ≤ c := by obtain ⟨_, _, _, e, _, h, _⟩ := hx.out.rd; cases e; exact h
    have hcp1 : k + 1 ≤ c := by omega
    have e1 : (((k + 2 : Nat) : Int) - 1) = (k : Int) + 1 := by omega
    have e1b : (k : Int) + 2 - 1 = (k : Int) + 1 := by omega
    have e1c : decide ((k : Int) + 1 < 1) = false := by simp; omega
    rw [hb2.out]
    go_enter Tryz.func48, Tryz.ntmps48
    go_upto_region 1 with (fail)
    have hm := ((Mem.start w).alloc (.cells [.int .i64 v1, .int .i64 v2].toArray 36))
    generalize hgX : w.heap.size = g at hm ⊢
    generalize hwX : (w.alloc (.cells [.int .i64 v1, .int .i64 v2].toArray 36)) = w1 at hm
    try refine wp_world hwX ?_
    clear hwX hgX
    go_upto_region 4 with (fail)
    go_wp2_with fail
    refine (copyFrames_ok w1 N A (k + 1) c (xs.take (k + 1)) ⟨(hx.out.pre (k + 1) (by omega)).gr hm.below⟩ (by omega) (by omega)).mono ?_
    rintro e w2 ⟨A', c', ys, rfl, hm2, hyd, hyn⟩
    obtain ⟨ys0, y, rfl, hy0⟩ := snoc_of_len (l := ys) (k := k) (by have := data_len hyd; rw [this, List.length_take]; have := hl.out; omega)
    have hcap := OwnAt.cap (hm2.ok _ m0)
    obtain ⟨gA, oA, rfl⟩ := OwnAt.addr (hm2.ok _ m0) (by omega)
    have hyy : ys0.map Fr.data = (xs.take k).map Fr.data ∧ y.data = (xs.getD k fr0).data := by
      rw [htk.out, List.map_append, List.map_append] at hyd
      have := List.append_inj' hyd rfl
      exact ⟨this.1, by simpa using this.2⟩
    have hyy := Fact.mk hyy
    have hyn := Fact.mk hyn
    have hmj : Mem w w2 (Own 3 (.slice (some ⟨gA, oA, none⟩) (k + 1) c') (fR (ys0 ++ [y])) :: (slots ys0 ++ (slot y :: [Blk g (.cells [.int .i64 v1, .int .i64 v2].toArray 36)]))) := by
      have := hm.join hm2
      rw [slots_app, List.cons_append, List.append_assoc] at this
      exact this
    have hyl : y.sl.length = y.n := rdV_len (hmj.ok (slot y) (by simp)).rd
    have hynN : y.n ≤ N := hyn.out y (by simp)
    obtain ⟨yfn, ypc, yA, yn, yc, ysl⟩ := y
    have hj2 : Fact ((fR (ys0 ++ [⟨yfn, ypc, yA, yn, yc, ysl⟩]))[k * 3 + 2]? = some (.slice yA yn yc)) := ⟨by rw [fR, flatMap_at cR 3 cR_len _ k 2 (by omega), List.getElem?_append_right (by omega), hy0, Nat.sub_self]; rfl⟩
    have hj1 : Fact ((fR (ys0 ++ [⟨yfn, ypc, yA, yn, yc, ysl⟩]))[k * 3 + 1]? = some (.int .i64 ypc)) := ⟨by rw [fR, flatMap_at cR 3 cR_len _ k 1 (by omega), List.getElem?_append_right (by omega), hy0, Nat.sub_self]; rfl⟩
    have hyl := Fact.mk hyl
    dsimp only at hynN
    clear hm hm2 hyd hcap
    go_upto_region 5 with (fail)
    have k1 := hmj.drew.cell (g := g) (t := 36) (fr := (0, 0)) (cs := [.int .i64 v1, .int .i64 v2]) (by simp) 0 rfl
    have k2 := hmj.drew.cell (g := g) (t := 36) (fr := (0, 0)) (cs := [.int .i64 v1, .int .i64 v2]) (by simp) 1 rfl
    have k3 := (hmj.drew.own_cell m0 (k * 3 + 2) hj2.out).1
    rw [← Nat.add_assoc] at k3
    have e2 : IntKind.i64.wrap ((k : Int) + 1 - 1) = (k : Int) := by rw [IntWalk.i64_in _ (by omega)]; omega
    have e3 : IntKind.i64.wrap (k : Int) = (k : Int) := IntWalk.i64_in _ (by omega)
    have e4 : (k : Int) < (k : Int) + 1 := by omega
    have hS : w2.drew.cell? ⟨gA, oA + k * 3 + 2, none⟩ = some (.slice yA yn yc) ∧ w2.drew.cell? ⟨g, 0, none⟩ = some (.int .i64 v1) ∧ w2.drew.cell? ⟨g, 1, none⟩ = some (.int .i64 v2) := ⟨k3, k1, k2⟩
    refine wp_region_until (S := fun W => W.cell? ⟨gA, oA + k * 3 + 2, none⟩ = some (.slice yA yn yc) ∧ W.cell? ⟨g, 0, none⟩ = some (.int .i64 v1) ∧ W.cell? ⟨g, 1, none⟩ = some (.int .i64 v2)) 12 (by kernel_rfl) ?_
    refine wpAnyU_take 0 (v := ?va0) rfl (by kernel_rfl) (by kernel_rfl) (fun _ _ _ h => h) hS (Or.inl ⟨rfl, ?ya0⟩) ?ra0
    case ya0 =>
      intro W hW
      obtain ⟨hW0, hW1, hW2⟩ := hW
      go_simp
      try with_reducible rfl
    try simp only [Act.put, List.setIfInBounds_toArray, List.set_cons_zero, List.set_cons_succ]
    refine wpAnyU_take 1 (v := ?va1) rfl (by kernel_rfl) (by kernel_rfl) (fun _ _ _ h => h) hS (Or.inl ⟨rfl, ?ya1⟩) ?ra1
    case ya1 =>
      intro W hW
      obtain ⟨hW0, hW1, hW2⟩ := hW
      go_simp
      try with_reducible rfl
    try simp only [Act.put, List.setIfInBounds_toArray, List.set_cons_zero, List.set_cons_succ]
    refine wpAnyU_take 2 (v := ?va2) rfl (by kernel_rfl) (by kernel_rfl) (fun _ _ _ h => h) hS (Or.inl ⟨rfl, ?ya2⟩) ?ra2
    case ya2 =>
      intro W hW
      obtain ⟨hW0, hW1, hW2⟩ := hW
      go_simp
      try with_reducible rfl
    try simp only [Act.put, List.setIfInBounds_toArray, List.set_cons_zero, List.set_cons_succ]
    refine wpAnyU_take 3 (v := ?va3) rfl (by kernel_rfl) (by kernel_rfl) (fun _ _ _ h => h) hS (Or.inl ⟨rfl, ?ya3⟩) ?ra3
    case ya3 =>
      intro W hW
      obtain ⟨hW0, hW1, hW2⟩ := hW
      go_simp
      try with_reducible rfl
    try simp only [Act.put, List.setIfInBounds_toArray, List.set_cons_zero, List.set_cons_succ]
    refine wpAnyU_take 4 (v := ?va4) rfl (by kernel_rfl) (by kernel_rfl) (fun _ _ _ h => h) hS (Or.inl ⟨rfl, ?ya4⟩) ?ra4
    case ya4 =>
      intro W hW
      obtain ⟨hW0, hW1, hW2⟩ := hW
      go_simp
      try with_reducible rfl
    try simp only [Act.put, List.setIfInBounds_toArray, List.set_cons_zero, List.set_cons_succ]
    refine wpAnyU_take 5 (v := ?va5) rfl (by kernel_rfl) (by kernel_rfl) (fun _ _ _ h => h) hS (Or.inl ⟨rfl, ?ya5⟩) ?ra5
    case ya5 =>
      intro W hW
      obtain ⟨hW0, hW1, hW2⟩ := hW
      go_simp
      try with_reducible rfl
    try simp only [Act.put, List.setIfInBounds_toArray, List.set_cons_zero, List.set_cons_succ]
    refine wpAnyU_take 6 (v := ?va6) rfl (by kernel_rfl) (by kernel_rfl) (fun _ _ _ h => h) hS (Or.inl ⟨rfl, ?ya6⟩) ?ra6
    case ya6 =>
      intro W hW
      obtain ⟨hW0, hW1, hW2⟩ := hW
      go_simp
      try with_reducible rfl
    try simp only [Act.put, List.setIfInBounds_toArray, List.set_cons_zero, List.set_cons_succ]
    refine wpAnyU_take 7 (v := ?va7) rfl (by kernel_rfl) (by kernel_rfl) (fun _ _ _ h => h) hS (Or.inl ⟨rfl, ?ya7⟩) ?ra7
    case ya7 =>
      intro W hW
      obtain ⟨hW0, hW1, hW2⟩ := hW
      go_simp
      try with_reducible rfl
    try simp only [Act.put, List.setIfInBounds_toArray, List.set_cons_zero, List.set_cons_succ]
    refine wpAnyU_take 8 (v := ?va8) rfl (by kernel_rfl) (by kernel_rfl) (fun _ _ _ h => h) hS (Or.inl ⟨rfl, ?ya8⟩) ?ra8
    case ya8 =>
      intro W hW
      obtain ⟨hW0, hW1, hW2⟩ := hW
      go_simp
      try with_reducible rfl
    try simp only [Act.put, List.setIfInBounds_toArray, List.set_cons_zero, List.set_cons_succ]
    refine wpAnyU_take 9 (v := ?va9) rfl (by kernel_rfl) (by kernel_rfl) (fun _ _ _ h => h) hS (Or.inl ⟨rfl, ?ya9⟩) ?ra9
    case ya9 =>
      intro W hW
      obtain ⟨hW0, hW1, hW2⟩ := hW
      go_simp
      try with_reducible rfl
    try simp only [Act.put, List.setIfInBounds_toArray, List.set_cons_zero, List.set_cons_succ]
    refine wpAnyU_one 10 (by kernel_rfl) rfl (fun K hK => ?_)
    go_simp
    have hm3 := (hmj.alloc (.cells [.int .i64 v1, .int .i64 v2].toArray 36)).drew
    have n1 := hm3.cell (g := g) (t := 36) (fr := (0, 0)) (cs := [.int .i64 v1, .int .i64 v2]) (by simp) 0 rfl
    have n2 := hm3.cell (g := g) (t := 36) (fr := (0, 0)) (cs := [.int .i64 v1, .int .i64 v2]) (by simp) 1 rfl
    have n3 := (hm3.own_cell m1 (k * 3 + 2) hj2.out).1
    rw [← Nat.add_assoc] at n3
    refine hK _ _ (fun _ => ⟨n3, n1, n2⟩) ?_
    clear hK K
    refine wpAnyU_one 11 (by kernel_rfl) rfl (fun K hK => ?_)
    refine step_app rfl _ _ _ rfl 36 iV _ 2 16 ty_Vs hi hz0 hz1 hz2 rfl yA yn yc _ rfl (Mem.mid (A := Blk _ _ :: Own _ _ _ :: slots ys0) hm3) _ 1 1 [.int .i64 v1, .int .i64 v2] rfl ((RdC.lit _ _ _ _ _ rfl (by simp [maxLen]) (cV_one (v1, v2))).gr (Gr.refl _).drew) (by unfold maxLen; omega) (by omega) ?_
    intro B d w5 HM1
    have o1 := HM1.cell (g := g) (t := 36) (fr := (0, 0)) (cs := [.int .i64 v1, .int .i64 v2]) (by simp) 0 rfl
    have o2 := HM1.cell (g := g) (t := 36) (fr := (0, 0)) (cs := [.int .i64 v1, .int .i64 v2]) (by simp) 1 rfl
    obtain ⟨o3, o4⟩ := HM1.own_cell m2 (k * 3 + 2) hj2.out
    rw [← Nat.add_assoc] at o3 o4
    refine hK _ _ (fun _ => ⟨o3, o1, o2⟩) ?_
    clear hK K
    try simp only [Act.put, List.setIfInBounds_toArray, List.set_cons_zero, List.set_cons_succ]
    refine wpAnyU_one 12 (by kernel_rfl) rfl (fun K hK => ?_)
    go_simp
    refine hK _ _ (fun h => absurd h (by decide)) ?_
    clear hK K
    refine wpAnyU_one 13 (by kernel_rfl) rfl (fun K hK => ?_)
    go_simp
    refine hK _ _ (fun h => absurd h (by decide)) ?_
    clear hK K
    refine wpAnyU_one 14 (by kernel_rfl) rfl (fun K hK => ?_)
    go_simp
    refine hK _ _ (fun h => absurd h (by decide)) ?_
    clear hK K
    refine wpAnyU_done (by kernel_rfl) ?_ _
    have hm6 := (HM1.sel 3 [2, 0] (by decide) : Mem w w5 (Own 3 (.slice (some ⟨gA, oA, none⟩) (k + 1) c') _ :: _)).own_set (k * 3 + 2) (by rw [fR_len]; simp; omega) (.slice B (yn + 1) d) rfl
    rw [fR, flatMap_set cR 3 cR_len fr0 _ k 2 ⟨yfn, ypc, B, yn + 1, d, ysl ++ [(v1, v2)]⟩ _ (by simp; omega) (by omega) (by rw [getD_snoc_eq _ _ _ _ hy0.symm]; rfl), List.set_append_right _ _ (by omega), hy0, Nat.sub_self, List.set_cons_zero, ← Nat.add_assoc] at hm6
    clear k1 k2 k3 n1 n2 n3 o1 o2 o3 o4 hS e2 e3 hj2 hj1 hm3 HM1
    generalize w5.setCell _ _ = w6 at hm6 ⊢
    have hj4 : ((ys0 ++ [⟨yfn, ypc, B, yn + 1, d, ysl ++ [(v1, v2)]⟩] : List Fr).flatMap cR)[k * 3 + 1]? = some (.int .i64 ypc) := by rw [flatMap_at cR 3 cR_len _ k 1 (by omega), List.getElem?_append_right (by omega), hy0, Nat.sub_self]; rfl
    obtain ⟨o1, o2⟩ := hm6.own_cell m0 (k * 3 + 1) hj4
    rw [← Nat.add_assoc] at o1 o2
    have hm7 := hm6.own_set (k * 3 + 1) (by rw [flatMap_length cR 3 cR_len]; simp; omega) (.int .i64 (wrap64 (ypc + 1))) rfl
    rw [flatMap_set cR 3 cR_len fr0 _ k 1 ⟨yfn, wrap64 (ypc + 1), B, yn + 1, d, ysl ++ [(v1, v2)]⟩ _ (by simp; omega) (by omega) (by rw [getD_snoc_eq _ _ _ _ hy0.symm]; rfl), List.set_append_right _ _ (by omega), hy0, Nat.sub_self, List.set_cons_zero, ← Nat.add_assoc] at hm7
    have e5 : (k : Int) < (k : Int) + 1 := by omega
    have e6 : (k : Int) + 1 - 1 = (k : Int) := by omega
    clear hm6 hj4
    have fin : ∃ A' m cz zs, Ending.returned (.tuple #[.slice (some ⟨gA, oA, none⟩) (k + 1) c', .bool true]) = .returned (.tuple #[.slice A' m cz, .bool true]) ∧ Mem w (w6.setCell ⟨gA, oA + k * 3 + 1, none⟩ (.int .i64 (wrap64 (ypc + 1)))) (Own 3 (.slice A' m cz) (fR zs) :: slots zs) ∧ zs.map Fr.data = retD xs (v1, v2) ∧ ∀ z, z ∈ zs → z.n ≤ N + 1 := by
      refine ⟨some ⟨gA, oA, none⟩, k + 1, c', ys0 ++ [⟨yfn, wrap64 (ypc + 1), B, yn + 1, d, ysl ++ [(v1, v2)]⟩], rfl, ?_, ?_, fun z hz => ?_⟩
      · rw [slots_app]
        have h3 : Mem w (w6.setCell ⟨gA, oA + k * 3 + 1, none⟩ (.int .i64 (wrap64 (ypc + 1)))) (Own 3 (.slice (some ⟨gA, oA, none⟩) (k + 1) c') (fR (ys0 ++ [⟨yfn, wrap64 (ypc + 1), B, yn + 1, d, ysl ++ [(v1, v2)]⟩])) :: slot ⟨yfn, wrap64 (ypc + 1), B, yn + 1, d, ysl ++ [(v1, v2)]⟩ :: (slots ys0 ++ [Blk g (.cells [.int .i64 v1, .int .i64 v2].toArray 36)])) := by
          have e : fV (ysl ++ [(v1, v2)]) = fV ysl ++ [.int .i64 v1, .int .i64 v2] := by rw [fV_app]; rfl
          unfold slot
          rw [e]
          exact hm7
        exact (h3.perm (.cons _ List.perm_middle.symm)).sub (.cons_cons _ (List.Sublist.append (List.Sublist.refl _) (.cons_cons _ (List.nil_sublist _))))
      · have h1 := hyy.out.1
        have h2 := hyy.out.2
        rw [hrd.out, List.map_append, h1, ← h2]; rfl
      · rcases List.mem_append.1 hz with hz | hz
        · have := hyn.out z (by simp [hz]); omega
        · simp at hz; subst hz; show yn + 1 ≤ N + 1; omega
    have fin := Fact.mk fin
    clear hm7
    go_wp2
    go_ret2
    exact fin.out
  · have hb2 : Fact (decide (2 ≤ n) = false) := ⟨by simpa using h2⟩
    have hrd : Fact (retD xs (v1, v2) = []) := ⟨by unfold retD; rw [if_pos (by have := hl.out; omega)]⟩
    rw [hb2.out]
    have e1 : decide ((n : Int) - 1 < 1) = true := by simp; omega
    go_enter Tryz.func48, Tryz.ntmps48
    go_wp2
    go_ret2
    have hm := (Mem.start w).alloc (.cells [.int .i64 v1, .int .i64 v2].toArray 36)
    exact ⟨none, 0, 0, [], rfl, (hm.nil 3 none).sub (.cons_cons _ (List.nil_sublist _)), by rw [hrd.out]; rfl, fun z hz => by cases hz⟩
end Go.Proofs.YtgflfpepfpekhaaGreat
namespace Go.Proofs.YtgflfpepfpekhaaGreat
open Go.RowKit Go.Mm
set_option maxRecDepth 100000
/-- Frames whose slots lie in the full lists. -/
structure InsOk (N n : Nat) (ins hs : List Fr) : Prop where
  l1 : ins.length = n
  l2 : hs.length = n
  each : ∀ k, k < n → (ins.getD k fr0).A = (hs.getD k fr0).A ∧ (ins.getD k fr0).c = (hs.getD k fr0).c ∧ FullR (ins.getD k fr0) k (hs.getD k fr0) ∧ (ins.getD k fr0).n ≤ N ∧ (ins.getD k fr0).sl.length = (ins.getD k fr0).n
theorem insOk_of {w : World} {N n c : Nat} {A : Option Addr} {xs hs : List Fr} (hx : FrsOk N w A n c xs) (hl : hs.length = n) (hf : ∀ k, k < n → FullR (xs.getD k fr0) k (hs.getD k fr0)) : InsOk N n (List.zipWith lentR xs hs) hs ∧ (List.zipWith lentR xs hs).map Fr.data = xs.map Fr.data := by
  have hxl := hx.len
  have e : ∀ k, k < n → (List.zipWith lentR xs hs).getD k fr0 = lentR (xs.getD k fr0) (hs.getD k fr0) := fun k hk => by
    have h1 := getD_some xs fr0 k (by omega)
    have h2 := getD_some hs fr0 k (by omega)
    rw [List.getD_eq_getElem?_getD, List.getElem?_zipWith, h1, h2]
    rfl
  refine ⟨⟨by rw [List.length_zipWith]; omega, hl, fun k hk => ?_⟩, ?_⟩
  · rw [e k hk]
    have hm : xs.getD k fr0 ∈ xs := List.mem_of_getElem? (getD_some xs fr0 k (by omega))
    exact ⟨rfl, rfl, hf k hk, (hx.each _ hm).2, (hx.each _ hm).len⟩
  · apply List.ext_getElem?
    intro k
    rw [List.getElem?_map, List.getElem?_map, List.getElem?_zipWith]
    by_cases hk : k < n
    · have h1 := getD_some xs fr0 k (by omega)
      have h2 := getD_some hs fr0 k (by omega)
      rw [h1, h2]
      rfl
    · rw [List.getElem?_eq_none (by omega), List.getElem?_eq_none (l := hs) (by omega)]
theorem InsOk.set {N n : Nat} {ins hs : List Fr} (h : InsOk N n ins hs) (q : Nat) (hq : q < n) (y : Fr) (hy : y.A = (ins.getD q fr0).A ∧ y.n = (ins.getD q fr0).n ∧ y.c = (ins.getD q fr0).c ∧ y.sl = (ins.getD q fr0).sl) : InsOk N n (ins.set q y) hs := by
  obtain ⟨a1, a2, a3, a4⟩ := hy
  refine ⟨by simpa using h.l1, h.l2, fun k hk => ?_⟩
  rw [getD_set _ _ _ _ _ (by have := h.l1; omega)]
  by_cases e : k = q
  · subst e
    rw [if_pos rfl]
    obtain ⟨b1, b2, ⟨b3, b4, b5, b6⟩, b7, b8⟩ := h.each k hk
    exact ⟨a1.trans b1, a3.trans b2, ⟨b3, b4, by rw [b5, a2], by rw [b6, a4]⟩, by rw [a2]; exact b7, by rw [a4, a2]; exact b8⟩
  · rw [if_neg e]
    exact h.each k hk
theorem InsOk.lent {N n d : Nat} {ins hs : List Fr} {w0 w : World} {B : Option Addr} {L : List Chunk} (h : InsOk N n ins hs) (hm : Mem w0 w L) (h1 : Own 3 (.slice B (n + n + 64) d) (fR (ins ++ (hs ++ marksR n 64))) ∈ L) (h2 : ∀ x, x ∈ hs → slot x ∈ L) : LentR w N B n d ins hs := by
  have hh : ∀ k, k < n → RdC w 2 (.slice (hs.getD k fr0).A (hs.getD k fr0).n (hs.getD k fr0).c) (fV (hs.getD k fr0).sl) := fun k hk =>
    hm.rd (h2 _ (List.mem_of_getElem? (getD_some hs fr0 k (by have := h.l2; omega))))
  refine ⟨hm.rd h1, h.l1, h.l2, fun k hk => (h.each k hk).2.2.1, fun k hk => ?_, hh⟩
  obtain ⟨b1, b2, ⟨b3, b4, b5, b6⟩, b7, b8⟩ := h.each k hk
  refine ⟨?_, b7⟩
  have r := hh k hk
  rw [b5, b6] at r
  rw [b1, b2]
  exact rd_pre cV_len r b8
theorem retD_data {xs ys : List Fr} (h : xs.map Fr.data = ys.map Fr.data) (v : V2) : retD xs v = retD ys v := by
  have hl : xs.length = ys.length := data_len h
  unfold retD
  rw [hl]
  split
  · rfl
  · rename_i h2
    congr 1
    · rw [List.map_take, List.map_take, h]
    · congr 2
      have h1 : (xs.map Fr.data)[ys.length - 2]? = (ys.map Fr.data)[ys.length - 2]? := by rw [h]
      rw [List.getElem?_map, List.getElem?_map, getD_some xs fr0 _ (by omega), getD_some ys fr0 _ (by omega)] at h1
      simpa using h1
theorem perm_apart {α : Type} (o a b i : α) (NX S1 S2 Z : List α) : (o :: (NX ++ ((b :: S2) ++ (i :: ((a :: S1) ++ Z))))).Perm ((S1 ++ S2) ++ (a :: b :: (o :: (i :: (Z ++ NX))))) := by
  classical
  rw [List.perm_iff_count]
  intro x
  simp only [List.count_cons, List.count_append]
  omega
theorem mem_front {w0 w : World} {X Y Z : List Chunk} {i : Chunk} (h : Mem w0 w (X ++ (Y ++ (i :: Z)))) : Mem w0 w (i :: ((X ++ Y) ++ Z)) := by
  rw [← List.append_assoc] at h
  exact h.mid
theorem frs_mem {N : Nat} {w0 w : World} {A : Option Addr} {n c : Nat} {zs : List Fr} {L : List Chunk} (h : Mem w0 w L) (h1 : Own 3 (.slice A n c) (fR zs) ∈ L) (h2 : ∀ z, z ∈ zs → slot z ∈ L) (hz : ∀ z, z ∈ zs → z.n ≤ N) : FrsOk N w A n c zs := ⟨h.rd h1, fun f hf => ⟨h.rd (h2 f hf), hz f hf⟩⟩
end Go.Proofs.YtgflfpepfpekhaaGreat
namespace Go.Proofs.YtgflfpepfpekhaaGreat
open Go.RowKit Go.Mm Go.WideShapes
set_option maxHeartbeats 4000000
set_option maxRecDepth 100000
set_option linter.unusedSimpArgs false
theorem frs_ofU {N : Nat} {w0 w : World} {A : Option Addr} {n c : Nat} {zs : List Fr} (h : Mem w0 w (Own 3 (.slice A n c) (fR zs) :: slots zs)) (hz : ∀ z, z ∈ zs → z.n ≤ N) : FrsOk N w A n c zs := ⟨h.rd m0, fun f hf => ⟨h.rd (.tail _ (slots_mem hf)), hz f hf⟩⟩
theorem catchD_len (p : Pg) (v : V2) (D : List FrD) : ∀ n, ((catchD p v D n).getD []).length ≤ n
  | 0 => by simp [catchD]
  | n + 1 => by
    rw [catchD]
    cases takesG (fnAt p (D.getD n d0).1) (D.getD n d0).2.1 (D.getD n d0).2.2.length with
    | none => exact Nat.le_succ_of_le (catchD_len p v D n)
    | some x => obtain ⟨t, st⟩ := x; simp; omega
end Go.Proofs.YtgflfpepfpekhaaGreat
namespace Go.Proofs.YtgflfpepfpekhaaGreat
open Go.RowKit Go.Mm
set_option maxHeartbeats 1000000
set_option maxRecDepth 100000
set_option linter.unusedSimpArgs false
def hitR (pc locals : Int) (m : Nat) (h : H4) : Bool := decide (h.1 ≤ pc) && decide (pc < h.2.1) && decide (0 ≤ h.2.2.2) && decide (0 ≤ locals) && decide (h.2.2.2 ≤ (m : Int)) && decide (locals ≤ (m : Int) - h.2.2.2)
theorem takesG_ref (g : Fn) (pc : Int) (m : Nat) : takesG (some g) pc m = (g.hands.find? (hitR pc g.locals m)).map fun h => (h.2.2.1, (g.locals + h.2.2.2).toNat) := by
  unfold takesG
  by_cases hl : 0 ≤ g.locals ∧ g.locals ≤ m
  · simp only [if_pos hl]
    congr 2
    funext h
    unfold hit hitR
    rw [Bool.eq_iff_iff]
    simp only [Bool.and_eq_true, decide_eq_true_eq]
    omega
  · simp only [if_neg hl]
    have : g.hands.find? (hitR pc g.locals m) = none := by
      rw [List.find?_eq_none]
      intro h _
      unfold hitR
      simp only [Bool.and_eq_true, decide_eq_true_eq]
      omega
    rw [this]
    rfl
/-- The answer: the handler's number, or -1. -/
def TakesI (G : Option Fn) (pc : Int) (m : Nat) (e : Ending) : Prop :=
  match takesG G pc m with
  | none => e = .returned (.int .i64 (-1))
  | some (t, st) => ∃ (k : Nat) (g : Fn), e = .returned (.int .i64 (k : Int)) ∧ G = some g ∧ k < g.hn ∧ (g.hands.getD k (0, 0, 0, 0)).2.2.1 = t ∧ g.locals + (g.hands.getD k (0, 0, 0, 0)).2.2.2 = (st : Int) ∧ st ≤ m
theorem takesI_none {g : Fn} {pc : Int} {m : Nat} (h : g.hands.find? (hitR pc g.locals m) = none) : TakesI (some g) pc m (.returned (.int .i64 (-1))) := by
  unfold TakesI
  rw [takesG_ref, h]
  rfl
theorem takesI_some {g : Fn} {pc : Int} {m k : Nat} (hk : k < g.hn) (h : g.hands.find? (hitR pc g.locals m) = some (g.hands.getD k (0, 0, 0, 0))) (h1 : 0 ≤ g.locals + (g.hands.getD k (0, 0, 0, 0)).2.2.2) (h2 : g.locals + (g.hands.getD k (0, 0, 0, 0)).2.2.2 ≤ m) : TakesI (some g) pc m (.returned (.int .i64 (k : Int))) := by
  unfold TakesI
  rw [takesG_ref, h]
  exact ⟨k, g, rfl, rfl, hk, rfl, (Int.toNat_of_nonneg h1).symm, by omega⟩
theorem refTakes_ok (w : World) (p : Pg) (hp : Fact (PgOk w p)) (f : Fr) (hn : f.n ≤ 2000000) :
    Calls Tryz.prog 75 #[vP p, .agg (cR f).toArray] w fun e w' => TakesI (fnAt p f.fn) f.pc f.n e ∧ Gr w w' := by
  have hf := fun (w1 : World) (hg : Gr w w1) => refFunction_ok w1 p ⟨hp.out.gr hg⟩ f.fn
  have hfa : Fact (∀ g, fnAt p f.fn = some g → ∃ b o k, f.fn = ((k : Nat) : Int) ∧ p.fA = some ⟨b, o, none⟩ ∧ w.rangeAt b (o + k * 5) (cF g) ∧ k < p.fn ∧ FnOk w g ∧ g.hn ≤ 1048576) := ⟨fun g h => by
    unfold fnAt at h
    split at h
    · rename_i hi
      cases h
      have hl : p.fns.length = p.fn := rd_len cF_len (by omega) hp.out.fns
      have hm : p.fns.getD f.fn.toNat fn0 ∈ p.fns := List.mem_of_getElem? (getD_some p.fns fn0 f.fn.toNat (by omega))
      obtain ⟨b, o, eA, hr, _, _⟩ := rd_at cF_len (by omega) fn0 hp.out.fns f.fn.toNat (by omega)
      exact ⟨b, o, f.fn.toNat, by omega, eA, hr, by omega, hp.out.each _ hm, (hp.out.small.2 _ hm).1⟩
    · cases h⟩
  generalize fnAt p f.fn = G at hf hfa ⊢
  obtain ⟨kA, kn, kc, consts, fA, fnn, fc, fns⟩ := p
  obtain ⟨fnum, pc, sA, n, sc, sl⟩ := f
  simp only [vP, cR] at hf hn hfa ⊢
  go_enter Tryz.func75, Tryz.ntmps75
  go_upto_region 1 with (fail)
  have hm := (((Mem.start w).alloc (.cells [.slice kA kn kc, .slice fA fnn fc].toArray 26)).alloc (.cells [.int .i64 fnum, .int .i64 pc, .slice sA n sc].toArray 30))
  simp only [World.size_alloc] at hm
  generalize hgX : w.heap.size = g at hm ⊢
  generalize hwX : ((w.alloc (.cells [.slice kA kn kc, .slice fA fnn fc].toArray 26)).alloc (.cells [.int .i64 fnum, .int .i64 pc, .slice sA n sc].toArray 30)) = w1 at hm
  try refine wp_world hwX ?_
  clear hwX hgX
  have c3 := hm.cell m0 0 rfl
  go_wp2_with (refine wp_rng rfl 26 _ rfl g 0 rfl [.slice kA kn kc, .slice fA fnn fc] (rng_blk hm m1) row_P szP ?_)
  refine (hf w1 hm.below).mono ?_
  rintro e w2 ⟨rfl, hg2⟩
  have hm2 := hm.gr hg2
  clear hm c3 hg2 hf
  cases G with
  | none =>
    have hfin := Fact.mk hm2.below
    simp only [Option.isSome_none]
    go_wp2
    go_ret
    exact ⟨rfl, hfin.out⟩
  | some G =>
    obtain ⟨b, o, j, rfl, e, r1, hkf, hG, hGn⟩ := hfa.out G rfl
    try dsimp only at e hkf
    subst e
    clear hfa
    have r1 := rng_gr r1 hm2.below
    have hlen := Fact.mk (rdH_len hG.2)
    have hr := Fact.mk hG.2
    simp only [Option.isSome_some]
    clear hG
    obtain ⟨name, params, locals, cA, cn, cc, code, hA, hhn, hhc, hands⟩ := G
    simp only [cF] at hGn hr hlen r1
    have c1 := hm2.cell m1 1 rfl
    have c3 := hm2.cell m0 0 rfl
    go_upto_region 4 with (first | (refine wp_rng rfl 47 _ rfl b _ rfl [.string name, .int .i64 params, .int .i64 locals, .slice cA cn cc, .slice hA hhn hhc] r1 row_F szF ?_) | (refine wp_setrow rfl 47 _ _ rfl _ rfl 47 _ [.string name, .int .i64 params, .int .i64 locals, .slice cA cn cc, .slice hA hhn hhc] rfl (hm2.alloc _) szF rfl (cF_one ⟨name, params, locals, cA, cn, cc, code, hA, hhn, hhc, hands⟩) ?_; intro w3 hm3))
    generalize w2.heap.size = gF at hm3 ⊢
    clear c1 c3 r1 hm2
    go_wp2
    go_loopw [6] (fun v w' => ∃ (k : Nat), v = .int .i64 k ∧ k ≤ hhn ∧ (∀ j, j < k → hitR pc locals n (hands.getD j (0, 0, 0, 0)) = false) ∧ Mem w w' [Blk gF (.cells [.string name, .int .i64 params, .int .i64 locals, .slice cA cn cc, .slice hA hhn hhc].toArray 47), Blk (g + 1) (.cells [.int .i64 (j : Int), .int .i64 pc, .slice sA n sc].toArray 30)]) (fun v _ => hhn - (intOf v).toNat)
    case atStart => exact ⟨0, rfl, by omega, fun j hj => by omega, hm3.sub (.cons_cons _ (.cons_cons _ (List.nil_sublist _)))⟩
    case round =>
      clear hm3
      obtain ⟨k, rfl, hk, hno, hm⟩ := hrel
      have hno := Fact.mk hno
      have q4 := hm.cell m0 4 rfl
      by_cases hlt : k < hhn
      · obtain ⟨b, o, rfl, r1, _, _⟩ := rd_at cH_len (by omega) (0, 0, 0, 0) hr.out k hlt
        have r1 := rng_gr r1 hm.below
        have hxe : ∃ x, Fact (hands.getD k (0, 0, 0, 0) = x) := ⟨_, ⟨rfl⟩⟩
        obtain ⟨x, hxe⟩ := hxe
        rw [hxe.out] at r1
        go_upto_region 8 with (first | (refine wp_rng rfl 43 _ rfl b _ rfl (cH x) r1 row_Hh szHh ?_) | (refine wp_setrow rfl 43 _ _ rfl _ rfl 43 _ (cH x) rfl (hm.alloc _) szHh rfl (cH_one _) ?_; intro w4 hm4))
        generalize wr.heap.size = g9 at hm4 ⊢
        have c1 := hm4.cell m0 0 rfl
        have c2 := hm4.cell m0 1 rfl
        have c4 := hm4.cell m0 3 rfl
        have c5 := hm4.cell m2 1 rfl
        have c6 := hm4.cell m2 2 rfl
        have c7 := hm4.cell m1 2 rfl
        obtain ⟨x1, x2, x3, x4⟩ := x
        have hxb : Fact (hitR pc locals n (x1, x2, x3, x4) = (decide (x1 ≤ pc) && decide (pc < x2) && decide (0 ≤ x4) && decide (0 ≤ locals) && decide (x4 ≤ (n : Int)) && decide (locals ≤ (n : Int) - x4))) := ⟨rfl⟩
        dsimp only at c1 c2 c4
        have hnext : Fact (hitR pc locals n (x1, x2, x3, x4) = false → ∀ j, j < k + 1 → hitR pc locals n (hands.getD j (0, 0, 0, 0)) = false) := ⟨fun h j hj => by
          rcases Nat.lt_succ_iff_lt_or_eq.1 hj with hj | rfl
          · exact hno.out j hj
          · rw [hxe.out]; exact h⟩
        have hm5 := Fact.mk hm4.tail
        clear r1 q4
        by_cases hA1 : x1 ≤ pc
        · by_cases hA2 : pc < x2
          · by_cases hA3 : 0 ≤ x4
            · by_cases hA4 : 0 ≤ locals
              · by_cases hA5 : x4 ≤ (n : Int)
                · have e1 : IntKind.i64.wrap ((n : Int) - x4) = n - x4 := IntWalk.i64_in _ (by omega)
                  by_cases hA6 : locals ≤ (n : Int) - x4
                  · have hy : hitR pc locals n (hands.getD k (0, 0, 0, 0)) = true := by rw [hxe.out, hxb.out]; simp [hA1, hA2, hA3, hA4, hA5, hA6]
                    have hfn := Fact.mk (find_at (hitR pc locals n) (0, 0, 0, 0) hands k (by have := hlen.out; omega) hno.out hy)
                    have hfin := takesI_some (g := ⟨name, params, locals, cA, cn, cc, code, (some ⟨b, o, none⟩), hhn, hhc, hands⟩) (pc := pc) (m := n) hlt hfn.out (by rw [hxe.out]; show 0 ≤ locals + x4; omega) (by rw [hxe.out]; show locals + x4 ≤ n; omega)
                    have hfin := Fact.mk (And.intro hfin hm5.out.below)
                    clear hy hfn hm4
                    go_wp2
                    go_ret
                    exact hfin.out
                  · go_wp2
                    go_roundw
                    case rel => exact ⟨k + 1, by go_num, by omega, hnext.out (by rw [hxb.out]; simp [hA6]), hm5.out⟩
                    case measure => simp [intOf]; omega
                · go_wp2
                  go_roundw
                  case rel => exact ⟨k + 1, by go_num, by omega, hnext.out (by rw [hxb.out]; simp [hA5]), hm5.out⟩
                  case measure => simp [intOf]; omega
              · go_wp2
                go_roundw
                case rel => exact ⟨k + 1, by go_num, by omega, hnext.out (by rw [hxb.out]; simp [hA4]), hm5.out⟩
                case measure => simp [intOf]; omega
            · go_wp2
              go_roundw
              case rel => exact ⟨k + 1, by go_num, by omega, hnext.out (by rw [hxb.out]; simp [hA3]), hm5.out⟩
              case measure => simp [intOf]; omega
          · go_wp2
            go_roundw
            case rel => exact ⟨k + 1, by go_num, by omega, hnext.out (by rw [hxb.out]; simp [hA2]), hm5.out⟩
            case measure => simp [intOf]; omega
        · go_wp2
          go_roundw
          case rel => exact ⟨k + 1, by go_num, by omega, hnext.out (by rw [hxb.out]; simp [hA1]), hm5.out⟩
          case measure => simp [intOf]; omega
      · obtain rfl : k = hhn := by omega
        have hfn : Fact (hands.find? (hitR pc locals n) = none) := ⟨find_no _ (0, 0, 0, 0) hands (fun i hi => hno.out i (by have := hlen.out; omega))⟩
        have hfin := Fact.mk (And.intro (takesI_none (g := ⟨name, params, locals, cA, cn, cc, code, hA, k, hhc, hands⟩) (pc := pc) (m := n) hfn.out) hm.below)
        clear hfn
        go_wp2
        go_ret
        exact hfin.out
end Go.Proofs.YtgflfpepfpekhaaGreat
