/- Lemmas of the heap (a part of the heap's texts; written by slice.py). -/
import Derived.BigQuiet
import Derived.Carry
import Derived.ChangeKeysEq
import Derived.Deep.CutBlock
import Derived.Deep.DeepCutAuto
import Derived.Deep.DeepFit
import Derived.Deep.DeepMust
import Derived.Deep.Draws
import Derived.Deep.LoopGhost
import Derived.Deep.MidRow
import Derived.Deep.QuietTactic
import Derived.Deep.RegionHeld3
import Derived.Deep.RegionLaw
import Derived.Deep.Slices
import Derived.KernelRfl
import Derived.Laws.MakeOwn
import Derived.Lib.SliceRun
import Derived.Maps.Own
import Derived.Maps.OwnSet
import Derived.Maps.Views
import Derived.OpenShut
import Derived.OrdersHeld
import Derived.Outline
import Derived.OwnWalk
import Derived.SizedLaws
import Derived.StillTail
import Derived.StillTailTactics
import Derived.WalkKit
import Derived.WalkSpells
import Derived.Test.YtgflfpepfpekhaaGreatProg
import Derived.Test.YtgflfpepfpekhaaGreatFKa
set_option linter.unusedVariables false
set_option linter.unusedSimpArgs false
namespace Go.Proofs.YtgflfpepfpekhaaGreat
open Go.RowKit Go.Mm
set_option maxHeartbeats 1000000
set_option maxRecDepth 100000
theorem inf_R : (Tryz.prog.info? 30).map (fun i => (i.zero, i.size, i.bytes)) = some (some (.agg #[.int .i64 0, .int .i64 0, .slice none 0 0]), 3, 40) := by kernel_rfl
theorem ty_Rs : Tryz.prog.underlying 38 = some (.slice 30) := by kernel_rfl
def Fr.v (f : Fr) : Value := .slice f.A f.n f.c
def Fr.cs (f : Fr) : List Value := fV f.sl
def slot (y : Fr) : Chunk := Own 2 (.slice y.A y.n y.c) (fV y.sl)
/-- The slots of frames, each a chunk of its own. -/
def slots (ys : List Fr) : List Chunk := ys.map slot
theorem slots_app (xs ys : List Fr) : slots (xs ++ ys) = slots xs ++ slots ys := by simp [slots]
theorem slots_snoc {w0 w : World} {L : List Chunk} {ys : List Fr} (y : Fr) {a : Chunk} (h : Mem w0 w (slot y :: a :: (slots ys ++ L))) : Mem w0 w (a :: (slots (ys ++ [y]) ++ L)) := by
  refine h.perm ?_
  rw [slots_app]
  have e : a :: (slots ys ++ slots [y] ++ L) = (a :: slots ys) ++ (slot y :: L) := by simp [slots]
  rw [e]
  exact (List.perm_middle (l₁ := a :: slots ys)).symm
theorem slots_mem {ys : List Fr} {y : Fr} (h : y ∈ ys) : slot y ∈ slots ys := List.mem_map.2 ⟨y, h, rfl⟩
theorem data_at {xs ys : List Fr} {k : Nat} (h : ys.map Fr.data = (xs.take k).map Fr.data) (hk : k < xs.length) (y : Fr) (hy : y.data = (xs.getD k fr0).data) : (ys ++ [y]).map Fr.data = (xs.take (k + 1)).map Fr.data := by
  rw [take_snoc xs fr0 k hk, List.map_append, List.map_append, h, List.map_singleton, List.map_singleton, hy]
theorem fR_len (xs : List Fr) : (fR xs).length = xs.length * 3 := flatMap_length cR 3 cR_len xs
/-- The next of the frames laid down. -/
theorem fR_put (ys : List Fr) (m : Nat) (y : Fr) : (fR (ys ++ List.replicate (m + 1) fr0)).take (ys.length * 3) ++ cR y ++ (fR (ys ++ List.replicate (m + 1) fr0)).drop (ys.length * 3 + (cR y).length) = fR (ys ++ [y] ++ List.replicate m fr0) := by
  have h1 : fR (ys ++ List.replicate (m + 1) fr0) = fR ys ++ (cR fr0 ++ fR (List.replicate m fr0)) := by simp [fR, List.replicate_succ]
  have hl := fR_len ys
  rw [h1, List.take_append_of_le_length (by omega), List.take_of_length_le (by omega), List.drop_append, List.drop_eq_nil_of_le (by omega), List.nil_append, show ys.length * 3 + (cR y).length - (fR ys).length = (cR fr0).length by rw [hl, cR_len, cR_len]; omega, List.drop_left]
  simp [fR]
theorem fR_set (ys zs : List Fr) (y : Fr) (A : Option Addr) (n c : Nat) (sl : List V2) : (fR (ys ++ [y] ++ zs)).set (ys.length * 3 + 2) (.slice A n c) = fR (ys ++ [{ y with A := A, n := n, c := c, sl := sl }] ++ zs) := by
  have h1 : fR (ys ++ [y] ++ zs) = fR ys ++ (cR y ++ fR zs) := by simp [fR]
  have hl := fR_len ys
  rw [h1, List.set_append_right _ _ (by omega), hl, Nat.add_sub_cancel_left]
  simp [fR, cR]
theorem fR_at2 (ys zs : List Fr) (y : Fr) : (fR (ys ++ [y] ++ zs))[ys.length * 3 + 2]? = some (.slice y.A y.n y.c) := by
  have h1 : fR (ys ++ [y] ++ zs) = fR ys ++ (cR y ++ fR zs) := by simp [fR]
  have hl := fR_len ys
  rw [h1, List.getElem?_append_right (by omega), hl, Nat.add_sub_cancel_left]
  rfl
theorem copied_ok (w : World) (N : Nat) (A : Option Addr) (n c : Nat) (xs : List Fr) (hx : Fact (FrsOk N w A n c xs)) (hn : n ≤ 1048577) (hN : N ≤ 2000000) :
    Calls Tryz.prog 19 #[.slice A n c] w fun e w' => ∃ g ys, e = .returned (.slice (some ⟨g, 0, none⟩) n n) ∧ Mem w w' (Own 3 (.slice (some ⟨g, 0, none⟩) n n) (fR ys) :: slots ys) ∧ ys.map Fr.data = xs.map Fr.data ∧ ∀ y, y ∈ ys → y.n ≤ N := by
  obtain ⟨iR, hi, hz0, hz1, hz2⟩ := info_parts inf_R
  obtain ⟨iV, hi', hz0', hz1', hz2'⟩ := info_parts inf_V
  have hl := Fact.mk hx.out.len
  go_enter Tryz.func19, Tryz.ntmps19
  go_wp2_with (at_make; refine wp_make cR fr0 3 40 (by omega) cR_len cR_one rfl _ _ _ 30 rfl ty_Rs iR _ hi hz0 hz1 hz2 rfl _ n rfl rfl rfl (by omega) (by unfold maxLen; omega) (Mem.start w) ?_; intro g w1 hm)
  go_loopw [11] (fun v w' => ∃ (k : Nat) (ys : List Fr), v = .int .i64 k ∧ k ≤ n ∧ Mem w w' (Own 3 (.slice (some ⟨g, 0, none⟩) n n) (fR (ys ++ List.replicate (n - k) fr0)) :: (slots ys ++ [])) ∧ Fact (ys.map Fr.data = (xs.take k).map Fr.data ∧ (∀ y, y ∈ ys → y.n ≤ N) ∧ ys.length = k)) (fun v _ => n - (intOf v).toNat)
  case atStart => exact ⟨0, [], rfl, by omega, by simpa [fR, slots] using hm, ⟨by simp, by simp, rfl⟩⟩
  case round =>
    clear hm
    obtain ⟨k, ys, rfl, hk, hm, hd⟩ := hrel
    by_cases hlt : k < n
    · obtain ⟨b, o, rfl, r1, hok, _⟩ := hx.out.at k hlt
      have hxe : ∃ x, Fact (xs.getD k fr0 = x) := ⟨_, ⟨rfl⟩⟩
      obtain ⟨x, hxe⟩ := hxe
      rw [hxe.out] at r1 hok
      have r1 := rng_gr r1 hm.below
      have hok0 := hok
      have hok := hok.gr hm.below
      obtain ⟨xfn, xpc, xA, xn, xc, xsl⟩ := x
      obtain ⟨m, hm1⟩ : ∃ m, n - k = m + 1 := ⟨n - k - 1, by omega⟩
      rw [hm1] at hm
      go_upto_region 5 with (first | (refine wp_rng rfl 30 _ rfl b _ rfl [.int .i64 xfn, .int .i64 xpc, .slice xA xn xc] r1 row_R szR ?_) | (refine wp_setrow rfl 30 _ _ rfl _ rfl 30 _ [.int .i64 xfn, .int .i64 xpc, .slice xA xn xc] rfl (hm.alloc _) szR rfl (cR_one ⟨xfn, xpc, xA, xn, xc, xsl⟩) ?_; intro w4 hm4))
      generalize wr.heap.size = g4 at hm4 ⊢
      have hyl := hd.out.2.2
      have hput := Fact.mk (fR_put ys m ⟨xfn, xpc, xA, xn, xc, xsl⟩)
      have hat := Fact.mk (fR_at2 ys (List.replicate m fr0) ⟨xfn, xpc, xA, xn, xc, xsl⟩)
      have hset := Fact.mk (fun A n c => fR_set ys (List.replicate m fr0) ⟨xfn, xpc, xA, xn, xc, xsl⟩ A n c xsl)
      rw [hyl] at hput hat hset
      have hlen1 : (fR (ys ++ List.replicate (m + 1) fr0)).length = n * 3 := by rw [fR_len]; simp; omega
      have hlen1 := Fact.mk hlen1
      have hlen2 : (fR (ys ++ [⟨xfn, xpc, xA, xn, xc, xsl⟩] ++ List.replicate m fr0)).length = n * 3 := by rw [fR_len]; simp; omega
      have hlen2 := Fact.mk hlen2
      clear hyl
      go_upto_region 6 with (first | (refine wp_rng rfl 30 _ rfl g4 0 rfl (cR ⟨xfn, xpc, xA, xn, xc, xsl⟩) (rng_blk hm4 m0) row_R szR ?_) | (refine wp_ownrow rfl 30 _ _ rfl (k * 3) (k * 3) (by omega) rfl (cR ⟨xfn, xpc, xA, xn, xc, xsl⟩) rfl hm4.swap szR (by rw [hlen1.out, cR_len]; omega) (cR_one _) ?_; intro w5 hm5; rw [hput.out] at hm5))
      have c1 := hm5.cell m1 2 rfl
      have hrs : RdC w5 2 (.slice xA xn xc) (fV xsl) := hok0.1.gr hm5.below
      have hxn : xn ≤ N := hok.2
      have hat2 : (fR (ys ++ [⟨xfn, xpc, xA, xn, xc, xsl⟩] ++ List.replicate m fr0))[k * 3 + 2]? = some (.slice xA xn xc) := hat.out
      clear hput hlen1
      go_wp2_with (at_builtin; refine wp_app rfl _ _ _ rfl 36 iV _ 2 16 ty_Vs hi' hz0' hz1' hz2' rfl none 0 0 [] rfl (hm5.nil 2 none) xA xn xc _ rfl hrs (by unfold maxLen; omega) (by omega) ?_; intro A1 c2 w6 HM1; have HM2 := HM1.swap; have hcc := HM2.own_cell m0 (k * 3 + 2) hat2; rw [Nat.zero_add] at hcc; have hc1 := hcc.1; have hc2 := hcc.2)
      go_roundw
      case rel =>
        have HM3 := HM2.own_set (k * 3 + 2) (by rw [hlen2.out]; omega) (.slice A1 xn c2) rfl
        rw [Nat.zero_add, hset.out, Nat.zero_add, List.nil_append] at HM3
        have HM4 := (HM3.sub (.cons_cons _ (.cons_cons _ (.cons _ (List.Sublist.refl _))))).swap
        have HM5 := slots_snoc (⟨xfn, xpc, A1, xn, c2, xsl⟩ : Fr) HM4
        have hd1 := hd.out.1
        have hd2 := hd.out.2.1
        have hd3 := hd.out.2.2
        refine ⟨k + 1, ys ++ [⟨xfn, xpc, A1, xn, c2, xsl⟩], by go_num, by omega, ?_, ⟨data_at hd1 (by have := hl.out; omega) _ (by rw [hxe.out]; rfl), fun y hy => ?_, by simp [hd3]⟩⟩
        · rw [show n - (k + 1) = m by omega]; exact HM5
        · rcases List.mem_append.1 hy with hy | hy
          · exact hd2 y hy
          · simp at hy; subst hy; exact hxn
      case measure => simp [intOf]; omega
    · obtain rfl : k = n := by omega
      have hd := hd.out
      rw [List.take_of_length_le (by have := hl.out; omega)] at hd
      go_wp2
      go_ret
      exact ⟨g, ys, rfl, by simpa using hm, hd.1, hd.2.1⟩
end Go.Proofs.YtgflfpepfpekhaaGreat
namespace Go.Proofs.YtgflfpepfpekhaaGreat
open Go.RowKit Go.Mm
set_option maxHeartbeats 1000000
set_option maxRecDepth 100000
/-- What a function begins with. -/
def enterG (G : Option Fn) (m : Nat) : Bool :=
  match G with
  | none => false
  | some g => decide (g.params = m) && decide ((m : Int) ≤ g.locals) && decide (g.locals ≤ 64)
def enterD (G : Option Fn) (fn : Int) (args : List V2) : FrD :=
  if enterG G args.length then (fn, 0, args ++ List.replicate (((G.getD fn0).locals).toNat - args.length) (0, 0)) else (0, 0, [])
theorem enter_ok (w : World) (p : Pg) (hp : Fact (PgOk w p)) (fn : Int) (A : Option Addr) (m c : Nat) (args : List V2) (hx : Fact (RdC w 2 (.slice A m c) (fV args))) (hm0 : m ≤ 4194304) :
    Calls Tryz.prog 7 #[vP p, .int .i64 fn, .slice A m c] w fun e w' => ∃ y : Fr, e = .returned (.tuple #[.agg (cR y).toArray, .bool (enterG (fnAt p fn) m)]) ∧ y.data = enterD (fnAt p fn) fn args ∧ New w w' (slot y) := by
  have hf := fun (w1 : World) (hg : Gr w w1) => function_ok w1 p ⟨hp.out.gr hg⟩ fn
  have hal : Fact (args.length = m) := ⟨rdV_len hx.out⟩
  have hED : enterD (fnAt p fn) fn args = (if enterG (fnAt p fn) m then (fn, 0, args ++ List.replicate ((((fnAt p fn).getD fn0).locals).toNat - m) (0, 0)) else (0, 0, [])) := by unfold enterD; rw [hal.out]
  have hED := Fact.mk hED
  generalize enterD (fnAt p fn) fn args = ED at hED ⊢
  generalize fnAt p fn = G at hf hED ⊢
  generalize hEGe : enterG G m = EG at hED ⊢
  have hEG := Fact.mk hEGe
  clear hEGe
  obtain ⟨iV, hi, hz0, hz1, hz2⟩ := info_parts inf_V
  obtain ⟨kA, kn, kc, consts, fA, fnn, fc, fns⟩ := p
  simp only [vP] at hf ⊢
  go_enter Tryz.func7, Tryz.ntmps7
  go_upto_region 1 with (fail)
  have hm := (((Mem.start w).alloc (.cells [.slice kA kn kc, .slice fA fnn fc].toArray 26)).alloc (.cells (cR fr0).toArray 30))
  simp only [World.size_alloc] at hm
  generalize hgX : w.heap.size = g at hm ⊢
  generalize hwX : ((w.alloc (.cells [.slice kA kn kc, .slice fA fnn fc].toArray 26)).alloc (.cells (cR fr0).toArray 30)) = w1 at hm
  try refine wp_world hwX ?_
  clear hwX hgX
  have c1 := hm.cell m1 0 rfl
  have c2 := hm.cell m1 1 rfl
  go_wp2_with fail
  refine (hf w1 hm.below).mono ?_
  rintro e w2 ⟨rfl, hg2⟩
  have hm2 := hm.gr hg2
  clear hm c1 c2 hg2 hf
  cases G with
  | none =>
    obtain rfl : EG = false := hEG.out.symm
    go_upto_region 2 with (refine wp_setrow rfl 47 _ _ rfl _ rfl 47 _ (cF fn0) rfl (hm2.alloc _) szF rfl (cF_one _) ?_; intro w3 hm3)
    generalize w2.heap.size = g8 at hm3 ⊢
    go_wp2_with (refine wp_setrow rfl 30 _ _ rfl _ rfl 30 _ (cR fr0) rfl (hm3.sel 2 [1, 0] (by decide)) szR rfl (cR_one fr0) ?_; intro w4 hm4)
    refine bodyPost_ret (Mm.res_cell_tmp rfl _ (g + 1) 30 (cR fr0) (0, 0) rfl hm4 m0 row_R szR) rfl ⟨fr0, rfl, by rw [hED.out]; rfl, ((hm4.nil 2 none).sub (.cons_cons _ (List.nil_sublist _))).new_of⟩
  | some G =>
    obtain ⟨name, params, locals, cA, cn, cc, code, hA, hhn, hhc, hands⟩ := G
    have hgd : ((some (⟨name, params, locals, cA, cn, cc, code, hA, hhn, hhc, hands⟩ : Fn)).getD fn0).locals = locals := rfl
    rw [hgd] at hED
    clear hgd
    simp only [enterG] at hEG
    simp only [Option.getD_some, Option.isSome_some, cF]
    go_upto_region 2 with (refine wp_setrow rfl 47 _ _ rfl _ rfl 47 _ [.string name, .int .i64 params, .int .i64 locals, .slice cA cn cc, .slice hA hhn hhc] rfl (hm2.alloc _) szF rfl (cF_one ⟨name, params, locals, cA, cn, cc, code, hA, hhn, hhc, hands⟩) ?_; intro w3 hm3)
    generalize w2.heap.size = g8 at hm3 ⊢
    have c1 := hm3.cell m0 1 rfl
    have c2 := hm3.cell m0 2 rfl
    by_cases h1 : params = (m : Int)
    · by_cases h2 : (m : Int) ≤ locals
      · by_cases h3 : locals ≤ 64
        · obtain ⟨L, rfl⟩ : ∃ L : Nat, locals = (L : Int) := ⟨locals.toNat, by omega⟩
          obtain rfl : EG = true := by rw [← hEG.out]; simp [h1, h2, h3]
          have e1 : decide ((L : Int) > 64) = false := by simp; omega
          have e2 : decide ((L : Int) < (m : Int)) = false := by simp; omega
          have hmL : m ≤ L := by omega
          have hr := Fact.mk (hx.out.gr hm3.below)
          subst h1
          clear hEG
          go_upto_region 4 with (fail)
          go_wp2_with (first | (at_make; refine wp_make cV (0, 0) 2 16 (by omega) cV_len cV_one rfl _ _ _ 36 rfl ty_Vs iV _ hi hz0 hz1 hz2 rfl _ L rfl rfl rfl (by omega) (by unfold maxLen; omega) hm3 ?_; intro g5 w4 hm4) | (refine wp_copy_own rfl _ _ 28 28 rfl 36 ty_Vs sz_V rfl A m c (fV args) rfl (hx.out.gr hm4.below) hm4 hmL ?_; intro w5 hm5) | (refine wp_setrow rfl 30 _ _ rfl _ rfl 30 _ [.int .i64 fn, .int .i64 0, .slice (some ⟨g5, 0, none⟩) L L] rfl (hm5.sel 3 [2, 0, 1] (by decide)) szR rfl (cR_one ⟨fn, 0, some ⟨g5, 0, none⟩, L, L, []⟩) ?_; intro w6 hm6))
          have e3 : fV args ++ ((List.replicate L ((0, 0) : V2)).flatMap cV).drop (m * 2) = fV (args ++ List.replicate (L - m) (0, 0)) := by
            rw [← flatMap_drop cV 2 cV_len, List.drop_replicate, fV_app]; rfl
          rw [e3] at hm6
          refine bodyPost_ret (Mm.res_cell_tmp rfl _ (g + 1) 30 [.int .i64 fn, .int .i64 0, .slice (some ⟨g5, 0, none⟩) L L] (0, 0) rfl hm6 m0 row_R szR) rfl ⟨⟨fn, 0, some ⟨g5, 0, none⟩, L, L, args ++ List.replicate (L - m) (0, 0)⟩, rfl, by rw [hED.out]; rfl, (hm6.sel 2 [1] (by decide) |>.sub (.cons_cons _ (List.nil_sublist _))).new_of⟩
        · obtain rfl : EG = false := by rw [← hEG.out]; simp [h3]
          have e1 : decide (locals > 64) = true := by simp; omega
          have e2 : decide (locals < (m : Int)) = false := by simp; omega
          subst h1
          clear hEG
          go_wp2_with (refine wp_setrow rfl 30 _ _ rfl _ rfl 30 _ (cR fr0) rfl (hm3.sel 2 [1, 0] (by decide)) szR rfl (cR_one fr0) ?_; intro w4 hm4)
          refine bodyPost_ret (Mm.res_cell_tmp rfl _ (g + 1) 30 (cR fr0) (0, 0) rfl hm4 m0 row_R szR) rfl ⟨fr0, rfl, by rw [hED.out]; rfl, ((hm4.nil 2 none).sub (.cons_cons _ (List.nil_sublist _))).new_of⟩
      · obtain rfl : EG = false := by rw [← hEG.out]; simp [h2]
        have e2 : decide (locals < (m : Int)) = true := by simp; omega
        subst h1
        clear hEG
        go_wp2_with (refine wp_setrow rfl 30 _ _ rfl _ rfl 30 _ (cR fr0) rfl (hm3.sel 2 [1, 0] (by decide)) szR rfl (cR_one fr0) ?_; intro w4 hm4)
        refine bodyPost_ret (Mm.res_cell_tmp rfl _ (g + 1) 30 (cR fr0) (0, 0) rfl hm4 m0 row_R szR) rfl ⟨fr0, rfl, by rw [hED.out]; rfl, ((hm4.nil 2 none).sub (.cons_cons _ (List.nil_sublist _))).new_of⟩
    · obtain rfl : EG = false := by rw [← hEG.out]; simp [h1]
      have e2 : (params != (m : Int)) = true := by simpa using h1
      have e3 : (params == (m : Int)) = false := by simpa using h1
      clear hEG
      go_wp2_with (refine wp_setrow rfl 30 _ _ rfl _ rfl 30 _ (cR fr0) rfl (hm3.sel 2 [1, 0] (by decide)) szR rfl (cR_one fr0) ?_; intro w4 hm4)
      refine bodyPost_ret (Mm.res_cell_tmp rfl _ (g + 1) 30 (cR fr0) (0, 0) rfl hm4 m0 row_R szR) rfl ⟨fr0, rfl, by rw [hED.out]; rfl, ((hm4.nil 2 none).sub (.cons_cons _ (List.nil_sublist _))).new_of⟩
end Go.Proofs.YtgflfpepfpekhaaGreat
namespace Go.Proofs.YtgflfpepfpekhaaGreat
open Go.RowKit Go.Mm
set_option maxHeartbeats 1000000
set_option maxRecDepth 100000
theorem refFunction_ok (w : World) (p : Pg) (hp : Fact (PgOk w p)) (i : Int) :
    Calls Tryz.prog 64 #[vP p, .int .i64 i] w fun e w' => e = .returned (.bool (fnAt p i).isSome) ∧ Gr w w' := by
  have hsm := hp.out.small.1
  have hs : Fact ((fnAt p i).isSome = (decide (0 ≤ i) && decide (i < (p.fn : Int)))) := ⟨by unfold fnAt; by_cases h : 0 ≤ i ∧ i < p.fn <;> simp [h]; omega⟩
  generalize (fnAt p i).isSome = b at hs ⊢
  obtain ⟨kA, kn, kc, consts, fA, fnn, fc, fns⟩ := p
  simp only [vP] at hsm hs ⊢
  by_cases h0 : 0 ≤ i
  · go_enter Tryz.func64, Tryz.ntmps64
    go_upto_region 1 with (fail)
    have hm := ((Mem.start w).alloc (.cells [.slice kA kn kc, .slice fA fnn fc].toArray 26))
    generalize hgX : w.heap.size = g at hm ⊢
    generalize hwX : (w.alloc (.cells [.slice kA kn kc, .slice fA fnn fc].toArray 26)) = w1 at hm
    try refine wp_world hwX ?_
    clear hwX hgX
    have c2 := hm.cell m0 1 rfl
    go_wp2
    go_ret
    exact ⟨by rw [hs.out]; simp [h0], hm.below⟩
  · have h1 : decide (i ≥ 0) = false := by simp; omega
    go_enter Tryz.func64, Tryz.ntmps64
    go_upto_region 1 with (fail)
    have hm := ((Mem.start w).alloc (.cells [.slice kA kn kc, .slice fA fnn fc].toArray 26))
    generalize hgX : w.heap.size = g at hm ⊢
    generalize hwX : (w.alloc (.cells [.slice kA kn kc, .slice fA fnn fc].toArray 26)) = w1 at hm
    try refine wp_world hwX ?_
    clear hwX hgX
    go_wp2
    go_ret
    exact ⟨by rw [hs.out]; simp; omega, hm.below⟩
theorem refEnter_ok (w : World) (p : Pg) (hp : Fact (PgOk w p)) (fn : Int) (A : Option Addr) (m c : Nat) (args : List V2) (hx : Fact (RdC w 2 (.slice A m c) (fV args))) (hm0 : m ≤ 4194304) :
    Calls Tryz.prog 30 #[vP p, .int .i64 fn, .slice A m c] w fun e w' => ∃ y : Fr, e = .returned (.tuple #[.agg (cR y).toArray, .bool (enterG (fnAt p fn) m)]) ∧ y.data = enterD (fnAt p fn) fn args ∧ New w w' (slot y) := by
  have hf := fun (w1 : World) (hg : Gr w w1) => refFunction_ok w1 p ⟨hp.out.gr hg⟩ fn
  have hal : Fact (args.length = m) := ⟨rdV_len hx.out⟩
  have hED : enterD (fnAt p fn) fn args = (if enterG (fnAt p fn) m then (fn, 0, args ++ List.replicate ((((fnAt p fn).getD fn0).locals).toNat - m) (0, 0)) else (0, 0, [])) := by unfold enterD; rw [hal.out]
  have hED := Fact.mk hED
  have hfa : Fact (∀ g, fnAt p fn = some g → ∃ b o k, fn = ((k : Nat) : Int) ∧ p.fA = some ⟨b, o, none⟩ ∧ w.rangeAt b (o + k * 5) (cF g) ∧ k < p.fn) := ⟨fun g h => by
    unfold fnAt at h
    split at h
    · rename_i hi
      cases h
      obtain ⟨b, o, eA, hr, _, _⟩ := rd_at cF_len (by omega) fn0 hp.out.fns fn.toNat (by omega)
      exact ⟨b, o, fn.toNat, by omega, eA, hr, by omega⟩
    · cases h⟩
  generalize enterD (fnAt p fn) fn args = ED at hED ⊢
  generalize fnAt p fn = G at hf hED hfa ⊢
  generalize hEGe : enterG G m = EG at hED ⊢
  have hEG := Fact.mk hEGe
  clear hEGe
  obtain ⟨iV, hi, hz0, hz1, hz2⟩ := info_parts inf_V
  obtain ⟨kA, kn, kc, consts, fA, fnn, fc, fns⟩ := p
  simp only [vP] at hf hfa ⊢
  go_enter Tryz.func30, Tryz.ntmps30
  go_upto_region 1 with (fail)
  have hm := (((Mem.start w).alloc (.cells [.slice kA kn kc, .slice fA fnn fc].toArray 26)).alloc (.cells (cR fr0).toArray 30))
  simp only [World.size_alloc] at hm
  generalize hgX : w.heap.size = g at hm ⊢
  generalize hwX : ((w.alloc (.cells [.slice kA kn kc, .slice fA fnn fc].toArray 26)).alloc (.cells (cR fr0).toArray 30)) = w1 at hm
  try refine wp_world hwX ?_
  clear hwX hgX
  have c1 := hm.cell m1 0 rfl
  have c2 := hm.cell m1 1 rfl
  go_wp2_with fail
  refine (hf w1 hm.below).mono ?_
  rintro e w2 ⟨rfl, hg2⟩
  have hm2 := hm.gr hg2
  clear hm c1 c2 hg2 hf
  cases G with
  | none =>
    obtain rfl : EG = false := hEG.out.symm
    simp only [Option.isSome_none]
    go_wp2_with (refine wp_setrow rfl 30 _ _ rfl _ rfl 30 _ (cR fr0) rfl hm2 szR rfl (cR_one fr0) ?_; intro w4 hm4)
    refine bodyPost_ret (Mm.res_cell_tmp rfl _ (g + 1) 30 (cR fr0) (0, 0) rfl hm4 m0 row_R szR) rfl ⟨fr0, rfl, by rw [hED.out]; rfl, ((hm4.nil 2 none).sub (.cons_cons _ (List.nil_sublist _))).new_of⟩
  | some G =>
    obtain ⟨b, o, k, rfl, e, r1, hkf⟩ := hfa.out G rfl
    try dsimp only at e hkf
    subst e
    clear hfa
    obtain ⟨name, params, locals, cA, cn, cc, code, hA, hhn, hhc, hands⟩ := G
    have hgd : ((some (⟨name, params, locals, cA, cn, cc, code, hA, hhn, hhc, hands⟩ : Fn)).getD fn0).locals = locals := rfl
    rw [hgd] at hED
    clear hgd
    simp only [enterG] at hEG
    simp only [Option.isSome_some]
    have r2 := rng_gr r1 hm2.below
    have p2 := hm2.cell m1 1 rfl
    go_upto_region 4 with (first | (refine wp_rng rfl 47 _ rfl b _ rfl [.string name, .int .i64 params, .int .i64 locals, .slice cA cn cc, .slice hA hhn hhc] r2 row_F szF ?_) | (refine wp_setrow rfl 47 _ _ rfl _ rfl 47 _ [.string name, .int .i64 params, .int .i64 locals, .slice cA cn cc, .slice hA hhn hhc] rfl (hm2.alloc _) szF rfl (cF_one ⟨name, params, locals, cA, cn, cc, code, hA, hhn, hhc, hands⟩) ?_; intro w3 hm3))
    generalize w2.heap.size = g8 at hm3 ⊢
    have c1 := hm3.cell m0 1 rfl
    have c2 := hm3.cell m0 2 rfl
    clear r1 r2 p2
    by_cases h1 : params = (m : Int)
    · by_cases h2 : (m : Int) ≤ locals
      · by_cases h3 : locals ≤ 64
        · obtain ⟨L, rfl⟩ : ∃ L : Nat, locals = (L : Int) := ⟨locals.toNat, by omega⟩
          obtain rfl : EG = true := by rw [← hEG.out]; simp [h1, h2, h3]
          have e1 : decide ((L : Int) > 64) = false := by simp; omega
          have e2 : decide ((L : Int) < (m : Int)) = false := by simp; omega
          have hmL : m ≤ L := by omega
          have hr := Fact.mk (hx.out.gr hm3.below)
          subst h1
          clear hEG
          go_upto_region 6 with (fail)
          go_wp2_with fail
          refine (copyValues_ok w3 A m c args hr hm0).mono ?_
          rintro e w4 ⟨B, d, rfl, hn4⟩
          have hm4 := hm3.new hn4
          clear hn4 hm3 c1 c2 e1 e2
          go_wp2
          go_loopw [9] (fun l w' => ∃ (q : Nat) (B' : Option Addr) (d' : Nat), q ≤ L - m ∧ l = .slice B' (m + q) d' ∧ Mem w w' [Own 2 (.slice B' (m + q) d') (fV (args ++ List.replicate q (0, 0))), Blk g8 (.cells [.string name, .int .i64 (m : Int), .int .i64 (L : Int), .slice cA cn cc, .slice hA hhn hhc].toArray 47), Blk (g + 1) (.cells (cR fr0).toArray 30), Blk g (.cells [.slice kA kn kc, .slice (some ⟨b, o, none⟩) fnn fc].toArray 26)]) (fun l _ => match l with | .slice _ n _ => L - n | _ => 0)
          case atStart => exact ⟨0, B, d, by omega, rfl, by simpa using hm4⟩
          case round =>
            clear hm4
            obtain ⟨q, B', d', hq, rfl, hm5⟩ := hrel
            have c2 := hm5.cell m1 2 rfl
            by_cases hlt : m + q < L
            · go_wp2_with (at_builtin; refine wp_app rfl _ _ _ rfl 36 iV _ 2 16 ty_Vs hi hz0 hz1 hz2 rfl B' (m + q) d' _ rfl (L := [Blk _ _, Blk _ _, Blk _ _, Blk _ _]) ((hm5.alloc _).swap) _ 1 1 [.int .i64 0, .int .i64 0] rfl (RdC.lit _ _ _ _ _ rfl (by simp [maxLen]) (cV_one (0, 0))) (by unfold maxLen; omega) (by omega) ?_; intro A1 e1 w5 HM1)
              go_roundw
              case rel =>
                refine ⟨q + 1, A1, e1, by omega, rfl, ?_⟩
                have hm6 := HM1.sub (.cons_cons _ (.cons _ (List.Sublist.refl _)))
                rw [List.replicate_succ', ← List.append_assoc, fV_app, show m + (q + 1) = m + q + 1 by omega]
                exact hm6
              case measure => simp; omega
            · have hqe : Fact (q = L - m) := ⟨by omega⟩
              have e5 : decide ((m : Int) + (q : Int) < (L : Int)) = false := by simp; omega
              have e6 : decide (m + q < L) = false := by simp; omega
              go_wp2_with (refine wp_setrow rfl 30 _ _ rfl _ rfl 30 _ [.int .i64 (k : Int), .int .i64 0, .slice B' (m + q) d'] rfl (hm5.sel 3 [2, 0, 1] (by decide)) szR rfl (cR_one ⟨(k : Int), 0, B', m + q, d', []⟩) ?_; intro w6 hm6)
              refine bodyPost_ret (Mm.res_cell_tmp rfl _ (g + 1) 30 [.int .i64 (k : Int), .int .i64 0, .slice B' (m + q) d'] (0, 0) rfl hm6 m0 row_R szR) rfl ⟨⟨(k : Int), 0, B', m + q, d', args ++ List.replicate q (0, 0)⟩, rfl, by rw [hED.out, hqe.out]; rfl, (hm6.sel 2 [1] (by decide) |>.sub (.cons_cons _ (List.nil_sublist _))).new_of⟩
        · obtain rfl : EG = false := by rw [← hEG.out]; simp [h3]
          have e1 : decide (locals > 64) = true := by simp; omega
          have e2 : decide (locals < (m : Int)) = false := by simp; omega
          subst h1
          clear hEG
          go_wp2_with (refine wp_setrow rfl 30 _ _ rfl _ rfl 30 _ (cR fr0) rfl (hm3.sel 2 [1, 0] (by decide)) szR rfl (cR_one fr0) ?_; intro w4 hm4)
          refine bodyPost_ret (Mm.res_cell_tmp rfl _ (g + 1) 30 (cR fr0) (0, 0) rfl hm4 m0 row_R szR) rfl ⟨fr0, rfl, by rw [hED.out]; rfl, ((hm4.nil 2 none).sub (.cons_cons _ (List.nil_sublist _))).new_of⟩
      · obtain rfl : EG = false := by rw [← hEG.out]; simp [h2]
        have e2 : decide (locals < (m : Int)) = true := by simp; omega
        subst h1
        clear hEG
        go_wp2_with (refine wp_setrow rfl 30 _ _ rfl _ rfl 30 _ (cR fr0) rfl (hm3.sel 2 [1, 0] (by decide)) szR rfl (cR_one fr0) ?_; intro w4 hm4)
        refine bodyPost_ret (Mm.res_cell_tmp rfl _ (g + 1) 30 (cR fr0) (0, 0) rfl hm4 m0 row_R szR) rfl ⟨fr0, rfl, by rw [hED.out]; rfl, ((hm4.nil 2 none).sub (.cons_cons _ (List.nil_sublist _))).new_of⟩
    · obtain rfl : EG = false := by rw [← hEG.out]; simp [h1]
      have e2 : (params != (m : Int)) = true := by simpa using h1
      have e3 : (params == (m : Int)) = false := by simpa using h1
      clear hEG
      go_wp2_with (refine wp_setrow rfl 30 _ _ rfl _ rfl 30 _ (cR fr0) rfl (hm3.sel 2 [1, 0] (by decide)) szR rfl (cR_one fr0) ?_; intro w4 hm4)
      refine bodyPost_ret (Mm.res_cell_tmp rfl _ (g + 1) 30 (cR fr0) (0, 0) rfl hm4 m0 row_R szR) rfl ⟨fr0, rfl, by rw [hED.out]; rfl, ((hm4.nil 2 none).sub (.cons_cons _ (List.nil_sublist _))).new_of⟩
end Go.Proofs.YtgflfpepfpekhaaGreat
namespace Go.Proofs.YtgflfpepfpekhaaGreat
open Go.RowKit Go.Mm
set_option maxHeartbeats 400000
set_option maxRecDepth 100000
/-- Two frames that are the same. -/
theorem sameFrame_ok (w : World) (fn pc : Int) (A B : Option Addr) (n c d : Nat) (sl : List V2) (hx : Fact (RdC w 2 (.slice A n c) (fV sl))) (hy : Fact (RdC w 2 (.slice B n d) (fV sl))) (hn : n ≤ 16777216) :
    Calls Tryz.prog 21 #[.agg #[.int .i64 fn, .int .i64 pc, .slice A n c], .agg #[.int .i64 fn, .int .i64 pc, .slice B n d]] w fun e w' => e = .returned (.bool true) ∧ Gr w w' := by
  go_enter Tryz.func21, Tryz.ntmps21
  go_wp2_with fail
  refine (sameValues_ok _ A B n c d sl ⟨hx.out.gr (((Gr.refl _).alloc _).alloc _)⟩ ⟨hy.out.gr (((Gr.refl _).alloc _).alloc _)⟩ hn).mono ?_
  rintro e w2 ⟨rfl, hg⟩
  have hg2 := ((((Gr.refl w).alloc _).alloc _).trans hg)
  go_wp2
  go_ret
  exact ⟨rfl, hg2⟩
theorem sameFrames_ok (w : World) (A B : Option Addr) (N n c d : Nat) (xs ys : List Fr) (hx : Fact (FrsOk N w A n c xs)) (hy : Fact (FrsOk N w B n d ys)) (hd : Fact (xs.map Fr.data = ys.map Fr.data)) (hn : n ≤ 16777216) (hN : N ≤ 16777216) :
    Calls Tryz.prog 11 #[.slice A n c, .slice B n d] w fun e w' => e = .returned (.bool true) ∧ Gr w w' := by
  have hl := Fact.mk hx.out.len
  have hl' := Fact.mk hy.out.len
  go_enter Tryz.func11, Tryz.ntmps11
  go_wp2
  go_loopw [5] (fun v w' => ∃ (k : Nat), v = .int .i64 k ∧ k ≤ n ∧ Gr w w') (fun v _ => n - (intOf v).toNat)
  case atStart => exact ⟨0, rfl, by omega, Gr.refl _⟩
  case round =>
    obtain ⟨k, rfl, hk, hg⟩ := hrel
    have hg := Fact.mk hg
    by_cases hlt : k < n
    · obtain ⟨b, o, rfl, r1, ok1, _⟩ := hx.out.at k hlt
      obtain ⟨bb, ob, rfl, r2, ok2, _⟩ := hy.out.at k hlt
      have he : (xs.getD k fr0).data = (ys.getD k fr0).data := by
        have h1 : (xs.map Fr.data)[k]? = (ys.map Fr.data)[k]? := by rw [hd.out]
        rw [List.getElem?_map, List.getElem?_map, getD_some xs fr0 k (by have := hl.out; omega), getD_some ys fr0 k (by have := hl'.out; omega)] at h1
        simpa using h1
      generalize xs.getD k fr0 = x at r1 ok1 he
      generalize ys.getD k fr0 = y at r2 ok2 he
      obtain ⟨fn, pc, xA, xn, xc, xsl⟩ := x
      obtain ⟨fn', pc', yA, yn, yc, ysl⟩ := y
      have l1 := ok1.len
      have l2 := ok2.len
      simp only [Fr.data, Prod.mk.injEq] at he l1 l2
      obtain ⟨rfl, rfl, rfl⟩ := he
      obtain rfl : xn = yn := by omega
      have ok1 := Fact.mk (ok1.gr hg.out)
      have ok2 := Fact.mk (ok2.gr hg.out)
      have r1 := Fact.mk (rng_gr r1 hg.out)
      have r2 := Fact.mk (rng_gr r2 hg.out)
      clear l1 l2
      have a1 : wr.cell? ⟨b, o + k * 3, none⟩ = some (.int .i64 fn) := r1.out 0 _ rfl
      have a2 : wr.cell? ⟨b, o + k * 3 + 1, none⟩ = some (.int .i64 pc) := r1.out 1 _ rfl
      have a3 : wr.cell? ⟨b, o + k * 3 + 2, none⟩ = some (.slice xA xn xc) := r1.out 2 _ rfl
      have b1 : wr.cell? ⟨bb, ob + k * 3, none⟩ = some (.int .i64 fn) := r2.out 0 _ rfl
      have b2 : wr.cell? ⟨bb, ob + k * 3 + 1, none⟩ = some (.int .i64 pc) := r2.out 1 _ rfl
      have b3 : wr.cell? ⟨bb, ob + k * 3 + 2, none⟩ = some (.slice yA xn yc) := r2.out 2 _ rfl
      go_upto_region 6 with (fail)
      go_still_tail 8, (by kernel_rfl)
      change wpList _ _ _ _ _ wr.drew
      have hg2 := Fact.mk hg.out.drew
      have ok1 := Fact.mk (ok1.out.gr (Gr.refl wr).drew)
      have ok2 := Fact.mk (ok2.out.gr (Gr.refl wr).drew)
      clear a1 a2 a3 b1 b2 b3 r1 r2
      generalize wr.drew = w2 at *
      go_wp2_with fail
      refine (sameFrame_ok w2 fn pc xA yA xn xc yc xsl ⟨ok1.out.1⟩ ⟨ok2.out.1⟩ (by have := ok1.out.2; simp at this; omega)).mono ?_
      rintro e w3 ⟨rfl, hg3⟩
      go_wp2
      go_roundw
      case rel => exact ⟨k + 1, by go_num, by omega, hg2.out.trans hg3⟩
      case measure => simp [intOf]; omega
    · go_wp2
      go_ret
      exact ⟨rfl, hg.out⟩
end Go.Proofs.YtgflfpepfpekhaaGreat
namespace Go.Proofs.YtgflfpepfpekhaaGreat
open Go.RowKit Go.Mm
def sv (y : Fr) : Value := .slice y.A y.n y.c
def svs (ys : List Fr) : List Value := ys.map sv
theorem svs_one (ys : List Fr) : One (svs ys) := fun u hu => by
  obtain ⟨y, _, rfl⟩ := List.mem_map.1 hu
  rfl
theorem svs_at (ys : List Fr) (k : Nat) (h : k < ys.length) : (svs ys)[k]? = some (sv (ys.getD k fr0)) := by simp [svs, h]
theorem svs_set (ys : List Fr) (k : Nat) (y : Fr) (h : k < ys.length) (hy : sv y = sv (ys.getD k fr0)) : svs (ys.set k y) = svs ys := by
  apply List.ext_getElem?
  intro i
  simp only [svs, List.getElem?_map, List.getElem?_set]
  by_cases hik : k = i
  · subst hik
    simp only [if_pos h, if_true, Option.map_some]
    rw [getD_some ys fr0 k h]
    simp [hy]
  · rw [if_neg hik]
theorem slots_get {w0 w : World} {ys : List Fr} {R : List Chunk} {k : Nat} (hk : k < ys.length) (h : Mem w0 w (slots ys ++ R)) : Mem w0 w (slot (ys.getD k fr0) :: (slots (ys.eraseIdx k) ++ R)) := by
  refine h.perm ?_
  have e : ys.getD k fr0 = ys[k] := by simp [hk]
  rw [e]
  have := ((perm_front ys k hk).map slot).append_right R
  simpa [slots] using this
theorem slots_put {w0 w : World} {ys : List Fr} {R : List Chunk} {k : Nat} {y : Fr} (hk : k < ys.length) (h : Mem w0 w (slot y :: (slots (ys.eraseIdx k) ++ R))) : Mem w0 w (slots (ys.set k y) ++ R) := by
  refine h.perm ?_
  have := ((perm_front (ys.set k y) k (by simpa using hk)).map slot).append_right R
  rw [List.eraseIdx_set_eq] at this
  simpa [slots] using this.symm
theorem Mem.conv {α : Type} {w0 w : World} (f g : α → Chunk) (hf : ∀ x k, (g x).foot k → (f x).foot k) (ho : ∀ x, (f x).ok w → (g x).ok w) : ∀ (xs : List α) (A R : List Chunk), Mem w0 w (A ++ (xs.map f ++ R)) → Mem w0 w (A ++ (xs.map g ++ R))
  | [], _, _, h => h
  | x :: xs, A, R, h => by
    have h1 : Mem w0 w (f x :: (A ++ (xs.map f ++ R))) := h.perm (by simp only [List.map_cons, List.cons_append]; exact List.perm_middle)
    have h2 : Mem w0 w (g x :: (A ++ (xs.map f ++ R))) := h1.upd ⟨rfl, rfl, rfl, Nat.le_refl _, fun _ _ _ => rfl⟩ (ho x (h1.ok _ m0)) (fun k hk => .inl (hf x k hk))
    have h3 : Mem w0 w ((g x :: A) ++ (xs.map g ++ R)) := Mem.conv f g hf ho xs (g x :: A) R h2
    exact h3.perm (by simp only [List.map_cons, List.cons_append]; exact List.perm_middle.symm)
def extc (p : Fr × Fr) : Chunk := Ext 2 (sv p.2) (fV p.2.sl) (sv p.1) (fV p.1.sl)
def exts (ps : List (Fr × Fr)) : List Chunk := ps.map extc
def pr0 : Fr × Fr := (fr0, fr0)
theorem exts_start {w0 w : World} {ys : List Fr} {R : List Chunk} (h : Mem w0 w (slots ys ++ R)) : Mem w0 w (exts (ys.map fun y => (y, y)) ++ R) := by
  have := Mem.conv (fun y : Fr => slot y) (fun y => extc (y, y)) (fun x k hk => hk.elim id id) (fun x hx => OwnAt.ext hx) ys [] R h
  simpa [exts, List.map_map, Function.comp_def] using this
theorem exts_get {w0 w : World} {ys : List (Fr × Fr)} {R : List Chunk} {k : Nat} (hk : k < ys.length) (h : Mem w0 w (exts ys ++ R)) : Mem w0 w (extc (ys.getD k pr0) :: (exts (ys.eraseIdx k) ++ R)) := by
  refine h.perm ?_
  have e : ys.getD k pr0 = ys[k] := by simp [hk]
  rw [e]
  have := ((perm_front ys k hk).map extc).append_right R
  simpa [exts] using this
theorem exts_put {w0 w : World} {ys : List (Fr × Fr)} {R : List Chunk} {k : Nat} {y : Fr × Fr} (hk : k < ys.length) (h : Mem w0 w (extc y :: (exts (ys.eraseIdx k) ++ R))) : Mem w0 w (exts (ys.set k y) ++ R) := by
  refine h.perm ?_
  have := ((perm_front (ys.set k y) k (by simpa using hk)).map extc).append_right R
  rw [List.eraseIdx_set_eq] at this
  simpa [exts] using this.symm
/-- The marks of a list. -/
def markA (k i : Nat) : V2 := (-10 - (k : Int), (i : Int))
def marksA (k n : Nat) : List V2 := (List.range n).map (markA k)
theorem marksA_succ (k n : Nat) : marksA k (n + 1) = marksA k n ++ [markA k n] := by simp [marksA, List.range_succ]
theorem marksA_at (k n i : Nat) (h : i < n) : (marksA k n).getD i (0, 0) = (-10 - (k : Int), (i : Int)) := by simp [marksA, h, markA]
theorem fV_put (xs : List V2) (i : Nat) (x : V2) (h : i < xs.length) : (fV xs).take (i * 2) ++ cV x ++ (fV xs).drop (i * 2 + (cV x).length) = fV (xs.set i x) := by
  rw [List.set_eq_take_append_cons_drop, if_pos h, show i * 2 + (cV x).length = (i + 1) * 2 by rw [cV_len]; omega]
  have e1 : (fV xs).take (i * 2) = fV (xs.take i) := (flatMap_take cV 2 cV_len xs i).symm
  have e2 : (fV xs).drop ((i + 1) * 2) = fV (xs.drop (i + 1)) := (flatMap_drop cV 2 cV_len xs (i + 1)).symm
  rw [e1, e2]
  simp [fV]
theorem take_set_snoc (xs : List V2) (k i : Nat) (h : i < xs.length) (hp : xs.take i = marksA k i) : (xs.set i (markA k i)).take (i + 1) = marksA k (i + 1) := by
  rw [marksA_succ, List.take_succ_eq_append_getElem (by simpa using h), List.take_set_of_le (Nat.le_refl _), hp]
  simp
end Go.Proofs.YtgflfpepfpekhaaGreat
namespace Go.Proofs.YtgflfpepfpekhaaGreat
open Go.RowKit Go.Mm
set_option maxHeartbeats 1000000
set_option maxRecDepth 100000
theorem ty_VVs : Tryz.prog.underlying 73 = some (.slice 28) := by kernel_rfl
theorem inf_Vs : (Tryz.prog.info? 28).map (fun i => (i.zero, i.size, i.bytes)) = some (some (.slice none 0 0), 1, 24) := by kernel_rfl
theorem apartValues_ok (w0 w : World) (A : Option Addr) (m c N : Nat) (ys : List Fr) (L : List Chunk) (hm : Mem w0 w (slots ys ++ (Own 1 (.slice A m c) (svs ys) :: L))) (hl : Fact (ys.length = m)) (hN : Fact (∀ y, y ∈ ys → y.n ≤ N)) (hmm : m ≤ 4194304) (hNN : N ≤ 4194304) :
    Calls Tryz.prog 33 #[.slice A m c] w fun e w' => e = .returned (.bool true) ∧ Mem w0 w' L := by
  obtain ⟨iV, hi, hz0, hz1, hz2⟩ := info_parts inf_V
  obtain ⟨iS, si, sz0, sz1, sz2⟩ := info_parts inf_Vs
  go_enter Tryz.func33, Tryz.ntmps33
  go_wp2
  go_loopw [3] (fun v w' => ∃ (k : Nat) (zs : List Fr), v = .int .i64 k ∧ k ≤ m ∧ Mem w0 w' (slots zs ++ (Own 1 (.slice A m c) (svs zs) :: L)) ∧ Fact (zs.length = m ∧ (∀ z, z ∈ zs → z.n ≤ N) ∧ ∀ j, j < k → (zs.getD j fr0).sl = marksA j (zs.getD j fr0).n)) (fun v _ => m - (intOf v).toNat)
  case atStart => exact ⟨0, ys, rfl, by omega, hm, ⟨hl.out, hN.out, fun j hj => by omega⟩⟩
  case round =>
    clear hm hl hN ys
    obtain ⟨k, zs, rfl, hk, hm, hz⟩ := hrel
    by_cases hlt : k < m
    · have hlen := hz.out.1
      have hrd := Fact.mk (hm.rd (size := 1) (v := .slice A m c) (xs := svs zs) (by simp))
      obtain ⟨bo, oo, c0, rfl, h1, h2, _, _⟩ := hrd.out.at1 k hlt
      rw [svs_at zs k (by omega)] at h2
      cases h2
      have hm1 := slots_get (k := k) (by omega) hm
      have hy : zs.getD k fr0 ∈ zs := List.mem_of_getElem? (getD_some zs fr0 k (by omega))
      have hxe : ∃ x, Fact (zs.getD k fr0 = x) := ⟨_, ⟨rfl⟩⟩
      obtain ⟨x, hxe⟩ := hxe
      rw [hxe.out] at h1 hm1 hy
      have hxn := hz.out.2.1 _ hy
      obtain ⟨xfn, xpc, xA, xn, xc, xsl⟩ := x
      simp only [sv] at h1
      have hl1 : xsl.length = xn := rdV_len (hm1.ok _ m0).rd
      have hz := Fact.mk hz.out
      clear hm hrd hy hlen
      go_wp2
      obtain ⟨wo, hwo⟩ : ∃ wo : World, wo = wr := ⟨_, rfl⟩
      rw [← hwo] at h1 hm1 ⊢
      clear hwo
      go_loopw [4] (fun v w' => ∃ (i : Nat) (sl : List V2), v = .int .i64 i ∧ i ≤ xn ∧ Mem w0 w' (slot ⟨xfn, xpc, xA, xn, xc, sl⟩ :: (slots (zs.eraseIdx k) ++ (Own 1 (.slice (some ⟨bo, oo, none⟩) m c) (svs zs) :: L))) ∧ Fact (sl.length = xn ∧ sl.take i = marksA k i)) (fun v _ => xn - (intOf v).toNat)
      case atStart => exact ⟨0, xsl, rfl, by omega, hm1, ⟨hl1, by simp [marksA]⟩⟩
      case round =>
        clear hm1 h1 hl1
        obtain ⟨i, sl, rfl, hi1, hm, hs⟩ := hrel
        have hrd := hm.rd (size := 1) (v := .slice (some ⟨bo, oo, none⟩) m c) (xs := svs zs) (by simp)
        obtain ⟨_, _, c0, e, h1, h2, _, _⟩ := hrd.at1 k hlt
        cases e
        rw [svs_at zs k (by have := hz.out.1; omega), hxe.out] at h2
        cases h2
        simp only [sv] at h1
        clear hrd
        by_cases hlt2 : i < xn
        · have hxx : ∃ g off, xA = some ⟨g, off, none⟩ := by
            obtain ⟨g, off, us, e, _⟩ := (hm.ok _ m0).rd.at (by omega) i hlt2
            exact ⟨g, off, e⟩
          obtain ⟨g, off, rfl⟩ := hxx
          go_wp2_with (refine wp_ownrow rfl 36 _ _ rfl (off + i * 2) (i * 2) rfl rfl [.int .i64 (-10 - (k : Int)), .int .i64 (i : Int)] rfl hm sz_V (by rw [fV_len, hs.out.1]; simp; omega) (cV_one (-10 - (k : Int), (i : Int))) ?_; intro w2 hm2)
          go_roundw
          case rel =>
            refine ⟨i + 1, sl.set i (markA k i), by go_num, by omega, ?_, ⟨by simpa using hs.out.1, take_set_snoc sl k i (by have := hs.out.1; omega) hs.out.2⟩⟩
            have e := fV_put sl i (markA k i) (by have := hs.out.1; omega)
            unfold slot
            rw [← e]
            exact hm2
          case measure => simp [intOf]; omega
        · obtain rfl : i = xn := by omega
          go_wp2
          go_roundw
          case rel =>
            have hs1 := hs.out
            rw [List.take_of_length_le (by omega)] at hs1
            have hz1 := hz.out
            have hsv : svs (zs.set k ⟨xfn, xpc, xA, i, xc, sl⟩) = svs zs := svs_set zs k _ (by omega) (by rw [hxe.out]; rfl)
            refine ⟨k + 1, zs.set k ⟨xfn, xpc, xA, i, xc, sl⟩, by go_num, by omega, ?_, ⟨by simpa using hz1.1, fun z hz => ?_, fun j hj => ?_⟩⟩
            · rw [hsv]
              exact slots_put (by omega) hm
            · rcases List.mem_or_eq_of_mem_set hz with h | rfl
              · exact hz1.2.1 z h
              · exact hxn
            · rw [getD_set _ _ _ _ _ (by omega)]
              by_cases e : j = k
              · subst e; rw [if_pos rfl]; exact hs1.2
              · rw [if_neg e]; exact hz1.2.2 j (by omega)
          case measure => simp [intOf]; omega
    · obtain rfl : k = m := by omega
      have hz := Fact.mk hz.out
      have hm := exts_start hm
      go_wp2
      obtain ⟨wo, hwo⟩ : ∃ wo : World, wo = wr := ⟨_, rfl⟩
      rw [← hwo] at hm ⊢
      clear hwo
      go_loopw [5, 6] (fun l v w' => ∃ (j : Nat) (B : Option Addr) (d : Nat) (ps : List (Fr × Fr)), v = .int .i64 j ∧ j ≤ k ∧ l = .slice B j d ∧ Mem w0 w' (exts ps ++ (Own 1 (.slice A k c) (svs zs) :: Own 1 (.slice B j d) (svs ((ps.map Prod.snd).take j)) :: L)) ∧ Fact (ps.map Prod.fst = zs ∧ (∀ i, j ≤ i → i < k → (ps.getD i pr0).2 = zs.getD i fr0) ∧ ∀ i, i < j → (ps.getD i pr0).2.n = (zs.getD i fr0).n + 64 ∧ (ps.getD i pr0).2.sl = marksA i ((zs.getD i fr0).n + 64))) (fun _ v _ => k - (intOf v).toNat)
      case atStart =>
        refine ⟨0, none, 0, zs.map fun y => (y, y), rfl, by omega, rfl, ?_, ⟨by simp [List.map_map, Function.comp_def], fun i _ hi => ?_, fun i hi => by omega⟩⟩
        · exact (hm.nil 1 none).unmid2
        · rw [List.getD_eq_getElem?_getD, List.getElem?_map, getD_some zs fr0 i (by have := hz.out.1; omega)]; rfl
      case round =>
        clear hm
        obtain ⟨j, B, d, ps, rfl, hj, rfl, hm, hp⟩ := hrel
        have hpl : ps.length = k := by have := congrArg List.length hp.out.1; simpa [hz.out.1] using this
        have hpl := Fact.mk hpl
        by_cases hlt2 : j < k
        · have hrd := hm.rd (size := 1) (v := .slice A k c) (xs := svs zs) (by simp)
          obtain ⟨bo, oo, c0, rfl, h1, h2, _, _⟩ := hrd.at1 j hlt2
          rw [svs_at zs j (by have := hz.out.1; omega)] at h2
          cases h2
          have hm1 := exts_get (k := j) (by have := hpl.out; omega) hm
          have hfst : (ps.getD j pr0).1 = zs.getD j fr0 := by
            have e := hp.out.1
            rw [← e, getD_map Prod.fst ps j pr0 fr0 (by have := hpl.out; omega)]
          have hsnd := hp.out.2.1 j (Nat.le_refl _) hlt2
          have hpe : ps.getD j pr0 = (zs.getD j fr0, zs.getD j fr0) := Prod.ext hfst hsnd
          rw [hpe] at hm1
          have hy : zs.getD j fr0 ∈ zs := List.mem_of_getElem? (getD_some zs fr0 j (by have := hz.out.1; omega))
          have hxe : ∃ x, Fact (zs.getD j fr0 = x) := ⟨_, ⟨rfl⟩⟩
          obtain ⟨x, hxe⟩ := hxe
          have hxm := hz.out.2.2 j (by omega)
          rw [hxe.out] at h1 hm1 hy hxm
          have hxn := hz.out.2.1 _ hy
          obtain ⟨xfn, xpc, xA, xn, xc, xsl⟩ := x
          simp only [sv] at h1
          try dsimp only at hxm
          try dsimp only at hxn
          subst hxm
          clear hm hrd hy hfst hsnd hpe
          go_wp2
          obtain ⟨wp, hwp⟩ : ∃ wp : World, wp = wr := ⟨_, rfl⟩
          rw [← hwp] at h1 hm1 ⊢
          clear hwp
          go_loopw [7, 8] (fun l v w' => ∃ (i : Nat) (C : Option Addr) (e : Nat), v = .int .i64 i ∧ i ≤ 64 ∧ l = .slice C (xn + i) e ∧ Mem w0 w' (Ext 2 (.slice C (xn + i) e) (fV (marksA j (xn + i))) (.slice xA xn xc) (fV (marksA j xn)) :: (exts (ps.eraseIdx j) ++ (Own 1 (.slice (some ⟨bo, oo, none⟩) k c) (svs zs) :: Own 1 (.slice B j d) (svs ((ps.map Prod.snd).take j)) :: L)))) (fun _ v _ => 64 - (intOf v).toNat)
          case atStart => exact ⟨0, xA, xc, rfl, by omega, rfl, hm1⟩
          case round =>
            clear hm1 h1
            obtain ⟨i, C, e, rfl, hi1, rfl, hm⟩ := hrel
            have hrd := hm.rd (size := 1) (v := .slice (some ⟨bo, oo, none⟩) k c) (xs := svs zs) (by simp)
            obtain ⟨_, _, c0, e0, h1, h2, _, _⟩ := hrd.at1 j hlt2
            cases e0
            rw [svs_at zs j (by have := hz.out.1; omega), hxe.out] at h2
            cases h2
            simp only [sv] at h1
            clear hrd
            by_cases hlt3 : i < 64
            · go_wp2_with (at_builtin; refine wp_appe rfl _ _ _ rfl 36 iV _ 2 16 ty_Vs hi hz0 hz1 hz2 rfl C (xn + i) e _ _ _ rfl (L := Blk _ _ :: _) (hm.alloc _).swap _ 1 1 [.int .i64 (-10 - (j : Int)), .int .i64 ((xn : Int) + (i : Int))] rfl (RdC.lit _ _ _ _ _ rfl (by simp [maxLen]) (cV_one (-10 - (j : Int), (xn : Int) + (i : Int)))) (by unfold maxLen; omega) (by omega) ?_; intro C1 e1 w2 hm2)
              go_roundw
              case rel =>
                refine ⟨i + 1, C1, e1, by go_num, by omega, rfl, ?_⟩
                have hm3 := hm2.sub (.cons_cons _ (.cons _ (List.Sublist.refl _)))
                rw [show xn + (i + 1) = xn + i + 1 by omega, marksA_succ, fV_app]
                exact hm3
              case measure => simp [intOf]; omega
            · obtain rfl : i = 64 := by omega
              go_wp2_with (at_builtin; refine wp_app rfl _ _ _ rfl 28 iS _ 1 24 ty_VVs si sz0 sz1 sz2 rfl B j d _ rfl (Mem.mid2 (A := _ :: _ :: exts (ps.eraseIdx j)) (hm.alloc _)) _ 1 1 [.slice C (xn + 64) e] rfl (RdC.lit _ _ _ _ _ rfl (by simp [maxLen]) (svs_one [⟨0, 0, C, xn + 64, e, []⟩])) (by unfold maxLen; omega) (by omega) ?_; intro B1 d1 w2 hm2)
              go_roundw
              case rel =>
                have hm3 := Mem.unmid2 (A := extc (⟨xfn, xpc, xA, xn, xc, marksA j xn⟩, ⟨0, 0, C, xn + 64, e, marksA j (xn + 64)⟩) :: exts (ps.eraseIdx j)) (hm2.sub (.cons_cons _ (.cons _ (List.Sublist.refl _))))
                have hm4 := exts_put (k := j) (by have := hpl.out; omega) hm3
                have hp1 := hp.out
                have e0 : (ps.map Prod.snd).take j ++ [⟨0, 0, C, xn + 64, e, marksA j (xn + 64)⟩] = ((ps.set j (⟨xfn, xpc, xA, xn, xc, marksA j xn⟩, ⟨0, 0, C, xn + 64, e, marksA j (xn + 64)⟩)).map Prod.snd).take (j + 1) := by
                  rw [List.map_set, List.take_succ_eq_append_getElem (by simp; have := hpl.out; omega), List.take_set_of_le (Nat.le_refl _)]
                  simp
                refine ⟨j + 1, B1, d1, ps.set j (⟨xfn, xpc, xA, xn, xc, marksA j xn⟩, ⟨0, 0, C, xn + 64, e, marksA j (xn + 64)⟩), by go_num, by omega, rfl, ?_, ⟨?_, fun i h1 h2 => ?_, fun i h1 => ?_⟩⟩
                rotate_left 1
                · rw [List.map_set, hp1.1]
                  apply List.ext_getElem?
                  intro i
                  rw [List.getElem?_set]
                  by_cases e : j = i
                  · subst e
                    have := hz.out.1
                    rw [if_pos rfl, if_pos (by omega), getD_some zs fr0 j (by omega), hxe.out]
                  · rw [if_neg e]
                · rw [getD_set _ _ _ _ _ (by have := hpl.out; omega), if_neg (by omega)]
                  exact hp1.2.1 i (by omega) h2
                · rw [getD_set _ _ _ _ _ (by have := hpl.out; omega)]
                  by_cases e : i = j
                  · subst e; rw [if_pos rfl, hxe.out]; exact ⟨rfl, rfl⟩
                  · rw [if_neg e]; exact hp1.2.2 i (by omega)
                · rw [← e0]
                  simpa [svs, sv] using hm4
              case measure => simp [intOf]; omega
        · obtain rfl : j = k := by omega
          have hps : (ps.map Prod.snd).take j = ps.map Prod.snd := List.take_of_length_le (by simp; have := hpl.out; omega)
          rw [hps] at hm
          clear hps hlt2
          go_wp2
          obtain ⟨wo, hwo⟩ : ∃ wo : World, wo = wr := ⟨_, rfl⟩
          rw [← hwo] at hm ⊢
          clear hwo
          go_loopw [9] (fun v w' => ∃ (k : Nat), v = .int .i64 k ∧ k ≤ j ∧ Gr wo w') (fun v _ => j - (intOf v).toNat)
          case atStart => exact ⟨0, rfl, by omega, Gr.refl _⟩
          case round =>
            obtain ⟨k, rfl, hk, hg⟩ := hrel
            have hmr := hm.gr hg
            by_cases hlt2 : k < j
            · have hrd := hmr.rd (size := 1) (v := .slice A j c) (xs := svs zs) (by simp)
              obtain ⟨bo, oo, c0, rfl, h1, h2, _, _⟩ := hrd.at1 k hlt2
              rw [svs_at zs k (by have := hz.out.1; omega)] at h2
              cases h2
              have hrd2 := hmr.rd (size := 1) (v := .slice B j d) (xs := svs (ps.map Prod.snd)) (by simp)
              obtain ⟨bg, og, c0, rfl, g1, g2, _, _⟩ := hrd2.at1 k hlt2
              rw [svs_at _ k (by simp; have := hpl.out; omega), getD_map Prod.snd ps k pr0 fr0 (by have := hpl.out; omega)] at g2
              cases g2
              have hfst : (ps.getD k pr0).1 = zs.getD k fr0 := by
                have e := hp.out.1
                rw [← e, getD_map Prod.fst ps k pr0 fr0 (by have := hpl.out; omega)]
              have hpm : ps.getD k pr0 ∈ ps := List.mem_of_getElem? (getD_some ps pr0 k (by have := hpl.out; omega))
              have hext := hmr.ok (extc (ps.getD k pr0)) (List.mem_append.2 (.inl (List.mem_map.2 ⟨_, hpm, rfl⟩)))
              have q1 := (hp.out.2.2 k (by omega)).1
              have q2 := (hp.out.2.2 k (by omega)).2
              have q3 := hz.out.2.2 k (by omega)
              have hy : zs.getD k fr0 ∈ zs := List.mem_of_getElem? (getD_some zs fr0 k (by have := hz.out.1; omega))
              have q4 := hz.out.2.1 _ hy
              have r1 := hext.1.rd
              have r2 := ExtAt.rd0 hext
              rw [hfst] at r2
              clear hfst hpm hext hrd hrd2 hy
              generalize zs.getD k fr0 = x at *
              generalize (ps.getD k pr0).2 = y at *
              obtain ⟨xfn, xpc, xA, xn, xc, xsl⟩ := x
              obtain ⟨yfn, ypc, yA, yn, yc, ysl⟩ := y
              simp only [sv] at h1 g1 r1 r2
              try dsimp only at q1 q2 q3 q4
              subst q3
              subst q1
              subst q2
              have r1 := Fact.mk r1
              have r2 := Fact.mk r2
              have hgk := Fact.mk hg
              clear hm hmr hp hz hg
              have h1 := Fact.mk h1
              have g1 := Fact.mk g1
              have h2' := h1.out
              have g2' := g1.out
              go_wp2
              obtain ⟨wk, hwk⟩ : ∃ wk : World, wk = wr := ⟨_, rfl⟩
              rw [← hwk] at h1 g1 r1 r2 hgk ⊢
              clear hwk h2' g2'
              go_loopw [10] (fun v w' => ∃ (i : Nat), v = .int .i64 i ∧ i ≤ xn + 64 ∧ Gr wk w') (fun v _ => xn + 64 - (intOf v).toNat)
              case atStart => exact ⟨0, rfl, by omega, Gr.refl _⟩
              case round =>
                obtain ⟨i, rfl, hi1, hg⟩ := hrel
                have h2 := hg.cell h1.out
                have g2 := hg.cell g1.out
                by_cases hlt3 : i < xn + 64
                · obtain ⟨ba, oa, rfl, a1, a2, _, _⟩ := rdV_at r1.out i hlt3
                  rw [marksA_at k (xn + 64) i hlt3] at a1 a2
                  by_cases hlt4 : i < xn
                  · obtain ⟨bb, ob, rfl, b1, b2, _, _⟩ := rdV_at r2.out i hlt4
                    rw [marksA_at k xn i hlt4] at b1 b2
                    have a1 := Fact.mk (hg.cell a1)
                    have a2 := Fact.mk (hg.cell a2)
                    have b1 := Fact.mk (hg.cell b1)
                    have b2 := Fact.mk (hg.cell b2)
                    go_upto_region 25 with (fail)
                    have hw := (Mem.start wr).alloc (.cells [.int .i64 (-10 - (k : Int)), .int .i64 (i : Int)].toArray 36)
                    generalize hg1 : wr.heap.size = g0 at hw ⊢
                    generalize hw1 : wr.alloc (.cells [.int .i64 (-10 - (k : Int)), .int .i64 (i : Int)].toArray 36) = w1 at hw
                    try refine wp_world hw1 ?_
                    clear hw1 hg1
                    have k1 := hw.cell m0 0 rfl
                    have k2 := hw.cell m0 1 rfl
                    have a1 := Gr.cell hw.below a1.out
                    have a2 := Gr.cell hw.below a2.out
                    have h2 := Gr.cell hw.below h2
                    have g2 := Gr.cell hw.below g2
                    have b1 := Gr.cell hw.below b1.out
                    have b2 := Gr.cell hw.below b2.out
                    have hgr := hg.trans hw.below
                    clear hw hm hg
                    go_quiet (fail)
                    go_wp2
                    go_roundw
                    case rel => exact ⟨i + 1, by go_num, by omega, Gr.drewN hgr _⟩
                    case measure => simp [intOf]; omega
                  · have a1 := a1
                    have a1 := Fact.mk (hg.cell a1)
                    have a2 := Fact.mk (hg.cell a2)
                    go_upto_region 25 with (fail)
                    have hw := (Mem.start wr).alloc (.cells [.int .i64 (-10 - (k : Int)), .int .i64 (i : Int)].toArray 36)
                    generalize hg1 : wr.heap.size = g0 at hw ⊢
                    generalize hw1 : wr.alloc (.cells [.int .i64 (-10 - (k : Int)), .int .i64 (i : Int)].toArray 36) = w1 at hw
                    try refine wp_world hw1 ?_
                    clear hw1 hg1
                    have k1 := hw.cell m0 0 rfl
                    have k2 := hw.cell m0 1 rfl
                    have a1 := Gr.cell hw.below a1.out
                    have a2 := Gr.cell hw.below a2.out
                    have h2 := Gr.cell hw.below h2
                    have g2 := Gr.cell hw.below g2
                    have hgr := hg.trans hw.below
                    clear hw hm hg
                    go_quiet (fail)
                    go_wp2
                    go_roundw
                    case rel => exact ⟨i + 1, by go_num, by omega, Gr.drewN hgr _⟩
                    case measure => simp [intOf]; omega
                · go_wp2
                  go_roundw
                  case rel => exact ⟨k + 1, by go_num, by omega, hgk.out.trans hg⟩
                  case measure => simp [intOf]; omega
            · go_wp2
              go_ret
              exact ⟨rfl, (hm.gr hg).sub ((List.sublist_cons_self _ _).trans ((List.sublist_cons_self _ _).trans (List.sublist_append_right _ _)))⟩
end Go.Proofs.YtgflfpepfpekhaaGreat
namespace Go.Proofs.YtgflfpepfpekhaaGreat
open Go.RowKit Go.Mm Go.WideShapes
set_option maxHeartbeats 2000000
set_option maxRecDepth 100000
theorem LentOk.pg {w : World} {p : Pg} {KA : Option Addr} {kc : Nat} {FA : Option Addr} {fc : Nat} {hs : List Fn} (h : LentOk w p KA kc FA fc hs) (hp : PgOk w p) : PgOk w (lentP p KA kc FA fc hs) := by
  have hcl : p.consts.length = p.kn := rd_len cC_len (by omega) hp.consts
  have hfl : p.fns.length = p.fn := rd_len cF_len (by omega) hp.fns
  have hf := h.fns
  have e : fF (List.zipWith lentF p.fns hs ++ hs ++ marksF p.fn 64) = (List.zipWith lentF p.fns hs ++ (hs ++ marksF p.fn 64)).flatMap cF := by rw [← List.append_assoc]; rfl
  rw [e, show 2 * p.fn + 64 = p.fn + (p.fn + 64) by omega] at hf
  have hzl : (List.zipWith lentF p.fns hs).length = p.fn := by have := h.len; rw [List.length_zipWith]; omega
  have key : ∀ f, f ∈ List.zipWith lentF p.fns hs → FnOk w f ∧ f.hn ≤ 1048576 ∧ f.cn ≤ 1048576 := fun f hf => by
    obtain ⟨k, hk, rfl⟩ := List.getElem_of_mem hf
    have hk1 : k < p.fns.length := by simp at hk; omega
    have hk2 : k < hs.length := by simp at hk; omega
    have e1 : p.fns[k] = p.fns.getD k fn0 := by simp [hk1]
    have e2 : hs[k] = hs.getD k fn0 := by simp [hk2]
    have hm1 : p.fns.getD k fn0 ∈ p.fns := by rw [← e1]; exact List.getElem_mem hk1
    have hm2 : hs.getD k fn0 ∈ hs := by rw [← e2]; exact List.getElem_mem hk2
    have hfo := h.full k (by omega)
    have ho := hp.each _ hm1
    have hs := hp.small.2 _ hm1
    have h1 := h.codes _ hm2
    have h2 := h.hands _ hm2
    rw [List.getElem_zipWith, e1, e2]
    obtain ⟨_, _, _, q4, q5, q6, q7⟩ := hfo
    rw [q4, q5] at h1
    rw [q6, q7] at h2
    exact ⟨⟨rd_pre cV_len h1 (rdV_len ho.1), rd_pre cH_len h2 (rdH_len ho.2)⟩, hs.1, hs.2⟩
  exact ⟨rd_pre cC_len h.consts hcl, rd_pre cF_len hf hzl, fun f hf => (key f hf).1, ⟨hp.small.1, fun f hf => (key f hf).2⟩⟩
theorem enterG_lent {w : World} {p : Pg} {KA : Option Addr} {kc : Nat} {FA : Option Addr} {fc : Nat} {hs : List Fn} (h : LentOk w p KA kc FA fc hs) (hp : PgOk w p) (fn : Int) (m : Nat) (args : List V2) :
    enterG (fnAt (lentP p KA kc FA fc hs) fn) m = enterG (fnAt p fn) m ∧ enterD (fnAt (lentP p KA kc FA fc hs) fn) fn args = enterD (fnAt p fn) fn args := by
  have hfl : p.fns.length = p.fn := rd_len cF_len (by omega) hp.fns
  have hl := h.len
  unfold fnAt lentP
  by_cases hi : 0 ≤ fn ∧ fn < p.fn
  · simp only [if_pos hi]
    have e : (List.zipWith lentF p.fns hs).getD fn.toNat fn0 = lentF (p.fns.getD fn.toNat fn0) (hs.getD fn.toNat fn0) := by
      have h1 := getD_some p.fns fn0 fn.toNat (by omega)
      have h2 := getD_some hs fn0 fn.toNat (by omega)
      rw [List.getD_eq_getElem?_getD, List.getElem?_zipWith, h1, h2]
      rfl
    rw [e]
    exact ⟨rfl, rfl⟩
  · simp only [if_neg hi, and_self]
theorem enter_walk (w : World) (p : Pg) (hp : Fact (PgOk w p)) (hk : p.kn ≤ 1048576) (fn : Int) (A : Option Addr) (m c : Nat) (args : List V2) (hx : Fact (RdC w 2 (.slice A m c) (fV args))) (hm0 : m ≤ 1048576) :
    Calls Tryz.prog 22 #[vP p, .int .i64 fn, .slice A m c] w fun e w' => e = .returned (.bool true) ∧ Gr w w' := by
  have hal : Fact (args.length = m) := ⟨rdV_len hx.out⟩
  have hlent := fun (w1 : World) (hg : Gr w w1) => lentProgram_ok w1 p ⟨hp.out.gr hg⟩ hk
  have hkept := fun (w1 : World) (hg : Gr w w1) KA kc FA fc hs (hL : LentOk w1 p KA kc FA fc hs) => keptProgram_ok w1 p ⟨hp.out.gr hg⟩ hk KA kc FA fc hs ⟨hL⟩
  have href := fun (w1 : World) (hg : Gr w w1) => refEnter_ok w1 p ⟨hp.out.gr hg⟩ fn A m c args ⟨hx.out.gr hg⟩ (by omega)
  have hent := fun (w1 : World) (hg : Gr w w1) KA kc FA fc hs (hL : LentOk w1 p KA kc FA fc hs) B d (hr : RdC w1 2 (.slice B m d) (fV args)) => (enter_ok w1 (lentP p KA kc FA fc hs) ⟨hL.pg (hp.out.gr hg)⟩ fn B m d args ⟨hr⟩ (by omega))
  have hge := fun (w1 : World) (hg : Gr w w1) KA kc FA fc hs (hL : LentOk w1 p KA kc FA fc hs) => enterG_lent hL (hp.out.gr hg) fn m args
  have hEDl : (enterD (fnAt p fn) fn args).2.2.length ≤ 1048576 := by
    unfold enterD
    split
    · rename_i h
      unfold enterG at h
      split at h
      · cases h
      · rename_i g hg
        simp at h
        have := hal.out
        simp [hg]; omega
    · simp
  have hEDl := Fact.mk hEDl
  generalize enterD (fnAt p fn) fn args = ED at href hge hEDl
  generalize enterG (fnAt p fn) m = EG at href hge
  have hrw : ∀ (w1 : World) (hg : Gr w w1) KA kc FA fc hs (hL : LentOk w1 p KA kc FA fc hs) B d (hr : RdC w1 2 (.slice B m d) (fV args)), Calls Tryz.prog 7 #[vP (lentP p KA kc FA fc hs), .int .i64 fn, .slice B m d] w1 fun e w' => ∃ y : Fr, e = .returned (.tuple #[.agg (cR y).toArray, .bool EG]) ∧ y.data = ED ∧ New w1 w' (slot y) := fun w1 hg KA kc FA fc hs hL B d hr => by
    have h1 := hent w1 hg KA kc FA fc hs hL B d hr
    rw [(hge w1 hg KA kc FA fc hs hL).1, (hge w1 hg KA kc FA fc hs hL).2] at h1
    exact h1
  clear hent hge
  have hpk : p.kn ≤ 1048576 := hk
  obtain ⟨kA, kn, kc, consts, fA, n, fc, fns⟩ := p
  have hkept2 := Fact.mk hkept
  have hrw2 := Fact.mk hrw
  clear hkept hrw
  simp only [vP] at hlent href ⊢
  have hlent := Fact.mk hlent
  have href := Fact.mk href
  go_enter Tryz.func22, Tryz.ntmps22
  go_upto_region 1 with (fail)
  have hm := ((Mem.start w).alloc (.cells [.slice kA kn kc, .slice fA n fc].toArray 26))
  generalize hgX : w.heap.size = g at hm ⊢
  generalize hwX : (w.alloc (.cells [.slice kA kn kc, .slice fA n fc].toArray 26)) = w1 at hm
  try refine wp_world hwX ?_
  clear hwX hgX
  go_wp2_with (refine wp_rng rfl 26 _ rfl g 0 rfl [.slice kA kn kc, .slice fA n fc] (rng_blk hm m0) row_P szP ?_)
  refine (hlent.out w1 hm.below).mono ?_
  rintro e wb ⟨KA, kc', FA, fc', hs, rfl, hgb, hL⟩
  have hgw : Fact (Gr w wb) := ⟨Gr.trans hm.below hgb⟩
  have hL := Fact.mk hL
  have hmp := Fact.mk (hm.gr hgb)
  clear hm hgb
  simp only [vP, lentP]
  go_upto_region 2 with (refine wp_setrow rfl 26 _ _ rfl _ rfl 26 _ [.slice KA kn kc', .slice FA n fc'] rfl ((Mem.start wb).alloc _) szP rfl (svone _ _) ?_; intro w2 hm)
  generalize wb.heap.size = g7 at hm ⊢
  go_wp2_with fail
  refine (lentValues_ok w2 A m c args ⟨(hx.out.gr hgw.out).gr hm.below⟩ (by omega)).mono ?_
  rintro e w3 ⟨B, d, rfl, hn3⟩
  have hm3 := hm.new hn3
  clear hm hn3
  go_upto_region 3 with (fail)
  go_wp2_with (refine wp_rng rfl 26 _ rfl g 0 rfl [.slice kA kn kc, .slice fA n fc] (rng_blk (hmp.out.gr hm3.below) m0) row_P szP ?_)
  refine (href.out w3 (Gr.trans hgw.out hm3.below)).mono ?_
  rintro e w4 ⟨yR, rfl, hyR, hn4⟩
  have hm4 := hm3.new hn4
  clear hm3 hn4
  obtain ⟨R1, R2, R3, R4, R5, R6⟩ := yR
  simp only [cR]
  go_upto_region 4 with (refine wp_setrow rfl 30 _ _ rfl _ rfl 30 _ [.int .i64 R1, .int .i64 R2, .slice R3 R4 R5] rfl (hm4.alloc _) szR rfl (cR_one ⟨R1, R2, R3, R4, R5, R6⟩) ?_; intro w5 hm5)
  generalize w4.heap.size = g9 at hm5 ⊢
  have hcap := OwnAt.cap (hm5.ok _ m2)
  have hcap1 : m ≤ d := by omega
  have hyR := Fact.mk hyR
  have hlr : Fact (RdC w5 2 (.slice B m d) (fV args)) := ⟨rd_pre cV_len (hm5.rd m2) hal.out⟩
  clear hcap hm4
  have k1 := hm5.cell m3 0 rfl
  have k2 := hm5.cell m3 1 rfl
  have hgl := Fact.mk hm5.below
  go_cut [11, 12] (fun s1 s2 W => ∃ (g1 : Nat) (y : Fr), s1 = .pointer (some ⟨g1, 0, none⟩) ∧ s2 = .bool EG ∧ y.data = ED ∧ Mem wb W (Blk g1 (.cells (cR y).toArray 30) :: slot y :: Blk g9 (.cells [.int .i64 R1, .int .i64 R2, .slice R3 R4 R5].toArray 30) :: slot ⟨R1, R2, R3, R4, R5, R6⟩ :: Own 2 (.slice B (m + 64) d) (fV (args ++ marksV 64)) :: Blk g7 (.cells [.slice KA kn kc', .slice FA n fc'].toArray 26) :: []))
  case first =>
    go_region_held3 (fun W => Gr w5 W ∧ W.cell? ⟨g7, 0, none⟩ = some (.slice KA kn kc') ∧ W.cell? ⟨g7, 1, none⟩ = some (.slice FA n fc')) ((refine (fun hG => ⟨hG, hG.cell k1, hG.cell k2⟩ : Gr w5 _ → _) ?_; repeat (first | with_reducible exact Gr.refl _ | assumption | with_reducible refine Gr.setc ?_ (Nat.le_refl _) _ | with_reducible refine Gr.drew ?_ | with_reducible refine Gr.alloc ?_ _))) ((go_at_call 7; refine (hrw2.out _ (Gr.trans hgw.out (Gr.trans hgl.out (by repeat (first | with_reducible exact Gr.refl _ | assumption | with_reducible refine Gr.setc ?_ (Nat.le_refl _) _ | with_reducible refine Gr.drew ?_ | with_reducible refine Gr.alloc ?_ _)))) KA kc' FA fc' hs (hL.out.gr (Gr.trans hgl.out (by repeat (first | with_reducible exact Gr.refl _ | assumption | with_reducible refine Gr.setc ?_ (Nat.le_refl _) _ | with_reducible refine Gr.drew ?_ | with_reducible refine Gr.alloc ?_ _)))) B d (hlr.out.gr (by repeat (first | with_reducible exact Gr.refl _ | assumption | with_reducible refine Gr.setc ?_ (Nat.le_refl _) _ | with_reducible refine Gr.drew ?_ | with_reducible refine Gr.alloc ?_ _)))).mono ?_; rintro e wE ⟨⟨y1, y2, y3, y4, y5, y6⟩, rfl, hyd, hnw⟩; simp only [cR]; have hgr : Gr w5 wE := Gr.trans (by repeat (first | with_reducible exact Gr.refl _ | assumption | with_reducible refine Gr.setc ?_ (Nat.le_refl _) _ | with_reducible refine Gr.drew ?_ | with_reducible refine Gr.alloc ?_ _)) hnw.gr; (try (have hmB := hm5.drew.new hnw)); (try (have qh := hnw.gr.heap (k := w5.heap.size) (o := .cells [.int .i64 0, .int .i64 0, .slice none 0 0].toArray 30) (by first | exact heap_alloc_new w5 _ | exact heap_alloc_new w5.drew _); have hmA := ((((hm5.alloc (.cells [.int .i64 0, .int .i64 0, .slice none 0 0].toArray 30)).drew.new hnw).swap.set 0 (.int .i64 y1)).set 1 (.int .i64 y2)).set 2 (.slice y3 y4 y5); obtain ⟨q0, f0⟩ := blk_cell (u := .int .i64 0) qh 0 rfl; obtain ⟨q1, f1⟩ := blk_cell (u := .int .i64 0) qh 1 rfl; obtain ⟨q2, f2⟩ := blk_cell (u := .slice none 0 0) qh 2 rfl))))
    all_goals
      go_wp2
      try simp only [Act.put, List.getElem_toArray, List.getElem_cons_succ, List.getElem_cons_zero, List.setIfInBounds_toArray, List.set_cons_succ, List.set_cons_zero]
      go_meet
      case rel => first
        | exact ⟨_, ⟨y1, y2, y3, y4, y5, y6⟩, rfl, rfl, hyd, hmA⟩
        | exact ⟨_, ⟨y1, y2, y3, y4, y5, y6⟩, rfl, rfl, hyd, hmB.alloc _⟩
        | exact ⟨_, ⟨y1, y2, y3, y4, y5, y6⟩, rfl, rfl, hyd, hmA.drew⟩
        | exact ⟨_, ⟨y1, y2, y3, y4, y5, y6⟩, rfl, rfl, hyd, (hmB.alloc _).drew⟩
  case rest =>
    obtain ⟨g11, ⟨a1, a2, a3, a4, a5, a6⟩, rfl, rfl, hya, hm6⟩ := hcut
    clear hm5 k1 k2 hgl hlr
    have hya := Fact.mk hya
    obtain ⟨wd, rfl⟩ : ∃ wd : World, wd = wc := ⟨_, rfl⟩
    go_upto_region 5 with (fail)
    have hlr : Fact (RdC wd 2 (.slice B m d) (fV args)) := ⟨rd_pre cV_len (hm6.rd m4) hal.out⟩
    have k1 := hm6.cell m5 0 rfl
    have k2 := hm6.cell m5 1 rfl
    have hgl := Fact.mk hm6.below
    go_cut [13, 14] (fun s1 s2 W => ∃ (g1 : Nat) (y : Fr), s1 = .pointer (some ⟨g1, 0, none⟩) ∧ s2 = .bool EG ∧ y.data = ED ∧ Mem wb W (Blk g1 (.cells (cR y).toArray 30) :: slot y :: Blk g11 (.cells (cR ⟨a1, a2, a3, a4, a5, a6⟩).toArray 30) :: slot ⟨a1, a2, a3, a4, a5, a6⟩ :: Blk g9 (.cells [.int .i64 R1, .int .i64 R2, .slice R3 R4 R5].toArray 30) :: slot ⟨R1, R2, R3, R4, R5, R6⟩ :: Own 2 (.slice B (m + 64) d) (fV (args ++ marksV 64)) :: Blk g7 (.cells [.slice KA kn kc', .slice FA n fc'].toArray 26) :: []))
    case first =>
      go_region_held3 (fun W => Gr wd W ∧ W.cell? ⟨g7, 0, none⟩ = some (.slice KA kn kc') ∧ W.cell? ⟨g7, 1, none⟩ = some (.slice FA n fc')) ((refine (fun hG => ⟨hG, hG.cell k1, hG.cell k2⟩ : Gr wd _ → _) ?_; repeat (first | with_reducible exact Gr.refl _ | assumption | with_reducible refine Gr.setc ?_ (Nat.le_refl _) _ | with_reducible refine Gr.drew ?_ | with_reducible refine Gr.alloc ?_ _))) ((go_at_call 7; refine (hrw2.out _ (Gr.trans hgw.out (Gr.trans hgl.out (by repeat (first | with_reducible exact Gr.refl _ | assumption | with_reducible refine Gr.setc ?_ (Nat.le_refl _) _ | with_reducible refine Gr.drew ?_ | with_reducible refine Gr.alloc ?_ _)))) KA kc' FA fc' hs (hL.out.gr (Gr.trans hgl.out (by repeat (first | with_reducible exact Gr.refl _ | assumption | with_reducible refine Gr.setc ?_ (Nat.le_refl _) _ | with_reducible refine Gr.drew ?_ | with_reducible refine Gr.alloc ?_ _)))) B d (hlr.out.gr (by repeat (first | with_reducible exact Gr.refl _ | assumption | with_reducible refine Gr.setc ?_ (Nat.le_refl _) _ | with_reducible refine Gr.drew ?_ | with_reducible refine Gr.alloc ?_ _)))).mono ?_; rintro e wE ⟨⟨y1, y2, y3, y4, y5, y6⟩, rfl, hyd, hnw⟩; simp only [cR]; have hgr : Gr wd wE := Gr.trans (by repeat (first | with_reducible exact Gr.refl _ | assumption | with_reducible refine Gr.setc ?_ (Nat.le_refl _) _ | with_reducible refine Gr.drew ?_ | with_reducible refine Gr.alloc ?_ _)) hnw.gr; (try (have hmB := hm6.drew.new hnw)); (try (have qh := hnw.gr.heap (k := wd.heap.size) (o := .cells [.int .i64 0, .int .i64 0, .slice none 0 0].toArray 30) (by first | exact heap_alloc_new wd _ | exact heap_alloc_new wd.drew _); have hmA := ((((hm6.alloc (.cells [.int .i64 0, .int .i64 0, .slice none 0 0].toArray 30)).drew.new hnw).swap.set 0 (.int .i64 y1)).set 1 (.int .i64 y2)).set 2 (.slice y3 y4 y5); obtain ⟨q0, f0⟩ := blk_cell (u := .int .i64 0) qh 0 rfl; obtain ⟨q1, f1⟩ := blk_cell (u := .int .i64 0) qh 1 rfl; obtain ⟨q2, f2⟩ := blk_cell (u := .slice none 0 0) qh 2 rfl))))
      all_goals
        go_wp2
        try simp only [Act.put, List.getElem_toArray, List.getElem_cons_succ, List.getElem_cons_zero, List.setIfInBounds_toArray, List.set_cons_succ, List.set_cons_zero]
        go_meet
        case rel => first
          | exact ⟨_, ⟨y1, y2, y3, y4, y5, y6⟩, rfl, rfl, hyd, hmA⟩
          | exact ⟨_, ⟨y1, y2, y3, y4, y5, y6⟩, rfl, rfl, hyd, hmB.alloc _⟩
          | exact ⟨_, ⟨y1, y2, y3, y4, y5, y6⟩, rfl, rfl, hyd, hmA.drew⟩
          | exact ⟨_, ⟨y1, y2, y3, y4, y5, y6⟩, rfl, rfl, hyd, (hmB.alloc _).drew⟩
    case rest =>
      obtain ⟨g13, ⟨b1, b2, b3, b4, b5, b6⟩, rfl, rfl, hyb, hm7⟩ := hcut
      clear hm6 k1 k2 hgl hlr
      have hyb := Fact.mk hyb
      have lR : R6.length = R4 := rdV_len (hm7.ok _ m5).rd
      have la : a6.length = a4 := rdV_len (hm7.ok _ m3).rd
      have lb : b6.length = b4 := rdV_len (hm7.ok _ m1).rd
      have sR := Fact.mk (hm7.ok _ m5).rd
      have sa := Fact.mk (hm7.ok _ m3).rd
      have sb := Fact.mk (hm7.ok _ m1).rd
      obtain ⟨E1, E2, E3⟩ := ED
      have iR := hyR.out
      have ia := hya.out
      have ib := hyb.out
      have hE := hEDl.out
      simp only [Fr.data, Prod.mk.injEq] at iR ia ib hE
      obtain ⟨rfl, rfl, rfl⟩ := iR
      obtain ⟨rfl, rfl, rfl⟩ := ia
      obtain ⟨rfl, rfl, rfl⟩ := ib
      subst lR
      obtain rfl : b4 = b6.length := lb.symm
      obtain rfl : a4 = b6.length := la.symm
      have hm7 := Fact.mk hm7
      simp only [cR] at hm7
      clear hyR hya hyb la lb
      go_wp2_with (first | (refine wp_rng rfl 30 _ rfl g11 0 rfl [.int .i64 b1, .int .i64 b2, .slice a3 b6.length a5] (rng_blk hm7.out m2) row_R szR ?_) | (refine wp_rng rfl 30 _ rfl g9 0 rfl [.int .i64 b1, .int .i64 b2, .slice R3 b6.length R5] (rng_blk hm7.out m4) row_R szR ?_))
      refine (sameFrame_ok wc b1 b2 a3 R3 b6.length a5 R5 b6 sa sR (by omega)).mono ?_
      rintro e wf ⟨rfl, hgf⟩
      have hm8 := Fact.mk (hm7.out.gr hgf)
      go_wp2_with (first | (refine wp_rng rfl 30 _ rfl g13 0 rfl [.int .i64 b1, .int .i64 b2, .slice b3 b6.length b5] (rng_blk hm8.out m0) row_R szR ?_) | (refine wp_rng rfl 30 _ rfl g9 0 rfl [.int .i64 b1, .int .i64 b2, .slice R3 b6.length R5] (rng_blk hm8.out m4) row_R szR ?_))
      refine (sameFrame_ok wf b1 b2 b3 R3 b6.length b5 R5 b6 ⟨sb.out.gr hgf⟩ ⟨sR.out.gr hgf⟩ (by omega)).mono ?_
      rintro e wg ⟨rfl, hgg⟩
      have hm9 := Fact.mk (hm8.out.gr hgg)
      clear hgf hgg
      have hk9 := hkept2.out wg (Gr.trans hgw.out hm9.out.below) KA kc' FA fc' hs (hL.out.gr hm9.out.below)
      simp only [vP, lentP] at hk9
      have hk9 := Fact.mk hk9
      go_wp2_with (first | (refine wp_rng rfl 26 _ rfl g7 0 rfl [.slice KA kn kc', .slice FA n fc'] (rng_blk hm9.out (.tail _ m6)) row_P szP ?_) | (refine wp_rng rfl 26 _ rfl g 0 rfl [.slice kA kn kc, .slice fA n fc] (rng_blk (hmp.out.gr hm9.out.below) m0) row_P szP ?_))
      refine hk9.out.mono ?_
      rintro e wh ⟨rfl, hgh⟩
      have hm10 := Fact.mk (hm9.out.gr hgh)
      clear hgh hk9
      go_wp2_with fail
      refine (keptValues_ok wh B m d A c args ⟨hm10.out.rd m6⟩ ⟨(hx.out.gr hgw.out).gr hm10.out.below⟩ (by omega)).mono ?_
      rintro e wi ⟨rfl, hgi⟩
      have hm11 := hm10.out.gr hgi
      clear hgi
      have d1 := hm11.cell m2 2 rfl
      have d2 := hm11.cell m0 2 rfl
      go_upto_region 10 with (fail)
      go_wp2_with fail
      have hA1 := ((hm11.alloc (.cells [.slice a3 b6.length a5, .slice b3 b6.length b5].toArray 28)).sel 9 [0, 4, 2, 7, 1, 3, 5, 6, 8] (by decide))
      have hA2 := Mem.blk_own (n := 2) (size := 1) hA1 rfl (by simp [maxLen]) (svs_one [⟨b1, b2, a3, b6.length, a5, b6⟩, ⟨b1, b2, b3, b6.length, b5, b6⟩])
      have hA3 := hA2.sel 3 [1, 2, 0] (by decide)
      refine (apartValues_ok wb _ (some ⟨wi.heap.size, 0, none⟩) 2 2 1048576 [⟨b1, b2, a3, b6.length, a5, b6⟩, ⟨b1, b2, b3, b6.length, b5, b6⟩] _ hA3 ⟨rfl⟩ ⟨fun y hy => by simp at hy; rcases hy with rfl | rfl <;> exact hE⟩ (by omega) (by omega)).mono ?_
      rintro e wj ⟨rfl, hm12⟩
      clear hA1 hA2 hA3 hm11 d1 d2
      go_wp2_with fail
      refine (keptValues_ok wj B m d A c args ⟨hm12.rd m0⟩ ⟨(hx.out.gr hgw.out).gr hm12.below⟩ (by omega)).mono ?_
      rintro e wk ⟨rfl, hgk⟩
      have hfin := Gr.trans hgw.out (Gr.trans hm12.below hgk)
      go_wp2
      go_ret
      exact ⟨rfl, hfin⟩
end Go.Proofs.YtgflfpepfpekhaaGreat
namespace Go.Mm
open Go.RowKit
section
variable {P : Program} {ops : Array Oper} {Q : Exit → Act → World → Prop}
theorem step_callw {o : Oper} {a : Act} {w : World} {K : Act → World → Prop} {E : Prop} (hw : Region.wanted o (yielded ops a.tmps) = true) (f : FuncId) (fn : Func) (hf : P.funcs[f]? = some fn) (hn : (fn.name == "runtime.NumGoroutine") = false) (hb : fn.body.isNone = false) (xs : Array Operand) (ts : Array TypeId) (ho : o.op = .call { callee := .value (.func f), args := xs, argTypes := ts })
    (args : Array Value) (ha : xs.map a.eval = args) (h : Calls P f args w fun e w' => ∃ v, e = .returned v ∧ K (a.put o.dst v) w') :
    if Region.wanted o (yielded ops a.tmps) = true then o.wp P a w K Q else E := by
  rw [if_pos hw]
  have hr : execOp a.eval o = callFunc f args := by
    unfold execOp
    simp only [ho]
    rw [← ha]
    show callFunc f (#[] ++ xs.map a.eval ++ #[]) = _
    simp
  unfold Oper.wp
  rw [hr, run_call f fn hf hn hb]
  exact h.mono fun e w' he => by obtain ⟨v, rfl, hK⟩ := he; exact hK
end
theorem step_appw {P : Program} {ops : Array Oper} {o : Oper} {a : Act} {K : Act → World → Prop} {Q : Exit → Act → World → Prop} {E : Prop} {w0 w : World} {L : List Chunk} (hw : Region.wanted o (yielded ops a.tmps) = true) (s x : Operand) (t : TypeId)
    (ho : o.op = .call { callee := .builtin .append, args := #[s, x], argTypes := #[t, t] })
    (e : TypeId) (i : TypeInfo) (z : Value) (size bytes : Nat) (ht : P.underlying t = some (.slice e)) (hi : P.info? e = some i) (hz : i.zero = some z)
    (hsize : i.size = size) (hby : i.bytes = bytes) (hzs : z.cells.size = size)
    (b : Option Addr) (n c : Nat) (xs : List Value) (hs : a.eval s = .slice b n c) (hm : Mem w0 w (Own size (.slice b n c) xs :: L))
    (ad : Option Addr) (m d : Nat) (news : List Value) (hx : a.eval x = .slice ad m d) (hnews : RdC w size (.slice ad m d) news)
    (h63 : n + m ≤ maxLen) (hbytes : (n + m) * bytes ≤ 140737488355328)
    (h : ∀ b' c' w', Mem w0 w' (Own size (.slice b' (n + m) c') (xs ++ news) :: L) → K (a.put o.dst (.slice b' (n + m) c')) w') :
    if Region.wanted o (yielded ops a.tmps) = true then Oper.wp P o a w K Q else E := by
  rw [if_pos hw]
  obtain ⟨b', c', w', hr, h2, h3, h4⟩ := run_app (P := P) w t o.type e i z size bytes ht hi hz hsize hby hzs b n c xs (hm.ok _ (List.mem_cons_self ..)) ad m d news hnews h63 hbytes
  unfold Oper.wp execOp
  simp only [ho, resolve, invoke, builtin, Sem.run_bind, Sem.run_pure, Result.andThen_ok, List.map_toArray, List.map_cons, List.map_nil, hs, hx, hr]
  exact h b' c' w' (hm.upd h3 h2 h4)
end Go.Mm
