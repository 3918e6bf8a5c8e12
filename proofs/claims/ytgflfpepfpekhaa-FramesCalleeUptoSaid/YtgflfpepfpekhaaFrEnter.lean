import Derived.Test.YtgflfpepfpekhaaFrFun
import Derived.Test.YtgflfpepfpekhaaFrCopy
import Derived.Test.YtgflfpepfpekhaaExt
namespace Go.Proofs.Ytgflfpepfpekhaa
open Go.RowKit Go.Mm
set_option maxHeartbeats 1000000
set_option maxRecDepth 100000
/-- What a function begins with. -/
def enterG (G : Option Fn) (m : Nat) : Bool :=
  match G with
  | none => false
  | some g => decide (g.params = m) && decide ((m : Int) ≤ g.locals) && decide (g.locals ≤ 64)
def enterD (G : Option Fn) (fn : Int) (args : List V2) : FrD :=
  if enterG G args.length then (fn, 0, args ++ List.replicate (((G.getD fn0).locals).toNat - args.length) (0, 0)) else (0, 0, [])
theorem enter_ok (w : World) (p : Pg) (hp : Fact (PgOk w p)) (fn : Int) (A : Option Addr) (m c : Nat) (args : List V2) (hx : Fact (RdC w 2 (.slice A m c) (fV args))) (hm0 : m ≤ 4194304) :
    Calls Try.prog 16 #[vP p, .int .i64 fn, .slice A m c] w fun e w' => ∃ y : Fr, e = .returned (.tuple #[.agg (cR y).toArray, .bool (enterG (fnAt p fn) m)]) ∧ y.data = enterD (fnAt p fn) fn args ∧ New w w' (slot y) := by
  have hf := fun (w1 : World) (hg : Gr w w1) => function_ok w1 p ⟨hp.out.gr hg⟩ fn
  have hal : Fact (args.length = m) := ⟨rdV_len hx.out⟩
  have hED : enterD (fnAt p fn) fn args = (if enterG (fnAt p fn) m then (fn, 0, args ++ List.replicate ((((fnAt p fn).getD fn0).locals).toNat - m) (0, 0)) else (0, 0, [])) := by unfold enterD; rw [hal.out]
  have hED := Fact.mk hED
  generalize enterD (fnAt p fn) fn args = ED at hED ⊢
  generalize fnAt p fn = G at hf hED ⊢
  generalize hEGe : enterG G m = EG at hED ⊢
  have hEG := Fact.mk hEGe
  clear hEGe
  obtain ⟨iV, hi, hz0, hz1, hz2⟩ := info_parts inf_V
  obtain ⟨kA, kn, kc, consts, fA, fnn, fc, fns⟩ := p
  simp only [vP] at hf ⊢
  go_enter Try.func16, Try.ntmps16
  go_upto_region 1 with (fail)
  have hm := (((Mem.start w).alloc (.cells [.slice kA kn kc, .slice fA fnn fc].toArray 25)).alloc (.cells (cR fr0).toArray 30))
  simp only [World.size_alloc] at hm
  generalize hgX : w.heap.size = g at hm ⊢
  generalize hwX : ((w.alloc (.cells [.slice kA kn kc, .slice fA fnn fc].toArray 25)).alloc (.cells (cR fr0).toArray 30)) = w1 at hm
  try refine wp_world hwX ?_
  clear hwX hgX
  have c1 := hm.cell m1 0 rfl
  have c2 := hm.cell m1 1 rfl
  go_wp2_with fail
  refine (hf w1 hm.below).mono ?_
  rintro e w2 ⟨rfl, hg2⟩
  have hm2 := hm.gr hg2
  clear hm c1 c2 hg2 hf
  cases G with
  | none =>
    obtain rfl : EG = false := hEG.out.symm
    go_upto_region 2 with (refine wp_setrow rfl 87 _ _ rfl _ rfl 87 _ (cF fn0) rfl (hm2.alloc _) szF rfl (cF_one _) ?_; intro w3 hm3)
    generalize w2.heap.size = g8 at hm3 ⊢
    go_wp2_with (refine wp_setrow rfl 30 _ _ rfl _ rfl 30 _ (cR fr0) rfl (hm3.sel 2 [1, 0] (by decide)) szR rfl (cR_one fr0) ?_; intro w4 hm4)
    refine bodyPost_ret (Mm.res_cell_tmp rfl _ (g + 1) 30 (cR fr0) (0, 0) rfl hm4 m0 row_R szR) rfl ⟨fr0, rfl, by rw [hED.out]; rfl, ((hm4.nil 2 none).sub (.cons_cons _ (List.nil_sublist _))).new_of⟩
  | some G =>
    obtain ⟨name, params, locals, cA, cn, cc, code, hA, hhn, hhc, hands⟩ := G
    have hgd : ((some (⟨name, params, locals, cA, cn, cc, code, hA, hhn, hhc, hands⟩ : Fn)).getD fn0).locals = locals := rfl
    rw [hgd] at hED
    clear hgd
    simp only [enterG] at hEG
    simp only [Option.getD_some, Option.isSome_some, cF]
    go_upto_region 2 with (refine wp_setrow rfl 87 _ _ rfl _ rfl 87 _ [.string name, .int .i64 params, .int .i64 locals, .slice cA cn cc, .slice hA hhn hhc] rfl (hm2.alloc _) szF rfl (cF_one ⟨name, params, locals, cA, cn, cc, code, hA, hhn, hhc, hands⟩) ?_; intro w3 hm3)
    generalize w2.heap.size = g8 at hm3 ⊢
    have c1 := hm3.cell m0 1 rfl
    have c2 := hm3.cell m0 2 rfl
    by_cases h1 : params = (m : Int)
    · by_cases h2 : (m : Int) ≤ locals
      · by_cases h3 : locals ≤ 64
        · obtain ⟨L, rfl⟩ : ∃ L : Nat, locals = (L : Int) := ⟨locals.toNat, by omega⟩
          obtain rfl : EG = true := by rw [← hEG.out]; simp [h1, h2, h3]
          have e1 : decide ((L : Int) > 64) = false := by simp; omega
          have e2 : decide ((L : Int) < (m : Int)) = false := by simp; omega
          have hmL : m ≤ L := by omega
          have hr := Fact.mk (hx.out.gr hm3.below)
          subst h1
          clear hEG
          go_upto_region 4 with (fail)
          go_wp2_with (first | (at_make; refine wp_make cV (0, 0) 2 16 (by omega) cV_len cV_one rfl _ _ _ 41 rfl ty_Vs iV _ hi hz0 hz1 hz2 rfl _ L rfl rfl rfl (by omega) (by unfold maxLen; omega) hm3 ?_; intro g5 w4 hm4) | (refine wp_copy_own rfl _ _ 26 26 rfl 41 ty_Vs sz_V rfl A m c (fV args) rfl (hx.out.gr hm4.below) hm4 hmL ?_; intro w5 hm5) | (refine wp_setrow rfl 30 _ _ rfl _ rfl 30 _ [.int .i64 fn, .int .i64 0, .slice (some ⟨g5, 0, none⟩) L L] rfl (hm5.sel 3 [2, 0, 1] (by decide)) szR rfl (cR_one ⟨fn, 0, some ⟨g5, 0, none⟩, L, L, []⟩) ?_; intro w6 hm6))
          have e3 : fV args ++ ((List.replicate L ((0, 0) : V2)).flatMap cV).drop (m * 2) = fV (args ++ List.replicate (L - m) (0, 0)) := by
            rw [← flatMap_drop cV 2 cV_len, List.drop_replicate, fV_app]; rfl
          rw [e3] at hm6
          refine bodyPost_ret (Mm.res_cell_tmp rfl _ (g + 1) 30 [.int .i64 fn, .int .i64 0, .slice (some ⟨g5, 0, none⟩) L L] (0, 0) rfl hm6 m0 row_R szR) rfl ⟨⟨fn, 0, some ⟨g5, 0, none⟩, L, L, args ++ List.replicate (L - m) (0, 0)⟩, rfl, by rw [hED.out]; rfl, (hm6.sel 2 [1] (by decide) |>.sub (.cons_cons _ (List.nil_sublist _))).new_of⟩
        · obtain rfl : EG = false := by rw [← hEG.out]; simp [h3]
          have e1 : decide (locals > 64) = true := by simp; omega
          have e2 : decide (locals < (m : Int)) = false := by simp; omega
          subst h1
          clear hEG
          go_wp2_with (refine wp_setrow rfl 30 _ _ rfl _ rfl 30 _ (cR fr0) rfl (hm3.sel 2 [1, 0] (by decide)) szR rfl (cR_one fr0) ?_; intro w4 hm4)
          refine bodyPost_ret (Mm.res_cell_tmp rfl _ (g + 1) 30 (cR fr0) (0, 0) rfl hm4 m0 row_R szR) rfl ⟨fr0, rfl, by rw [hED.out]; rfl, ((hm4.nil 2 none).sub (.cons_cons _ (List.nil_sublist _))).new_of⟩
      · obtain rfl : EG = false := by rw [← hEG.out]; simp [h2]
        have e2 : decide (locals < (m : Int)) = true := by simp; omega
        subst h1
        clear hEG
        go_wp2_with (refine wp_setrow rfl 30 _ _ rfl _ rfl 30 _ (cR fr0) rfl (hm3.sel 2 [1, 0] (by decide)) szR rfl (cR_one fr0) ?_; intro w4 hm4)
        refine bodyPost_ret (Mm.res_cell_tmp rfl _ (g + 1) 30 (cR fr0) (0, 0) rfl hm4 m0 row_R szR) rfl ⟨fr0, rfl, by rw [hED.out]; rfl, ((hm4.nil 2 none).sub (.cons_cons _ (List.nil_sublist _))).new_of⟩
    · obtain rfl : EG = false := by rw [← hEG.out]; simp [h1]
      have e2 : (params != (m : Int)) = true := by simpa using h1
      have e3 : (params == (m : Int)) = false := by simpa using h1
      clear hEG
      go_wp2_with (refine wp_setrow rfl 30 _ _ rfl _ rfl 30 _ (cR fr0) rfl (hm3.sel 2 [1, 0] (by decide)) szR rfl (cR_one fr0) ?_; intro w4 hm4)
      refine bodyPost_ret (Mm.res_cell_tmp rfl _ (g + 1) 30 (cR fr0) (0, 0) rfl hm4 m0 row_R szR) rfl ⟨fr0, rfl, by rw [hED.out]; rfl, ((hm4.nil 2 none).sub (.cons_cons _ (List.nil_sublist _))).new_of⟩
end Go.Proofs.Ytgflfpepfpekhaa
