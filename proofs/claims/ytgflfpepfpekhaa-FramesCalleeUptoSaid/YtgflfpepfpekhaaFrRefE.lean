import Derived.Test.YtgflfpepfpekhaaFrEnter
namespace Go.Proofs.Ytgflfpepfpekhaa
open Go.RowKit Go.Mm
set_option maxHeartbeats 1000000
set_option maxRecDepth 100000
theorem refFunction_ok (w : World) (p : Pg) (hp : Fact (PgOk w p)) (i : Int) :
    Calls Try.prog 74 #[vP p, .int .i64 i] w fun e w' => e = .returned (.bool (fnAt p i).isSome) ∧ Gr w w' := by
  have hsm := hp.out.small.1
  have hs : Fact ((fnAt p i).isSome = (decide (0 ≤ i) && decide (i < (p.fn : Int)))) := ⟨by unfold fnAt; by_cases h : 0 ≤ i ∧ i < p.fn <;> simp [h]; omega⟩
  generalize (fnAt p i).isSome = b at hs ⊢
  obtain ⟨kA, kn, kc, consts, fA, fnn, fc, fns⟩ := p
  simp only [vP] at hsm hs ⊢
  by_cases h0 : 0 ≤ i
  · go_enter Try.func74, Try.ntmps74
    go_upto_region 1 with (fail)
    have hm := ((Mem.start w).alloc (.cells [.slice kA kn kc, .slice fA fnn fc].toArray 25))
    generalize hgX : w.heap.size = g at hm ⊢
    generalize hwX : (w.alloc (.cells [.slice kA kn kc, .slice fA fnn fc].toArray 25)) = w1 at hm
    try refine wp_world hwX ?_
    clear hwX hgX
    have c2 := hm.cell m0 1 rfl
    go_wp2
    go_ret
    exact ⟨by rw [hs.out]; simp [h0], hm.below⟩
  · have h1 : decide (i ≥ 0) = false := by simp; omega
    go_enter Try.func74, Try.ntmps74
    go_upto_region 1 with (fail)
    have hm := ((Mem.start w).alloc (.cells [.slice kA kn kc, .slice fA fnn fc].toArray 25))
    generalize hgX : w.heap.size = g at hm ⊢
    generalize hwX : (w.alloc (.cells [.slice kA kn kc, .slice fA fnn fc].toArray 25)) = w1 at hm
    try refine wp_world hwX ?_
    clear hwX hgX
    go_wp2
    go_ret
    exact ⟨by rw [hs.out]; simp; omega, hm.below⟩
theorem refEnter_ok (w : World) (p : Pg) (hp : Fact (PgOk w p)) (fn : Int) (A : Option Addr) (m c : Nat) (args : List V2) (hx : Fact (RdC w 2 (.slice A m c) (fV args))) (hm0 : m ≤ 4194304) :
    Calls Try.prog 15 #[vP p, .int .i64 fn, .slice A m c] w fun e w' => ∃ y : Fr, e = .returned (.tuple #[.agg (cR y).toArray, .bool (enterG (fnAt p fn) m)]) ∧ y.data = enterD (fnAt p fn) fn args ∧ New w w' (slot y) := by
  have hf := fun (w1 : World) (hg : Gr w w1) => refFunction_ok w1 p ⟨hp.out.gr hg⟩ fn
  have hal : Fact (args.length = m) := ⟨rdV_len hx.out⟩
  have hED : enterD (fnAt p fn) fn args = (if enterG (fnAt p fn) m then (fn, 0, args ++ List.replicate ((((fnAt p fn).getD fn0).locals).toNat - m) (0, 0)) else (0, 0, [])) := by unfold enterD; rw [hal.out]
  have hED := Fact.mk hED
  have hfa : Fact (∀ g, fnAt p fn = some g → ∃ b o k, fn = ((k : Nat) : Int) ∧ p.fA = some ⟨b, o, none⟩ ∧ w.rangeAt b (o + k * 5) (cF g) ∧ k < p.fn) := ⟨fun g h => by
    unfold fnAt at h
    split at h
    · rename_i hi
      cases h
      obtain ⟨b, o, eA, hr, _, _⟩ := rd_at cF_len (by omega) fn0 hp.out.fns fn.toNat (by omega)
      exact ⟨b, o, fn.toNat, by omega, eA, hr, by omega⟩
    · cases h⟩
  generalize enterD (fnAt p fn) fn args = ED at hED ⊢
  generalize fnAt p fn = G at hf hED hfa ⊢
  generalize hEGe : enterG G m = EG at hED ⊢
  have hEG := Fact.mk hEGe
  clear hEGe
  obtain ⟨iV, hi, hz0, hz1, hz2⟩ := info_parts inf_V
  obtain ⟨kA, kn, kc, consts, fA, fnn, fc, fns⟩ := p
  simp only [vP] at hf hfa ⊢
  go_enter Try.func15, Try.ntmps15
  go_upto_region 1 with (fail)
  have hm := (((Mem.start w).alloc (.cells [.slice kA kn kc, .slice fA fnn fc].toArray 25)).alloc (.cells (cR fr0).toArray 30))
  simp only [World.size_alloc] at hm
  generalize hgX : w.heap.size = g at hm ⊢
  generalize hwX : ((w.alloc (.cells [.slice kA kn kc, .slice fA fnn fc].toArray 25)).alloc (.cells (cR fr0).toArray 30)) = w1 at hm
  try refine wp_world hwX ?_
  clear hwX hgX
  have c1 := hm.cell m1 0 rfl
  have c2 := hm.cell m1 1 rfl
  go_wp2_with fail
  refine (hf w1 hm.below).mono ?_
  rintro e w2 ⟨rfl, hg2⟩
  have hm2 := hm.gr hg2
  clear hm c1 c2 hg2 hf
  cases G with
  | none =>
    obtain rfl : EG = false := hEG.out.symm
    simp only [Option.isSome_none]
    go_wp2_with (refine wp_setrow rfl 30 _ _ rfl _ rfl 30 _ (cR fr0) rfl hm2 szR rfl (cR_one fr0) ?_; intro w4 hm4)
    refine bodyPost_ret (Mm.res_cell_tmp rfl _ (g + 1) 30 (cR fr0) (0, 0) rfl hm4 m0 row_R szR) rfl ⟨fr0, rfl, by rw [hED.out]; rfl, ((hm4.nil 2 none).sub (.cons_cons _ (List.nil_sublist _))).new_of⟩
  | some G =>
    obtain ⟨b, o, k, rfl, e, r1, hkf⟩ := hfa.out G rfl
    try dsimp only at e hkf
    subst e
    clear hfa
    obtain ⟨name, params, locals, cA, cn, cc, code, hA, hhn, hhc, hands⟩ := G
    have hgd : ((some (⟨name, params, locals, cA, cn, cc, code, hA, hhn, hhc, hands⟩ : Fn)).getD fn0).locals = locals := rfl
    rw [hgd] at hED
    clear hgd
    simp only [enterG] at hEG
    simp only [Option.isSome_some]
    have r2 := rng_gr r1 hm2.below
    have p2 := hm2.cell m1 1 rfl
    go_upto_region 4 with (first | (refine wp_rng rfl 87 _ rfl b _ rfl [.string name, .int .i64 params, .int .i64 locals, .slice cA cn cc, .slice hA hhn hhc] r2 row_F szF ?_) | (refine wp_setrow rfl 87 _ _ rfl _ rfl 87 _ [.string name, .int .i64 params, .int .i64 locals, .slice cA cn cc, .slice hA hhn hhc] rfl (hm2.alloc _) szF rfl (cF_one ⟨name, params, locals, cA, cn, cc, code, hA, hhn, hhc, hands⟩) ?_; intro w3 hm3))
    generalize w2.heap.size = g8 at hm3 ⊢
    have c1 := hm3.cell m0 1 rfl
    have c2 := hm3.cell m0 2 rfl
    clear r1 r2 p2
    by_cases h1 : params = (m : Int)
    · by_cases h2 : (m : Int) ≤ locals
      · by_cases h3 : locals ≤ 64
        · obtain ⟨L, rfl⟩ : ∃ L : Nat, locals = (L : Int) := ⟨locals.toNat, by omega⟩
          obtain rfl : EG = true := by rw [← hEG.out]; simp [h1, h2, h3]
          have e1 : decide ((L : Int) > 64) = false := by simp; omega
          have e2 : decide ((L : Int) < (m : Int)) = false := by simp; omega
          have hmL : m ≤ L := by omega
          have hr := Fact.mk (hx.out.gr hm3.below)
          subst h1
          clear hEG
          go_upto_region 6 with (fail)
          go_wp2_with fail
          refine (copyValues_ok w3 A m c args hr hm0).mono ?_
          rintro e w4 ⟨B, d, rfl, hn4⟩
          have hm4 := hm3.new hn4
          clear hn4 hm3 c1 c2 e1 e2
          go_wp2
          go_loopw [9] (fun l w' => ∃ (q : Nat) (B' : Option Addr) (d' : Nat), q ≤ L - m ∧ l = .slice B' (m + q) d' ∧ Mem w w' [Own 2 (.slice B' (m + q) d') (fV (args ++ List.replicate q (0, 0))), Blk g8 (.cells [.string name, .int .i64 (m : Int), .int .i64 (L : Int), .slice cA cn cc, .slice hA hhn hhc].toArray 87), Blk (g + 1) (.cells (cR fr0).toArray 30), Blk g (.cells [.slice kA kn kc, .slice (some ⟨b, o, none⟩) fnn fc].toArray 25)]) (fun l _ => match l with | .slice _ n _ => L - n | _ => 0)
          case atStart => exact ⟨0, B, d, by omega, rfl, by simpa using hm4⟩
          case round =>
            clear hm4
            obtain ⟨q, B', d', hq, rfl, hm5⟩ := hrel
            have c2 := hm5.cell m1 2 rfl
            by_cases hlt : m + q < L
            · go_wp2_with (at_builtin; refine wp_app rfl _ _ _ rfl 41 iV _ 2 16 ty_Vs hi hz0 hz1 hz2 rfl B' (m + q) d' _ rfl (L := [Blk _ _, Blk _ _, Blk _ _, Blk _ _]) ((hm5.alloc _).swap) _ 1 1 [.int .i64 0, .int .i64 0] rfl (RdC.lit _ _ _ _ _ rfl (by simp [maxLen]) (cV_one (0, 0))) (by unfold maxLen; omega) (by omega) ?_; intro A1 e1 w5 HM1)
              go_roundw
              case rel =>
                refine ⟨q + 1, A1, e1, by omega, rfl, ?_⟩
                have hm6 := HM1.sub (.cons_cons _ (.cons _ (List.Sublist.refl _)))
                rw [List.replicate_succ', ← List.append_assoc, fV_app, show m + (q + 1) = m + q + 1 by omega]
                exact hm6
              case measure => simp; omega
            · have hqe : Fact (q = L - m) := ⟨by omega⟩
              have e5 : decide ((m : Int) + (q : Int) < (L : Int)) = false := by simp; omega
              have e6 : decide (m + q < L) = false := by simp; omega
              go_wp2_with (refine wp_setrow rfl 30 _ _ rfl _ rfl 30 _ [.int .i64 (k : Int), .int .i64 0, .slice B' (m + q) d'] rfl (hm5.sel 3 [2, 0, 1] (by decide)) szR rfl (cR_one ⟨(k : Int), 0, B', m + q, d', []⟩) ?_; intro w6 hm6)
              refine bodyPost_ret (Mm.res_cell_tmp rfl _ (g + 1) 30 [.int .i64 (k : Int), .int .i64 0, .slice B' (m + q) d'] (0, 0) rfl hm6 m0 row_R szR) rfl ⟨⟨(k : Int), 0, B', m + q, d', args ++ List.replicate q (0, 0)⟩, rfl, by rw [hED.out, hqe.out]; rfl, (hm6.sel 2 [1] (by decide) |>.sub (.cons_cons _ (List.nil_sublist _))).new_of⟩
        · obtain rfl : EG = false := by rw [← hEG.out]; simp [h3]
          have e1 : decide (locals > 64) = true := by simp; omega
          have e2 : decide (locals < (m : Int)) = false := by simp; omega
          subst h1
          clear hEG
          go_wp2_with (refine wp_setrow rfl 30 _ _ rfl _ rfl 30 _ (cR fr0) rfl (hm3.sel 2 [1, 0] (by decide)) szR rfl (cR_one fr0) ?_; intro w4 hm4)
          refine bodyPost_ret (Mm.res_cell_tmp rfl _ (g + 1) 30 (cR fr0) (0, 0) rfl hm4 m0 row_R szR) rfl ⟨fr0, rfl, by rw [hED.out]; rfl, ((hm4.nil 2 none).sub (.cons_cons _ (List.nil_sublist _))).new_of⟩
      · obtain rfl : EG = false := by rw [← hEG.out]; simp [h2]
        have e2 : decide (locals < (m : Int)) = true := by simp; omega
        subst h1
        clear hEG
        go_wp2_with (refine wp_setrow rfl 30 _ _ rfl _ rfl 30 _ (cR fr0) rfl (hm3.sel 2 [1, 0] (by decide)) szR rfl (cR_one fr0) ?_; intro w4 hm4)
        refine bodyPost_ret (Mm.res_cell_tmp rfl _ (g + 1) 30 (cR fr0) (0, 0) rfl hm4 m0 row_R szR) rfl ⟨fr0, rfl, by rw [hED.out]; rfl, ((hm4.nil 2 none).sub (.cons_cons _ (List.nil_sublist _))).new_of⟩
    · obtain rfl : EG = false := by rw [← hEG.out]; simp [h1]
      have e2 : (params != (m : Int)) = true := by simpa using h1
      have e3 : (params == (m : Int)) = false := by simpa using h1
      clear hEG
      go_wp2_with (refine wp_setrow rfl 30 _ _ rfl _ rfl 30 _ (cR fr0) rfl (hm3.sel 2 [1, 0] (by decide)) szR rfl (cR_one fr0) ?_; intro w4 hm4)
      refine bodyPost_ret (Mm.res_cell_tmp rfl _ (g + 1) 30 (cR fr0) (0, 0) rfl hm4 m0 row_R szR) rfl ⟨fr0, rfl, by rw [hED.out]; rfl, ((hm4.nil 2 none).sub (.cons_cons _ (List.nil_sublist _))).new_of⟩
end Go.Proofs.Ytgflfpepfpekhaa
