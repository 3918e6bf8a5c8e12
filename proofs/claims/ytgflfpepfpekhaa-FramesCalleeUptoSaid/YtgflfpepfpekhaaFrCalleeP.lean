/- frames.Callee. -/
import Derived.Test.YtgflfpepfpekhaaFrCalleeD
import Derived.Test.YtgflfpepfpekhaaHpObR
import Derived.OwnWalk
namespace Go.Proofs.Ytgflfpepfpekhaa
open Go.RowKit Go.Mm
set_option maxHeartbeats 4000000
set_option maxRecDepth 100000
set_option linter.unusedSimpArgs false
theorem callee_ok (w : World) (h : Hp) (hr : Fact (HpR w h)) (hok : Fact h.Ok) (p : Pg) (hp : Fact (PgOk w p)) (v1 v2 n : Int) :
    Calls Try.prog 68 #[vP p, .pointer (some ⟨h.g, 0, none⟩), .agg #[.int .i64 v1, .int .i64 v2], .int .i64 n] w (CalQ w [] (calleeD p h.objs v1 v2 n)) := by
  have hf := fun (w1 : World) (hg : Gr w w1) (i : Int) => function_ok w1 p ⟨hp.out.gr hg⟩ i
  obtain ⟨PP, hPP⟩ : ∃ q, q = p := ⟨_, rfl⟩
  have hDD : Fact (calleeD p h.objs v1 v2 n = calleeD PP h.objs v1 v2 n) := ⟨by rw [hPP]⟩
  rw [hDD.out]
  clear hDD
  have hf : ∀ (w1 : World), Gr w w1 → ∀ i : Int, Calls Try.prog 75 #[vP p, .int .i64 i] w1 fun e w' => e = .returned (.tuple #[.agg (cF ((fnAt PP i).getD fn0)).toArray, .bool (fnAt PP i).isSome]) ∧ Gr w1 w' := by rw [hPP]; exact hf
  clear hPP hp
  obtain ⟨kA, kn, kc, consts, fA, fnn, fc, fns⟩ := p
  simp only [vP] at hf ⊢
  by_cases q5 : v1 = 5
  · subst q5
    have hD : Fact (calleeD PP h.objs 5 v2 n = calleeG (fnAt PP v2) v2 [] n) := ⟨by simp [calleeD, calleeF]⟩
    go_enter Try.func68, Try.ntmps68
    go_upto_region 1 with (fail)
    have hm1 := (((Mem.start w).alloc (.cells [.slice kA kn kc, .slice fA fnn fc].toArray 25)).alloc (.cells [.int .i64 5, .int .i64 v2].toArray 41))
    simp only [World.size_alloc] at hm1
    generalize hgX : w.heap.size = g at hm1 ⊢
    generalize hwX : ((w.alloc (.cells [.slice kA kn kc, .slice fA fnn fc].toArray 25)).alloc (.cells [.int .i64 5, .int .i64 v2].toArray 41)) = w1 at hm1
    try refine wp_world hwX ?_
    clear hwX hgX
    have c0 := hm1.cell m0 0 rfl
    have c1 := hm1.cell m0 1 rfl
    have p0 := hm1.cell m1 0 rfl
    have p1 := hm1.cell m1 1 rfl
    go_wp2_with fail
    refine (hf w1 hm1.below v2).mono ?_
    rintro e wf ⟨rfl, hgf⟩
    have hmf := hm1.gr hgf
    clear hgf
    generalize fnAt PP v2 = G at hD ⊢
    cases G with
    | none =>
      simp only [calleeG] at hD
      simp only [Option.getD_none, Option.isSome_none]
      go_wp2_with (refine wp_setrow rfl 87 _ _ rfl _ rfl 87 _ (cF fn0) rfl (hmf.alloc _) szF rfl (cF_one fn0) ?_; intro wh hmh)
      go_ret3
      exact hD.out ▸ CalQ.no (hmh.sub (List.nil_sublist _))
    | some x =>
      obtain ⟨name, params, locals, cA, cn, cc, code, hA, hhn, hhc, hands⟩ := x
      simp only [calleeG] at hD
      simp only [Option.getD_some, Option.isSome_some, cF]
      go_upto_region 16 with (refine wp_setrow rfl 87 _ _ rfl _ rfl 87 _ [.string name, .int .i64 params, .int .i64 locals, .slice cA cn cc, .slice hA hhn hhc] rfl (hmf.alloc _) szF rfl (cF_one ⟨name, params, locals, cA, cn, cc, code, hA, hhn, hhc, hands⟩) ?_; intro wh hmh)
      generalize wf.heap.size = gf at hmh ⊢
      have c1 := hmh.cell m0 1 rfl
      by_cases h1 : n < 0
      · have hD := Fact.mk (hD.out.trans (if_pos (.inl h1)))
        have d1 : decide (n < 0) = true := decide_eq_true h1
        go_wp2
        go_ret3
        exact hD.out ▸ CalQ.no (hmh.sub (List.nil_sublist _))
      · have d1 : decide (n < 0) = false := decide_eq_false h1
        by_cases h2 : params < (0 : Int)
        · have hD := Fact.mk (hD.out.trans (if_pos (.inr (.inl h2))))
          have d2 : decide (params < (0 : Int)) = true := decide_eq_true h2
          go_wp2
          go_ret3
          exact hD.out ▸ CalQ.no (hmh.sub (List.nil_sublist _))
        · have d2 : decide (params < (0 : Int)) = false := decide_eq_false h2
          by_cases h3 : wrap64 (params - (0 : Int)) = n
          · have hD := Fact.mk (hD.out.trans (if_neg (by intro hc; rcases hc with hc | hc | hc; exact h1 hc; exact h2 hc; exact hc h3)))
            have d3 : (wrap64 params != n) = false := by simpa using h3
            go_wp2
            go_ret3
            exact hD.out ▸ ⟨none, 0, rfl, (hmh.nil 2 none).sub (.cons_cons _ (List.nil_sublist _))⟩
          · have hD := Fact.mk (hD.out.trans (if_pos (.inr (.inr h3))))
            have d3 : (wrap64 params != n) = true := by simpa using h3
            go_wp2
            go_ret3
            exact hD.out ▸ CalQ.no (hmh.sub (List.nil_sublist _))
  · by_cases q8 : v1 = 8
    · subst q8
      go_enter Try.func68, Try.ntmps68
      go_upto_region 1 with (fail)
      have hm1 := (((Mem.start w).alloc (.cells [.slice kA kn kc, .slice fA fnn fc].toArray 25)).alloc (.cells [.int .i64 8, .int .i64 v2].toArray 41))
      simp only [World.size_alloc] at hm1
      generalize hgX : w.heap.size = g at hm1 ⊢
      generalize hwX : ((w.alloc (.cells [.slice kA kn kc, .slice fA fnn fc].toArray 25)).alloc (.cells [.int .i64 8, .int .i64 v2].toArray 41)) = w1 at hm1
      try refine wp_world hwX ?_
      clear hwX hgX
      have c0 := hm1.cell m0 0 rfl
      have c1 := hm1.cell m0 1 rfl
      have hcl := fun m => heapLenR_ok (w1.drewN m) h (hr.out.gr (hm1.drewN m).below)
      by_cases r0 : v2 < 0
      · have d0 : decide (v2 < 0) = true := decide_eq_true r0
        have hD : Fact (calleeD PP h.objs 8 v2 n = (0, [], 1)) := ⟨by have e : calleeF h.objs 8 v2 = none := by { unfold calleeF; rw [if_neg (by omega), if_neg (by omega)] }; unfold calleeD; rw [e]⟩
        go_upto_region 7 with (fail)
        go_quiet (exact Calls.quiet_of_same (hcl _))
        have hm2 := hm1.drewN nq
        generalize w1.drewN nq = wq at hm2 ⊢
        go_wp2
        go_ret3
        exact hD.out ▸ CalQ.no (hm2.sub (List.nil_sublist _))
      · have d0 : decide (v2 < 0) = false := decide_eq_false r0
        by_cases r1 : v2 < (h.objs.length : Int)
        · have d1 : decide (v2 ≥ (h.objs.length : Int)) = false := decide_eq_false (by omega)
          obtain ⟨k, rfl⟩ := Int.eq_ofNat_of_zero_le (Int.not_lt.1 r0)
          have hk : k < h.objs.length := by omega
          go_upto_region 7 with (fail)
          go_quiet (exact Calls.quiet_of_same (hcl _))
          have hm2 := hm1.drewN nq
          generalize w1.drewN nq = wq at hm2 ⊢
          clear c0 c1 hcl
          have c1 := hm2.cell m0 1 rfl
          have hD8 : Fact ((h.objs.getD k ob0).kind = 8 → calleeD PP h.objs 8 k n = calleeG (fnAt PP (h.objs.getD k ob0).fn) (h.objs.getD k ob0).fn (h.objs.getD k ob0).items n) := ⟨fun e => by
            have e1 : calleeF h.objs 8 k = some ((h.objs.getD k ob0).fn, (h.objs.getD k ob0).items) := by
              unfold calleeF
              rw [if_neg (by omega), Int.toNat_natCast, if_pos ⟨rfl, by omega, by omega, e⟩]
            unfold calleeD
            rw [e1]⟩
          have hD9 : Fact (¬ (h.objs.getD k ob0).kind = 8 → calleeD PP h.objs 8 k n = (0, [], 1)) := ⟨fun e => by
            have e1 : calleeF h.objs 8 k = none := by
              unfold calleeF
              rw [if_neg (by omega), Int.toNat_natCast, if_neg (fun hc => e hc.2.2.2)]
            unfold calleeD
            rw [e1]⟩
          have hob := objectR_ok wq h ⟨hr.out.gr hm2.below⟩ hok k hk
          generalize h.objs.getD k ob0 = o at hob hD8 hD9
          obtain ⟨ok, oi, oks, ofn, ocap, osh⟩ := o
          have hob := Fact.mk hob
          simp only at hD8 hD9
          go_wp2_with fail
          refine hob.out.mono ?_
          rintro e w3 ⟨v, rfl, A, c, K, kk, rfl, hm3⟩
          have hm4 := hm2.join hm3
          clear hm3 hm2 hob c1
          go_upto_region 10 with (refine wp_setrow rfl 124 _ _ rfl _ rfl 124 _ (obC ok A oi.length c K oks.length kk ofn ocap osh) rfl (hm4.alloc _) sz_O rfl (obC_one _ _ _ _ _ _ _ _ _ _) ?_; intro w5 hm5)
          generalize w3.heap.size = go at hm5 ⊢
          clear hm4
          have o0 := hm5.cell m0 0 rfl
          have o1 := hm5.cell m0 1 rfl
          have o3 := hm5.cell m0 3 rfl
          by_cases e8 : ok = 8
          · subst e8
            have hD : Fact (calleeD PP h.objs 8 k n = calleeG (fnAt PP ofn) ofn oi n) := ⟨hD8.out rfl⟩
            clear hD8 hD9
            go_upto_region 12 with (fail)
            go_quiet (fail)
            have hm6 := hm5.drewN nq
            generalize w5.drewN nq = w6 at hm6 ⊢
            clear hm5 o0 o1 o3
            have p0 := hm6.cell (.tail _ (.tail _ (.tail _ m1))) 0 rfl
            have p1 := hm6.cell (.tail _ (.tail _ (.tail _ m1))) 1 rfl
            go_wp2_with fail
            refine (hf w6 hm6.below ofn).mono ?_
            rintro e wf ⟨rfl, hgf⟩
            have hmf := hm6.gr hgf
            clear hgf
            generalize fnAt PP ofn = G at hD ⊢
            cases G with
            | none =>
              simp only [calleeG] at hD
              simp only [Option.getD_none, Option.isSome_none]
              go_wp2_with (refine wp_setrow rfl 87 _ _ rfl _ rfl 87 _ (cF fn0) rfl (hmf.alloc _) szF rfl (cF_one fn0) ?_; intro wh hmh)
              go_ret3
              exact hD.out ▸ CalQ.no (hmh.sub (List.nil_sublist _))
            | some x =>
              obtain ⟨name, params, locals, cA, cn, cc, code, hA, hhn, hhc, hands⟩ := x
              simp only [calleeG] at hD
              simp only [Option.getD_some, Option.isSome_some, cF]
              go_upto_region 16 with (refine wp_setrow rfl 87 _ _ rfl _ rfl 87 _ [.string name, .int .i64 params, .int .i64 locals, .slice cA cn cc, .slice hA hhn hhc] rfl (hmf.alloc _) szF rfl (cF_one ⟨name, params, locals, cA, cn, cc, code, hA, hhn, hhc, hands⟩) ?_; intro wh hmh)
              generalize wf.heap.size = gf at hmh ⊢
              have c1 := hmh.cell m0 1 rfl
              by_cases h1 : n < 0
              · have hD := Fact.mk (hD.out.trans (if_pos (.inl h1)))
                have d1 : decide (n < 0) = true := decide_eq_true h1
                go_wp2
                go_ret3
                exact hD.out ▸ CalQ.no (hmh.sub (List.nil_sublist _))
              · have d1 : decide (n < 0) = false := decide_eq_false h1
                by_cases h2 : params < (oi.length : Int)
                · have hD := Fact.mk (hD.out.trans (if_pos (.inr (.inl h2))))
                  have d2 : decide (params < (oi.length : Int)) = true := decide_eq_true h2
                  go_wp2
                  go_ret3
                  exact hD.out ▸ CalQ.no (hmh.sub (List.nil_sublist _))
                · have d2 : decide (params < (oi.length : Int)) = false := decide_eq_false h2
                  by_cases h3 : wrap64 (params - (oi.length : Int)) = n
                  · have hD := Fact.mk (hD.out.trans (if_neg (by intro hc; rcases hc with hc | hc | hc; exact h1 hc; exact h2 hc; exact hc h3)))
                    have d3 : (wrap64 (params - (oi.length : Int)) != n) = false := by simpa using h3
                    go_wp2
                    go_ret3
                    exact hD.out ▸ ⟨A, c, rfl, hmh.sub (.cons _ (.cons _ (.cons_cons _ (List.nil_sublist _))))⟩
                  · have hD := Fact.mk (hD.out.trans (if_pos (.inr (.inr h3))))
                    have d3 : (wrap64 (params - (oi.length : Int)) != n) = true := by simpa using h3
                    go_wp2
                    go_ret3
                    exact hD.out ▸ CalQ.no (hmh.sub (List.nil_sublist _))
          · have hD : Fact (calleeD PP h.objs 8 k n = (0, [], 1)) := ⟨hD9.out e8⟩
            have e8' : (ok != 8) = true := by simpa using e8
            go_wp2
            go_ret3
            exact hD.out ▸ CalQ.no (hm5.sub (List.nil_sublist _))
        · have d1 : decide (v2 ≥ (h.objs.length : Int)) = true := decide_eq_true (by omega)
          have hD : Fact (calleeD PP h.objs 8 v2 n = (0, [], 1)) := ⟨by have e : calleeF h.objs 8 v2 = none := by { unfold calleeF; rw [if_neg (by omega), if_neg (by omega)] }; unfold calleeD; rw [e]⟩
          go_upto_region 7 with (fail)
          go_quiet (exact Calls.quiet_of_same (hcl _))
          have hm2 := hm1.drewN nq
          generalize w1.drewN nq = wq at hm2 ⊢
          go_wp2
          go_ret3
          exact hD.out ▸ CalQ.no (hm2.sub (List.nil_sublist _))
    · have hD : Fact (calleeD PP h.objs v1 v2 n = (0, [], 1)) := ⟨by have e : calleeF h.objs v1 v2 = none := by { unfold calleeF; rw [if_neg (by omega), if_neg (by omega)] }; unfold calleeD; rw [e]⟩
      have e5 : (v1 == 5) = false := by simpa using q5
      have e8 : (v1 == 8) = false := by simpa using q8
      go_enter Try.func68, Try.ntmps68
      go_upto_region 1 with (fail)
      have hm1 := (((Mem.start w).alloc (.cells [.slice kA kn kc, .slice fA fnn fc].toArray 25)).alloc (.cells [.int .i64 v1, .int .i64 v2].toArray 41))
      simp only [World.size_alloc] at hm1
      generalize hgX : w.heap.size = g at hm1 ⊢
      generalize hwX : ((w.alloc (.cells [.slice kA kn kc, .slice fA fnn fc].toArray 25)).alloc (.cells [.int .i64 v1, .int .i64 v2].toArray 41)) = w1 at hm1
      try refine wp_world hwX ?_
      clear hwX hgX
      have c0 := hm1.cell m0 0 rfl
      have c1 := hm1.cell m0 1 rfl
      go_wp2
      go_ret3
      exact hD.out ▸ CalQ.no (hm1.sub (List.nil_sublist _))
end Go.Proofs.Ytgflfpepfpekhaa
