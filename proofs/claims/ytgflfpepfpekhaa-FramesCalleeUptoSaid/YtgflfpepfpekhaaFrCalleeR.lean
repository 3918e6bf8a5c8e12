/- portageref14.Callee. -/
import Derived.Test.YtgflfpepfpekhaaFrCalleeP
import Derived.Test.YtgflfpepfpekhaaFrRefE
namespace Go.Proofs.Ytgflfpepfpekhaa
open Go.RowKit Go.Mm
set_option maxHeartbeats 4000000
set_option maxRecDepth 100000
set_option linter.unusedSimpArgs false
theorem refCallee_ok (w : World) (p : Pg) (hp : Fact (PgOk w p)) (A : Option Addr) (m c : Nat) (xs : List RO) (hx : Fact (ObsR w A m c xs)) (hsz : Fact (∀ x, x ∈ xs → x.ob.items.length ≤ 1048576)) (v1 v2 n : Int) :
    Calls Try.prog 67 #[vP p, .slice A m c, .agg #[.int .i64 v1, .int .i64 v2], .int .i64 n] w (CalQ w [] (calleeD p (xs.map (·.ob)) v1 v2 n)) := by
  have hf := fun (w1 : World) (hg : Gr w w1) (i : Int) => refFunction_ok w1 p ⟨hp.out.gr hg⟩ i
  have hl := Fact.mk hx.out.len
  have hol : (xs.map (·.ob)).length = m := by rw [List.length_map]; exact hl.out
  obtain ⟨PP, hPP⟩ : ∃ q, q = p := ⟨_, rfl⟩
  have hDD : Fact (calleeD p (xs.map (·.ob)) v1 v2 n = calleeD PP (xs.map (·.ob)) v1 v2 n) := ⟨by rw [hPP]⟩
  rw [hDD.out]
  clear hDD
  have hf : Fact (∀ (w1 : World), Gr w w1 → ∀ i : Int, Calls Try.prog 74 #[vP p, .int .i64 i] w1 fun e w' => e = .returned (.bool (fnAt PP i).isSome) ∧ Gr w1 w') := ⟨by rw [hPP]; exact hf⟩
  have hfa : Fact (∀ fn g, fnAt PP fn = some g → ∃ b o k, fn = ((k : Nat) : Int) ∧ p.fA = some ⟨b, o, none⟩ ∧ w.rangeAt b (o + k * 5) (cF g) ∧ k < p.fn) := ⟨fun fn g h => by
    rw [hPP] at h
    unfold fnAt at h
    split at h
    · rename_i hi
      cases h
      obtain ⟨b, o, eA, hr, _, _⟩ := rd_at cF_len (by omega) fn0 hp.out.fns fn.toNat (by omega)
      exact ⟨b, o, fn.toNat, by omega, eA, hr, by omega⟩
    · cases h⟩
  clear hPP hp
  obtain ⟨kA, kn, kc, consts, fA, fnn, fc, fns⟩ := p
  simp only [vP] at hf hfa ⊢
  by_cases q8 : v1 = 8
  · subst q8
    by_cases r0 : v2 < 0
    · have d0 : decide (v2 < 0) = true := decide_eq_true r0
      have hD : Fact (calleeD PP (xs.map (·.ob)) 8 v2 n = (0, [], 1)) := ⟨by have e : calleeF (xs.map (·.ob)) 8 v2 = none := by { unfold calleeF; rw [if_neg (by omega), if_neg (by omega)] }; unfold calleeD; rw [e]⟩
      go_enter Try.func67, Try.ntmps67
      go_upto_region 1 with (fail)
      have hm1 := (((Mem.start w).alloc (.cells [.slice kA kn kc, .slice fA fnn fc].toArray 25)).alloc (.cells [.int .i64 8, .int .i64 v2].toArray 41))
      simp only [World.size_alloc] at hm1
      generalize hgX : w.heap.size = g at hm1 ⊢
      generalize hwX : ((w.alloc (.cells [.slice kA kn kc, .slice fA fnn fc].toArray 25)).alloc (.cells [.int .i64 8, .int .i64 v2].toArray 41)) = w1 at hm1
      try refine wp_world hwX ?_
      clear hwX hgX
      have c0 := hm1.cell m0 0 rfl
      have c1 := hm1.cell m0 1 rfl
      go_wp2
      go_ret3
      exact hD.out ▸ CalQ.no (hm1.sub (List.nil_sublist _))
    · have d0 : decide (v2 < 0) = false := decide_eq_false r0
      by_cases r1 : v2 < (m : Int)
      · have d1 : decide (v2 ≥ (m : Int)) = false := decide_eq_false (by omega)
        obtain ⟨k, rfl⟩ := Int.eq_ofNat_of_zero_le (Int.not_lt.1 r0)
        have hk : k < m := by omega
        obtain ⟨bb, o, hA, hc, hkl, hrd⟩ := hx.out.at k hk
        have hszx := Fact.mk (hsz.out _ (getD_mem xs k ro0 hkl))
        have hgo : (xs.map (·.ob)).getD k ob0 = (xs.getD k ro0).ob := by simp [hkl]
        have hD8 : Fact ((xs.getD k ro0).ob.kind = 8 → calleeD PP (xs.map (·.ob)) 8 k n = calleeG (fnAt PP (xs.getD k ro0).ob.fn) (xs.getD k ro0).ob.fn (xs.getD k ro0).ob.items n) := ⟨fun e => by
          have e1 : calleeF (xs.map (·.ob)) 8 k = some ((xs.getD k ro0).ob.fn, (xs.getD k ro0).ob.items) := by
            unfold calleeF
            rw [if_neg (by omega), Int.toNat_natCast, hgo, if_pos ⟨rfl, by omega, by omega, e⟩]
          unfold calleeD
          rw [e1]⟩
        have hD9 : Fact (¬ (xs.getD k ro0).ob.kind = 8 → calleeD PP (xs.map (·.ob)) 8 k n = (0, [], 1)) := ⟨fun e => by
          have e1 : calleeF (xs.map (·.ob)) 8 k = none := by
            unfold calleeF
            rw [if_neg (by omega), Int.toNat_natCast, hgo, if_neg (fun hc => e hc.2.2.2)]
          unfold calleeD
          rw [e1]⟩
        clear hgo hol
        generalize xs.getD k ro0 = x at hc hrd hszx hD8 hD9
        obtain ⟨xA, xc, xK, xkc, ok, oi, oks, ofn, ocap, osh⟩ := x
        simp only at hD8 hD9 hszx
        have hxr := Fact.mk hrd.1
        clear hrd
        simp only at hxr
        have hc := Fact.mk hc
        subst hA
        go_enter Try.func67, Try.ntmps67
        go_upto_region 1 with (fail)
        have hm1 := (((Mem.start w).alloc (.cells [.slice kA kn kc, .slice fA fnn fc].toArray 25)).alloc (.cells [.int .i64 8, .int .i64 (k : Int)].toArray 41))
        simp only [World.size_alloc] at hm1
        generalize hgX : w.heap.size = g at hm1 ⊢
        generalize hwX : ((w.alloc (.cells [.slice kA kn kc, .slice fA fnn fc].toArray 25)).alloc (.cells [.int .i64 8, .int .i64 (k : Int)].toArray 41)) = w1 at hm1
        try refine wp_world hwX ?_
        clear hwX hgX
        have c0 := hm1.cell m0 0 rfl
        have c1 := hm1.cell m0 1 rfl
        have x0 : w1.cell? ⟨bb, o + k * 6, none⟩ = some (.int .i64 ok) := Gr.cell hm1.below (hc.out 0 _ rfl)
        have x1 : w1.cell? ⟨bb, o + k * 6 + 1, none⟩ = some (.slice xA oi.length xc) := Gr.cell hm1.below (hc.out 1 _ rfl)
        have x3 : w1.cell? ⟨bb, o + k * 6 + 3, none⟩ = some (.int .i64 ofn) := Gr.cell hm1.below (hc.out 3 _ rfl)
        have d1n : decide (m ≤ k) = false := decide_eq_false (by omega)
        go_upto_region 4 with (fail)
        by_cases e8 : ok = 8
        · subst e8
          have hD : Fact (calleeD PP (xs.map (·.ob)) 8 k n = calleeG (fnAt PP ofn) ofn oi n) := ⟨hD8.out rfl⟩
          clear hD8 hD9
          go_wp2_with fail
          refine (copyValues_ok w1 xA oi.length xc oi ⟨hxr.out.gr hm1.below⟩ (by have := hszx.out; omega)).mono ?_
          rintro e w3 ⟨B, d, rfl, hn3⟩
          have hm3 := hm1.new hn3
          clear hn3 hm1 c0 c1 x0 x1 x3
          have p0 := hm3.cell m2 0 rfl
          have p1' := hm3.cell m2 1 rfl
          go_wp2_with fail
          refine (hf.out w3 hm3.below ofn).mono ?_
          rintro e wf ⟨rfl, hgf⟩
          have hmf := hm3.gr hgf
          clear hgf
          have hfx := Fact.mk (hfa.out ofn)
          generalize fnAt PP ofn = G at hD hfx ⊢
          cases G with
          | none =>
            simp only [calleeG] at hD
            simp only [Option.isSome_none]
            clear hfx
            go_wp2
            go_ret3
            exact hD.out ▸ CalQ.no (hmf.sub (List.nil_sublist _))
          | some x =>
            obtain ⟨b, o, k, hFN, e, r1, hkf⟩ := hfx.out x rfl
            obtain ⟨name, params, locals, cA, cn, cc, code, hA, hhn, hhc, hands⟩ := x
            simp only [calleeG] at hD
            simp only [Option.isSome_some]
            clear hfx
            try dsimp only at e hkf
            subst e
            subst hFN
            have r2 := Fact.mk (rng_gr r1 hmf.below)
            have f1 := r2.out 1 _ rfl
            have p1 := hmf.cell m2 1 rfl
            clear r1
            go_upto_region 13 with (fail)
            by_cases h1 : n < 0
            · have hD := Fact.mk (hD.out.trans (if_pos (.inl h1)))
              have d1 : decide (n < 0) = true := decide_eq_true h1
              go_wp2
              go_ret3
              exact hD.out ▸ CalQ.no (hmf.sub (List.nil_sublist _))
            · have d1 : decide (n < 0) = false := decide_eq_false h1
              by_cases h2 : params < (oi.length : Int)
              · have hD := Fact.mk (hD.out.trans (if_pos (.inr (.inl h2))))
                have d2 : decide (params < (oi.length : Int)) = true := decide_eq_true h2
                go_wp2
                go_ret3
                exact hD.out ▸ CalQ.no (hmf.sub (List.nil_sublist _))
              · have d2 : decide (params < (oi.length : Int)) = false := decide_eq_false h2
                by_cases h3 : wrap64 (params - (oi.length : Int)) = n
                · have hD := Fact.mk (hD.out.trans (if_neg (by intro hc; rcases hc with hc | hc | hc; exact h1 hc; exact h2 hc; exact hc h3)))
                  have d3 : (wrap64 (params - (oi.length : Int)) != n) = false := by simpa using h3
                  go_wp2
                  go_ret3
                  exact hD.out ▸ ⟨B, d, rfl, hmf.sub (.cons_cons _ (List.nil_sublist _))⟩
                · have hD := Fact.mk (hD.out.trans (if_pos (.inr (.inr h3))))
                  have d3 : (wrap64 (params - (oi.length : Int)) != n) = true := by simpa using h3
                  go_wp2
                  go_ret3
                  exact hD.out ▸ CalQ.no (hmf.sub (List.nil_sublist _))
        · have hD : Fact (calleeD PP (xs.map (·.ob)) 8 k n = (0, [], 1)) := ⟨hD9.out e8⟩
          have e8' : (ok != 8) = true := by simpa using e8
          go_wp2
          go_ret3
          exact hD.out ▸ CalQ.no (hm1.sub (List.nil_sublist _))
      · have d1 : decide (v2 ≥ (m : Int)) = true := decide_eq_true (by omega)
        have hD : Fact (calleeD PP (xs.map (·.ob)) 8 v2 n = (0, [], 1)) := ⟨by have e : calleeF (xs.map (·.ob)) 8 v2 = none := by { unfold calleeF; rw [if_neg (by omega), if_neg (by omega)] }; unfold calleeD; rw [e]⟩
        go_enter Try.func67, Try.ntmps67
        go_upto_region 1 with (fail)
        have hm1 := (((Mem.start w).alloc (.cells [.slice kA kn kc, .slice fA fnn fc].toArray 25)).alloc (.cells [.int .i64 8, .int .i64 v2].toArray 41))
        simp only [World.size_alloc] at hm1
        generalize hgX : w.heap.size = g at hm1 ⊢
        generalize hwX : ((w.alloc (.cells [.slice kA kn kc, .slice fA fnn fc].toArray 25)).alloc (.cells [.int .i64 8, .int .i64 v2].toArray 41)) = w1 at hm1
        try refine wp_world hwX ?_
        clear hwX hgX
        have c0 := hm1.cell m0 0 rfl
        have c1 := hm1.cell m0 1 rfl
        go_wp2
        go_ret3
        exact hD.out ▸ CalQ.no (hm1.sub (List.nil_sublist _))
  · have e8 : (v1 == 8) = false := by simpa using q8
    by_cases q5 : v1 = 5
    · subst q5
      have hD : Fact (calleeD PP (xs.map (·.ob)) 5 v2 n = calleeG (fnAt PP v2) v2 [] n) := ⟨by simp [calleeD, calleeF]⟩
      go_enter Try.func67, Try.ntmps67
      go_upto_region 1 with (fail)
      have hm1 := (((Mem.start w).alloc (.cells [.slice kA kn kc, .slice fA fnn fc].toArray 25)).alloc (.cells [.int .i64 5, .int .i64 v2].toArray 41))
      simp only [World.size_alloc] at hm1
      generalize hgX : w.heap.size = g at hm1 ⊢
      generalize hwX : ((w.alloc (.cells [.slice kA kn kc, .slice fA fnn fc].toArray 25)).alloc (.cells [.int .i64 5, .int .i64 v2].toArray 41)) = w1 at hm1
      try refine wp_world hwX ?_
      clear hwX hgX
      have c0 := hm1.cell m0 0 rfl
      have c1 := hm1.cell m0 1 rfl
      have p0 := hm1.cell m1 0 rfl
      have p1' := hm1.cell m1 1 rfl
      go_wp2_with fail
      refine (hf.out w1 hm1.below v2).mono ?_
      rintro e wf ⟨rfl, hgf⟩
      have hmf := hm1.gr hgf
      clear hgf
      have hfx := Fact.mk (hfa.out v2)
      generalize fnAt PP v2 = G at hD hfx ⊢
      cases G with
      | none =>
        simp only [calleeG] at hD
        simp only [Option.isSome_none]
        clear hfx
        go_wp2
        go_ret3
        exact hD.out ▸ CalQ.no (hmf.sub (List.nil_sublist _))
      | some x =>
        obtain ⟨b, o, k, hFN, e, r1, hkf⟩ := hfx.out x rfl
        obtain ⟨name, params, locals, cA, cn, cc, code, hA, hhn, hhc, hands⟩ := x
        simp only [calleeG] at hD
        simp only [Option.isSome_some]
        clear hfx
        try dsimp only at e hkf
        subst e
        subst hFN
        have r2 := Fact.mk (rng_gr r1 hmf.below)
        have f1 := r2.out 1 _ rfl
        have p1 := hmf.cell m1 1 rfl
        clear r1
        go_upto_region 13 with (fail)
        by_cases h1 : n < 0
        · have hD := Fact.mk (hD.out.trans (if_pos (.inl h1)))
          have d1 : decide (n < 0) = true := decide_eq_true h1
          go_wp2
          go_ret3
          exact hD.out ▸ CalQ.no (hmf.sub (List.nil_sublist _))
        · have d1 : decide (n < 0) = false := decide_eq_false h1
          by_cases h2 : params < (0 : Int)
          · have hD := Fact.mk (hD.out.trans (if_pos (.inr (.inl h2))))
            have d2 : decide (params < (0 : Int)) = true := decide_eq_true h2
            go_wp2
            go_ret3
            exact hD.out ▸ CalQ.no (hmf.sub (List.nil_sublist _))
          · have d2 : decide (params < (0 : Int)) = false := decide_eq_false h2
            by_cases h3 : wrap64 (params - (0 : Int)) = n
            · have hD := Fact.mk (hD.out.trans (if_neg (by intro hc; rcases hc with hc | hc | hc; exact h1 hc; exact h2 hc; exact hc h3)))
              have d3 : (wrap64 params != n) = false := by simpa using h3
              go_wp2
              go_ret3
              exact hD.out ▸ ⟨none, 0, rfl, (hmf.nil 2 none).sub (.cons_cons _ (List.nil_sublist _))⟩
            · have hD := Fact.mk (hD.out.trans (if_pos (.inr (.inr h3))))
              have d3 : (wrap64 params != n) = true := by simpa using h3
              go_wp2
              go_ret3
              exact hD.out ▸ CalQ.no (hmf.sub (List.nil_sublist _))
    · have hD : Fact (calleeD PP (xs.map (·.ob)) v1 v2 n = (0, [], 1)) := ⟨by have e : calleeF (xs.map (·.ob)) v1 v2 = none := by { unfold calleeF; rw [if_neg (by omega), if_neg (by omega)] }; unfold calleeD; rw [e]⟩
      have e5 : (v1 != 5) = true := by simpa using q5
      go_enter Try.func67, Try.ntmps67
      go_upto_region 1 with (fail)
      have hm1 := (((Mem.start w).alloc (.cells [.slice kA kn kc, .slice fA fnn fc].toArray 25)).alloc (.cells [.int .i64 v1, .int .i64 v2].toArray 41))
      simp only [World.size_alloc] at hm1
      generalize hgX : w.heap.size = g at hm1 ⊢
      generalize hwX : ((w.alloc (.cells [.slice kA kn kc, .slice fA fnn fc].toArray 25)).alloc (.cells [.int .i64 v1, .int .i64 v2].toArray 41)) = w1 at hm1
      try refine wp_world hwX ?_
      clear hwX hgX
      have c0 := hm1.cell m0 0 rfl
      have c1 := hm1.cell m0 1 rfl
      go_wp2
      go_ret3
      exact hD.out ▸ CalQ.no (hm1.sub (List.nil_sublist _))
end Go.Proofs.Ytgflfpepfpekhaa
