import Derived.Test.YtgflfpepfpekhaaFrCopies
import Derived.Test.YtgflfpepfpekhaaFrFun
import Derived.Test.YtgflfpepfpekhaaCut
namespace Go.Proofs.Ytgflfpepfpekhaa
open Go.RowKit Go.Mm
set_option maxHeartbeats 1000000
set_option maxRecDepth 100000
theorem fR_take (xs : List Fr) (n : Nat) : fR (xs.take n) = (fR xs).take (n * 3) := flatMap_take cR 3 cR_len xs n
theorem FrsOk.pre {N : Nat} {w : World} {A : Option Addr} {n c : Nat} {xs : List Fr} (h : FrsOk N w A n c xs) (k : Nat) (hk : k ≤ n) : FrsOk N w A k c (xs.take k) := by
  refine ⟨?_, fun f hf => h.each f (List.mem_of_mem_take hf)⟩
  rw [fR_take]
  exact RdC.pre h.rd k hk
/-- What is returned into. -/
def retF (f : FrD) (v : V2) : FrD := (f.1, wrap64 (f.2.1 + 1), f.2.2 ++ [v])
def retD (xs : List Fr) (v : V2) : List FrD := if xs.length < 2 then [] else (xs.take (xs.length - 2)).map Fr.data ++ [retF (xs.getD (xs.length - 2) fr0).data v]
theorem return_ok (w : World) (p : Pg) (N : Nat) (A : Option Addr) (n c : Nat) (xs : List Fr) (hx : Fact (FrsOk N w A n c xs)) (hn : n ≤ 1048577) (hN : N ≤ 1048580) (v : V2) :
    Calls Try.prog 23 #[vP p, .slice A n c, .agg (cV v).toArray] w fun e w' => ∃ A' m c' zs, e = .returned (.tuple #[.slice A' m c', .bool (decide (2 ≤ n))]) ∧ Mem w w' (Own 3 (.slice A' m c') (fR zs) :: slots zs) ∧ zs.map Fr.data = retD xs v ∧ ∀ z, z ∈ zs → z.n ≤ N + 1 := by
  obtain ⟨iR, hi, hz0, hz1, hz2⟩ := info_parts inf_R
  have hl := Fact.mk hx.out.len
  obtain ⟨v1, v2⟩ := v
  obtain ⟨kA, kn, kc, consts, fA, fnn, fc, fns⟩ := p
  simp only [vP, cV]
  by_cases h2 : 2 ≤ n
  · obtain ⟨k, rfl⟩ : ∃ k, n = k + 2 := ⟨n - 2, by omega⟩
    have hb2 : Fact (decide (2 ≤ k + 2) = true) := ⟨by simp⟩
    obtain ⟨b, o, rfl, r1, hok, _⟩ := hx.out.at k (by omega)
    have hrd : Fact (retD xs (v1, v2) = (xs.take k).map Fr.data ++ [retF (xs.getD k fr0).data (v1, v2)]) := ⟨by unfold retD; rw [if_neg (by have := hl.out; omega), hl.out]; rfl⟩
    have hxe : ∃ x, Fact (xs.getD k fr0 = x) := ⟨_, ⟨rfl⟩⟩
    obtain ⟨x, hxe⟩ := hxe
    rw [hxe.out] at r1 hok hrd
    have hok := Fact.mk hok
    obtain ⟨xfn, xpc, xA, xn, xc, xsl⟩ := x
    have hcp : k + 2 ≤ c := by obtain ⟨_, _, _, e, _, h, _⟩ := hx.out.rd; cases e; exact h
    have e1 : (((k + 2 : Nat) : Int) - 2) = (k : Int) := by omega
    rw [hb2.out]
    have hxn : xn ≤ N := hok.out.2
    have hxl : Fact (xsl.length = xn) := ⟨rdV_len hok.out.1⟩
    go_enter Try.func23, Try.ntmps23
    go_upto_region 1 with (fail)
    have hm := (((Mem.start w).alloc (.cells [.slice kA kn kc, .slice fA fnn fc].toArray 25)).alloc (.cells [.int .i64 v1, .int .i64 v2].toArray 41))
    simp only [World.size_alloc] at hm
    generalize hgX : w.heap.size = g at hm ⊢
    generalize hwX : ((w.alloc (.cells [.slice kA kn kc, .slice fA fnn fc].toArray 25)).alloc (.cells [.int .i64 v1, .int .i64 v2].toArray 41)) = w1 at hm
    try refine wp_world hwX ?_
    clear hwX hgX
    have r2 := rng_gr r1 hm.below
    go_upto_region 5 with (first | (refine wp_rng rfl 30 _ rfl b _ rfl [.int .i64 xfn, .int .i64 xpc, .slice xA xn xc] r2 row_R szR ?_) | (refine wp_setrow rfl 30 _ _ rfl _ rfl 30 _ [.int .i64 xfn, .int .i64 xpc, .slice xA xn xc] rfl (hm.alloc _) szR rfl (cR_one ⟨xfn, xpc, xA, xn, xc, xsl⟩) ?_; intro w2 hm2))
    generalize w1.heap.size = g9 at hm2 ⊢
    have c1 := hm2.cell m0 1 rfl
    have f1 := hm2.free m0 1
    go_upto_region 6 with (fail)
    have hm3 := hm2.set 1 (.int .i64 (wrap64 (xpc + 1)))
    simp only [List.set_cons_zero, List.set_cons_succ] at hm3
    generalize w2.setCell _ _ = w3 at hm3 ⊢
    have c2 := hm3.cell m0 2 rfl
    have d1 := hm3.cell m1 0 rfl
    have d2 := hm3.cell m1 1 rfl
    have f2 := hm3.free m0 2
    clear c1 f1 hm2
    go_wp2_with fail
    refine (laid_ok w3 xA xn xc xsl ⟨hok.out.1.gr hm3.below⟩ xn _ rfl (by omega) (by omega) (v1, v2)).mono ?_
    rintro e w4 ⟨B, d, rfl, hn4⟩
    have hm4 := hm3.new hn4
    have htk : Fact (xsl.take xn = xsl) := ⟨List.take_of_length_le (by have := hxl.out; omega)⟩
    rw [htk.out] at hm4
    have c3 := hm4.cell m1 2 rfl
    have f3 := hm4.free m1 2
    have hm5 := hm4.swap.set 2 (.slice B (xn + 1) d)
    simp only [List.set_cons_zero, List.set_cons_succ] at hm5
    clear hn4 hm3
    go_upto_region 7 with (fail)
    generalize w4.setCell _ _ = w5 at hm5 ⊢
    have hS : Gr w5 w5.drew ∧ w5.drew.cell? ⟨g9, 0, none⟩ = some (.int .i64 xfn) ∧ w5.drew.cell? ⟨g9, 1, none⟩ = some (.int .i64 (wrap64 (xpc + 1))) ∧ w5.drew.cell? ⟨g9, 2, none⟩ = some (.slice B (xn + 1) d) := ⟨(Gr.refl _).drew, hm5.drew.cell m0 0 rfl, hm5.drew.cell m0 1 rfl, hm5.drew.cell m0 2 rfl⟩
    have k1 := hm5.cell m0 0 rfl
    have k2 := hm5.cell m0 1 rfl
    have k3 := hm5.cell m0 2 rfl
    have key : ∀ (A1 : Option Addr) (e1 : Nat) (w8 : World) (X : Chunk) (ys : List Fr), ys.map Fr.data = (xs.take k).map Fr.data → (∀ y, y ∈ ys → y.n ≤ N) →
        Mem w w8 (Own 3 (.slice A1 (k + 1) e1) (fR ys ++ [.int .i64 xfn, .int .i64 (wrap64 (xpc + 1)), .slice B (xn + 1) d]) :: X :: (slots ys ++ [Blk g9 (.cells [.int .i64 xfn, .int .i64 (wrap64 (xpc + 1)), .slice B (xn + 1) d].toArray 30), Own 2 (.slice B (xn + 1) d) (fV (xsl ++ [(v1, v2)])), Blk (g + 1) (.cells [.int .i64 v1, .int .i64 v2].toArray 41), Blk g (.cells [.slice kA kn kc, .slice fA fnn fc].toArray 25)])) →
        ∃ A' m c' zs, Ending.returned (.tuple #[.slice A1 (k + 1) e1, .bool true]) = .returned (.tuple #[.slice A' m c', .bool true]) ∧ Mem w w8 (Own 3 (.slice A' m c') (fR zs) :: slots zs) ∧ zs.map Fr.data = retD xs (v1, v2) ∧ ∀ z, z ∈ zs → z.n ≤ N + 1 := fun A1 e1 w8 X ys h1 h2 h3 => by
      refine ⟨A1, k + 1, e1, ys ++ [⟨xfn, wrap64 (xpc + 1), B, xn + 1, d, xsl ++ [(v1, v2)]⟩], rfl, ?_, ?_, fun z hz => ?_⟩
      · rw [fR_app, slots_app]
        exact h3.sub (.cons_cons _ (.cons _ (List.Sublist.append (List.Sublist.refl _) (.cons _ (.cons_cons _ (List.nil_sublist _))))))
      · rw [hrd.out, List.map_append, h1]; rfl
      · rcases List.mem_append.1 hz with hz | hz
        · have := h2 z hz; omega
        · simp at hz; subst hz; show xn + 1 ≤ N + 1; omega
    have key := Fact.mk key
    have e2 : k ≤ c := by omega
    refine wp_region_until (S := fun W => Gr w5 W ∧ W.cell? ⟨g9, 0, none⟩ = some (.int .i64 xfn) ∧ W.cell? ⟨g9, 1, none⟩ = some (.int .i64 (wrap64 (xpc + 1))) ∧ W.cell? ⟨g9, 2, none⟩ = some (.slice B (xn + 1) d)) 6 (by kernel_rfl) ?_
    refine wpAnyU_take 0 (v := ?va0) rfl (by kernel_rfl) (by kernel_rfl) (fun _ _ _ h => h) hS (Or.inl ⟨rfl, ?ya0⟩) ?ra0
    case ya0 =>
      intro W hW
      obtain ⟨hW0, hW1, hW2, hW3⟩ := hW
      go_simp
      try with_reducible rfl
    try simp only [Act.put, List.setIfInBounds_toArray, List.set_cons_zero, List.set_cons_succ]
    refine wpAnyU_take 1 (v := ?va1) rfl (by kernel_rfl) (by kernel_rfl) (fun _ _ _ h => h) hS (Or.inl ⟨rfl, ?ya1⟩) ?ra1
    case ya1 =>
      intro W hW
      obtain ⟨hW0, hW1, hW2, hW3⟩ := hW
      go_simp
      try with_reducible rfl
    try simp only [Act.put, List.setIfInBounds_toArray, List.set_cons_zero, List.set_cons_succ]
    refine wpAnyU_take 2 (v := ?va2) rfl (by kernel_rfl) (by kernel_rfl) (fun _ _ _ h => h) hS (Or.inl ⟨rfl, ?ya2⟩) ?ra2
    case ya2 =>
      intro W hW
      obtain ⟨hW0, hW1, hW2, hW3⟩ := hW
      go_simp
      try with_reducible rfl
    try simp only [Act.put, List.setIfInBounds_toArray, List.set_cons_zero, List.set_cons_succ]
    refine wpAnyU_take 4 (v := ?va4) rfl (by kernel_rfl) (by kernel_rfl) (fun _ _ _ h => h) hS (Or.inl ⟨rfl, ?ya4⟩) ?ra4
    case ya4 =>
      intro W hW
      obtain ⟨hW0, hW1, hW2, hW3⟩ := hW
      go_simp
      try with_reducible rfl
    try simp only [Act.put, List.setIfInBounds_toArray, List.set_cons_zero, List.set_cons_succ]
    refine wpAnyU_two 3 5 (by kernel_rfl) rfl rfl (fun K hK => ?_) (fun K hK => ?_)
    · refine step_call rfl 81 Try.f81 Try.func81 (by kernel_rfl) (by kernel_rfl) _ _ rfl #[.slice (some ⟨b, o, none⟩) k c] (by simp [Act.eval]) ?_
      refine (copied_ok _ N (some ⟨b, o, none⟩) k c (xs.take k) ⟨(hx.out.pre k (by omega)).gr hm5.drew.below⟩ (by omega) (by omega)).mono ?_
      rintro e w6 ⟨gC, ys, rfl, hm6, hyd, hyn⟩
      have hg6 := Gr.trans (Gr.refl w5).drew hm6.below
      refine ⟨_, rfl, hK _ _ (fun _ => ⟨hg6, Gr.cell hg6 k1, Gr.cell hg6 k2, Gr.cell hg6 k3⟩) ?_⟩
      clear hK K
      try simp only [Act.put, List.setIfInBounds_toArray, List.set_cons_zero, List.set_cons_succ]
      refine wpAnyU_one 5 (by kernel_rfl) rfl (fun K hK => ?_)
      go_simp
      have hg7 := Gr.alloc hg6 (.cells [.int .i64 xfn, .int .i64 (wrap64 (xpc + 1)), .slice B (xn + 1) d].toArray 30)
      refine hK _ _ (fun _ => ⟨hg7, Gr.cell hg7 k1, Gr.cell hg7 k2, Gr.cell hg7 k3⟩) ?_
      clear hK K
      have hmj := (hm5.drew.join hm6)
      refine wpAnyU_one 6 (by kernel_rfl) rfl (fun K hK => ?_)
      refine step_app rfl _ _ _ rfl 30 iR _ 3 40 ty_Rs hi hz0 hz1 hz2 rfl (some ⟨gC, 0, none⟩) k k _ rfl (hmj.alloc _).swap _ 1 1 [.int .i64 xfn, .int .i64 (wrap64 (xpc + 1)), .slice B (xn + 1) d] rfl (RdC.lit _ _ _ _ _ rfl (by simp [maxLen]) (cR_one ⟨xfn, wrap64 (xpc + 1), B, xn + 1, d, []⟩)) (by unfold maxLen; omega) (by omega) ?_
      intro A1 e1 w8 HM1
      refine hK _ _ (fun h => absurd h (by decide)) ?_
      clear hK K
      try simp only [Act.put, List.setIfInBounds_toArray, List.set_cons_zero, List.set_cons_succ]
      refine wpAnyU_one 7 (by kernel_rfl) rfl (fun K hK => ?_)
      go_simp
      refine hK _ _ (fun h => absurd h (by decide)) ?_
      clear hK K
      refine wpAnyU_one 8 (by kernel_rfl) rfl (fun K hK => ?_)
      go_simp
      refine hK _ _ (fun h => absurd h (by decide)) ?_
      clear hK K
      refine wpAnyU_done (by kernel_rfl) ?_ _
      go_wp2
      go_ret2
      exact key.out A1 e1 w8 _ ys hyd hyn HM1
    · go_simp
      have hg7 := Gr.drew (Gr.alloc (Gr.refl w5) (.cells [.int .i64 xfn, .int .i64 (wrap64 (xpc + 1)), .slice B (xn + 1) d].toArray 30))
      have hm7 := (hm5.alloc (.cells [.int .i64 xfn, .int .i64 (wrap64 (xpc + 1)), .slice B (xn + 1) d].toArray 30)).drew
      refine hK _ _ (fun _ => ⟨hg7, Gr.cell hg7 k1, Gr.cell hg7 k2, Gr.cell hg7 k3⟩) ?_
      clear hK K
      refine wpAnyU_one 3 (by kernel_rfl) rfl (fun K hK => ?_)
      refine step_call rfl 81 Try.f81 Try.func81 (by kernel_rfl) (by kernel_rfl) _ _ rfl #[.slice (some ⟨b, o, none⟩) k c] (by simp [Act.eval]) ?_
      refine (copied_ok _ N (some ⟨b, o, none⟩) k c (xs.take k) ⟨(hx.out.pre k (by omega)).gr hm7.below⟩ (by omega) (by omega)).mono ?_
      rintro e w6 ⟨gC, ys, rfl, hm6, hyd, hyn⟩
      have hg6 := Gr.trans hg7 hm6.below
      refine ⟨_, rfl, hK _ _ (fun _ => ⟨hg6, Gr.cell hg6 k1, Gr.cell hg6 k2, Gr.cell hg6 k3⟩) ?_⟩
      clear hK K
      try simp only [Act.put, List.setIfInBounds_toArray, List.set_cons_zero, List.set_cons_succ]
      have hmj := (Mem.mid (hm7.join hm6)).swap
      refine wpAnyU_one 6 (by kernel_rfl) rfl (fun K hK => ?_)
      refine step_app rfl _ _ _ rfl 30 iR _ 3 40 ty_Rs hi hz0 hz1 hz2 rfl (some ⟨gC, 0, none⟩) k k _ rfl hmj _ 1 1 [.int .i64 xfn, .int .i64 (wrap64 (xpc + 1)), .slice B (xn + 1) d] rfl (hmj.rdblk m1 1 3 rfl (by simp [maxLen]) (cR_one ⟨xfn, wrap64 (xpc + 1), B, xn + 1, d, []⟩)) (by unfold maxLen; omega) (by omega) ?_
      intro A1 e1 w8 HM1
      refine hK _ _ (fun h => absurd h (by decide)) ?_
      clear hK K
      try simp only [Act.put, List.setIfInBounds_toArray, List.set_cons_zero, List.set_cons_succ]
      refine wpAnyU_one 7 (by kernel_rfl) rfl (fun K hK => ?_)
      go_simp
      refine hK _ _ (fun h => absurd h (by decide)) ?_
      clear hK K
      refine wpAnyU_one 8 (by kernel_rfl) rfl (fun K hK => ?_)
      go_simp
      refine hK _ _ (fun h => absurd h (by decide)) ?_
      clear hK K
      refine wpAnyU_done (by kernel_rfl) ?_ _
      go_wp2
      go_ret2
      exact key.out A1 e1 w8 _ ys hyd hyn HM1
  · have hb2 : Fact (decide (2 ≤ n) = false) := ⟨by simpa using h2⟩
    have hrd : Fact (retD xs (v1, v2) = []) := ⟨by unfold retD; rw [if_pos (by have := hl.out; omega)]⟩
    rw [hb2.out]
    have e1 : decide ((n : Int) - 2 < 0) = true := by simp; omega
    go_enter Try.func23, Try.ntmps23
    go_wp2
    go_ret2
    have hm := (Mem.start w).alloc (.cells [.slice kA kn kc, .slice fA fnn fc].toArray 25) |>.alloc (.cells [.int .i64 v1, .int .i64 v2].toArray 41)
    exact ⟨none, 0, 0, [], rfl, (hm.nil 3 none).sub (.cons_cons _ (List.nil_sublist _)), by rw [hrd.out]; rfl, fun z hz => by cases hz⟩
end Go.Proofs.Ytgflfpepfpekhaa
