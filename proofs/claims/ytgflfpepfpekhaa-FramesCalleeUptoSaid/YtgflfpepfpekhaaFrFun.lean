import Derived.Test.YtgflfpepfpekhaaFrData
import Derived.Test.YtgflfpepfpekhaaMk
namespace Go.Proofs.Ytgflfpepfpekhaa
open Go.RowKit Go.Mm
set_option maxHeartbeats 400000
set_option maxRecDepth 100000
theorem row_F : (Try.prog.underlying 87).map (·.isRow) = some true := by kernel_rfl
theorem szF : (Try.prog.info? 87).map (·.size) = some 5 := by kernel_rfl
theorem row_R : (Try.prog.underlying 30).map (·.isRow) = some true := by kernel_rfl
theorem szR : (Try.prog.info? 30).map (·.size) = some 3 := by kernel_rfl
theorem row_Hh : (Try.prog.underlying 145).map (·.isRow) = some true := by kernel_rfl
theorem szHh : (Try.prog.info? 145).map (·.size) = some 4 := by kernel_rfl
theorem row_Vv : (Try.prog.underlying 41).map (·.isRow) = some true := by kernel_rfl
/-- The function with a number. -/
def fnAt (p : Pg) (i : Int) : Option Fn := if 0 ≤ i ∧ i < p.fn then some (p.fns.getD i.toNat fn0) else none
theorem function_ok (w : World) (p : Pg) (hp : Fact (PgOk w p)) (i : Int) :
    Calls Try.prog 75 #[vP p, .int .i64 i] w fun e w' => e = .returned (.tuple #[.agg (cF ((fnAt p i).getD fn0)).toArray, .bool (fnAt p i).isSome]) ∧ Gr w w' := by
  have hsm := hp.out.small.1
  by_cases hi : 0 ≤ i ∧ i < p.fn
  · have hfa : Fact (fnAt p i = some (p.fns.getD i.toNat fn0)) := ⟨by unfold fnAt; rw [if_pos hi]⟩
    obtain ⟨k, rfl⟩ : ∃ k : Nat, i = (k : Int) := ⟨i.toNat, by omega⟩
    obtain ⟨b, o, eA, hr, _, _⟩ := rd_at cF_len (by omega) fn0 hp.out.fns k (by omega)
    rw [Int.toNat_natCast] at hfa
    generalize p.fns.getD k fn0 = x at hr hfa
    rw [hfa.out]
    obtain ⟨kA, kn, kc, consts, fA, fnn, fc, fns⟩ := p
    cases eA
    simp only [vP] at hi hsm ⊢
    have h1 : ((k : Int) < 0) = False := by simp
    have h2 : ((k : Int) ≥ (fnn : Int)) = False := by simp; omega
    go_enter Try.func75, Try.ntmps75
    go_upto_region 1 with (fail)
    have hm := (((Mem.start w).alloc (.cells [.slice kA kn kc, .slice (some ⟨b, o, none⟩) fnn fc].toArray 25)).alloc (.cells (cF fn0).toArray 87))
    simp only [World.size_alloc] at hm
    generalize hgX : w.heap.size = g at hm ⊢
    generalize hwX : ((w.alloc (.cells [.slice kA kn kc, .slice (some ⟨b, o, none⟩) fnn fc].toArray 25)).alloc (.cells (cF fn0).toArray 87)) = w1 at hm
    try refine wp_world hwX ?_
    clear hwX hgX
    have c1 := hm.cell m1 1 rfl
    have hr1 := Fact.mk (rng_gr hr hm.below)
    go_wp2_with (first | (refine wp_rng rfl 87 _ rfl b _ rfl (cF x) hr1.out row_F szF ?_) | (refine wp_setrow rfl 87 _ _ rfl (g + 1) rfl 87 _ (cF x) rfl hm szF rfl (cF_one x) ?_; intro w2 hm2))
    refine bodyPost_ret (Mm.res_cell_tmp rfl _ (g + 1) 87 (cF x) (0, 0) rfl hm2 m0 row_F szF) rfl ⟨rfl, hm2.below⟩
  · have hfa : Fact (fnAt p i = none) := ⟨by unfold fnAt; rw [if_neg hi]⟩
    rw [hfa.out]
    obtain ⟨kA, kn, kc, consts, fA, fnn, fc, fns⟩ := p
    simp only [vP] at hi hsm ⊢
    by_cases h0 : i < 0
    · go_enter Try.func75, Try.ntmps75
      go_upto_region 1 with (fail)
      have hm := (((Mem.start w).alloc (.cells [.slice kA kn kc, .slice fA fnn fc].toArray 25)).alloc (.cells (cF fn0).toArray 87))
      simp only [World.size_alloc] at hm
      generalize hgX : w.heap.size = g at hm ⊢
      generalize hwX : ((w.alloc (.cells [.slice kA kn kc, .slice fA fnn fc].toArray 25)).alloc (.cells (cF fn0).toArray 87)) = w1 at hm
      try refine wp_world hwX ?_
      clear hwX hgX
      go_wp2_with (refine wp_setrow rfl 87 _ _ rfl (g + 1) rfl 87 _ (cF fn0) rfl hm szF rfl (cF_one _) ?_; intro w2 hm2)
      refine bodyPost_ret (Mm.res_cell_tmp rfl _ (g + 1) 87 (cF fn0) (0, 0) rfl hm2 m0 row_F szF) rfl ⟨rfl, hm2.below⟩
    · have h2 : (i ≥ (fnn : Int)) = True := by simp; omega
      have h1 : (i < 0) = False := by simp; omega
      go_enter Try.func75, Try.ntmps75
      go_upto_region 1 with (fail)
      have hm := (((Mem.start w).alloc (.cells [.slice kA kn kc, .slice fA fnn fc].toArray 25)).alloc (.cells (cF fn0).toArray 87))
      simp only [World.size_alloc] at hm
      generalize hgX : w.heap.size = g at hm ⊢
      generalize hwX : ((w.alloc (.cells [.slice kA kn kc, .slice fA fnn fc].toArray 25)).alloc (.cells (cF fn0).toArray 87)) = w1 at hm
      try refine wp_world hwX ?_
      clear hwX hgX
      have c1 := hm.cell m1 1 rfl
      go_wp2_with (refine wp_setrow rfl 87 _ _ rfl (g + 1) rfl 87 _ (cF fn0) rfl hm szF rfl (cF_one _) ?_; intro w2 hm2)
      refine bodyPost_ret (Mm.res_cell_tmp rfl _ (g + 1) 87 (cF fn0) (0, 0) rfl hm2 m0 row_F szF) rfl ⟨rfl, hm2.below⟩
theorem fV_take (xs : List V2) (n : Nat) : fV (xs.take n) = (fV xs).take (n * 2) := by
  induction xs generalizing n with
  | nil => simp [fV]
  | cons x xs ih =>
    cases n with
    | zero => simp [fV]
    | succ n => simp only [List.take_succ_cons, fV, List.flatMap_cons] at ih ⊢; rw [ih, show (n + 1) * 2 = (cV x).length + n * 2 by rw [cV_len]; omega, List.take_append, List.take_of_length_le (l := cV x) (Nat.le_add_right _ _), Nat.add_sub_cancel_left]
theorem fV_one1 (v : V2) : fV [v] = cV v := by simp [fV]
theorem laid_ok (w : World) (A : Option Addr) (m c : Nat) (xs : List V2) (hx : Fact (RdC w 2 (.slice A m c) (fV xs))) (n : Nat) (N : Int) (hN : N = n) (hn : n ≤ m) (hs : m ≤ 2000000) (v : V2) :
    Calls Try.prog 80 #[.slice A m c, .int .i64 N, .agg (cV v).toArray] w fun e w' => ∃ A' c', e = .returned (.slice A' (n + 1) c') ∧ New w w' (Own 2 (.slice A' (n + 1) c') (fV (xs.take n ++ [v]))) := by
  subst hN
  obtain ⟨iV, hi, hz0, hz1, hz2⟩ := info_parts inf_V
  have hr := ((hx.out.pre n hn).recap n (Nat.le_refl _) (by unfold maxLen; omega))
  rw [← fV_take] at hr
  have hcap : m ≤ c := by obtain ⟨_, _, _, e, _, h, _⟩ := hx.out; cases e; exact h
  simp only [cV]
  go_enter Try.func80, Try.ntmps80
  go_upto_region 1 with (fail)
  have hm := ((Mem.start w).alloc (.cells (cV v).toArray 41))
  generalize hgX : w.heap.size = g at hm ⊢
  generalize hwX : (w.alloc (.cells (cV v).toArray 41)) = w1 at hm
  try refine wp_world hwX ?_
  clear hwX hgX
  have c1 := hm.cell m0 0 rfl
  have c2 := hm.cell m0 1 rfl
  cases A with
  | none =>
    obtain rfl : m = 0 := hx.out.none0 (by omega)
    obtain rfl : n = 0 := by omega
    go_region_law (refine step_fresh rfl _ _ _ rfl 41 iV _ 2 16 ty_Vs hi hz0 hz1 hz2 rfl none 0 0 _ rfl (hr.gr (hm.drew.alloc _).below) (hm.drew.alloc _) _ 1 1 (cV v) rfl (RdC.lit _ (cV v) _ 1 2 rfl (by simp [maxLen]) (cV_one v)) (by unfold maxLen; omega) (by omega) (by omega) ?_; intro A1 c1 w1 HM1)
    go_wp2
    go_ret
    exact ⟨A1, c1, rfl, by rw [fV_app, fV_one1]; simpa using HM1.only.new_of⟩
  | some a =>
    have hnc : n ≤ c := by omega
    go_region_law (refine step_fresh rfl _ _ _ rfl 41 iV _ 2 16 ty_Vs hi hz0 hz1 hz2 rfl (some a) n n _ rfl (hr.gr (hm.drew.alloc _).below) (hm.drew.alloc _) _ 1 1 (cV v) rfl (RdC.lit _ (cV v) _ 1 2 rfl (by simp [maxLen]) (cV_one v)) (by unfold maxLen; omega) (by omega) (by omega) ?_; intro A1 c1 w1 HM1)
    go_wp2
    go_ret
    exact ⟨A1, c1, rfl, by rw [fV_app, fV_one1]; simpa using HM1.only.new_of⟩
end Go.Proofs.Ytgflfpepfpekhaa
