/- Calls that pay: what they cost, and what they leave. -/
import Derived.Test.YtpibchjkmaghnaaHpAsk
namespace Go.Proofs.Ytpibchjkmaghnaa
open Go.RowKit Go.Mm
set_option maxHeartbeats 4000000
set_option maxRecDepth 100000
set_option linter.unusedSimpArgs false
/-- A number from 0 to n - 1 out of any, as data. -/
def pickF (k : Int) (n : Nat) : Int := if k.tmod n < 0 then k.tmod n + n else k.tmod n
theorem pickF_rng (k : Int) (n : Nat) (h : 0 < n) : 0 ≤ pickF k n ∧ pickF k n < n := by
  unfold pickF
  have h0 : (0 : Int) < n := by omega
  have h1 := Int.lt_tmod_of_pos k h0
  have h2 := Int.tmod_lt_of_pos k h0
  split <;> omega
theorem pickF_id (k : Int) (n : Nat) (h0 : 0 ≤ k) (h1 : k < n) : pickF k n = k := by
  unfold pickF
  rw [Int.tmod_eq_of_lt h0 h1, if_neg (by omega)]
theorem pickF_ok (w : World) (k N : Int) (n : Nat) (hN : N = n) (hn : n ≤ 1048577) (h0 : 0 < n) :
    Calls Try.prog 12 #[.int .i64 k, .int .i64 N] w fun e w' => e = .returned (.int .i64 (pickF k n)) ∧ w' = w := by
  subst hN
  unfold pickF
  go_enter Try.func12, Try.ntmps12
  have h1 : ((n : Int) < 1) = False := by simp; omega
  have hb : -(n : Int) < k.tmod n ∧ k.tmod n < n := by
    have hn0 : (0 : Int) < n := by omega
    exact ⟨Int.lt_tmod_of_pos k hn0, Int.tmod_lt_of_pos k hn0⟩
  by_cases hs : k.tmod n < 0
  · have hw : wrap64 (k.tmod n + n) = k.tmod n + n := IntWalk.wrap64_in _ (by omega)
    have hw2 : IntKind.i64.wrap (k.tmod n + n) = k.tmod n + n := IntWalk.i64_in _ (by omega)
    go_wp2
    go_ret
    exact ⟨rfl, rfl⟩
  · go_wp2
    go_ret
    exact ⟨rfl, rfl⟩
/-- What a call costs, and whether it could be carried out, were there room. -/
def payMay (c : Nat) (o : HOp) : Bool := match c with
  | 3 => decide (o.n ≤ 4096)
  | 4 => true
  | 5 => decide (0 ≤ o.M) && decide (o.n ≤ 4096)
  | 6 => decide (1 ≤ o.M) && decide (o.M ≤ 64)
  | _ => decide (0 ≤ o.M)
def payCost (c : Nat) (o : HOp) : Int := match c with
  | 3 => 2 + o.n
  | 4 => 2
  | 5 => 2 + o.n
  | 6 => 2 + pickF o.M 66
  | _ => o.M
theorem cost0_ok (w0 w : World) (L : List Chunk) (hm : Mem w0 w L) (o : HOp) (hn : o.n ≤ 1048576) :
    Calls Try.prog 46 #[.int .i64 0, .agg (cHO o).toArray] w fun e w' => e = .returned (.tuple #[.int .i64 (payCost 0 o), .bool (payMay 0 o)]) ∧ Gr w w' := by
  simp only [payCost, payMay]
  go_enter Try.func46, Try.ntmps46
  go_upto_region 1 with (fail)
  have hm1 := hm.alloc (.cells (cHO o).toArray 32)
  have hg1 := (Gr.refl w).alloc (.cells (cHO o).toArray 32)
  generalize hgb : w.heap.size = g at hm1 ⊢
  generalize hw1 : w.alloc (.cells (cHO o).toArray 32) = w1 at hm1 hg1
  try refine wp_world hw1 ?_
  clear hw1 hgb hm
  have x7 := hm1.cell m0 7 rfl
  have x8 := hm1.cell m0 8 rfl
  go_upto_region 10 with (fail)
  go_quiet (fail)
  go_wp2
  go_ret2
  exact ⟨rfl, hg1.drewN _⟩
theorem cost3_ok (w0 w : World) (L : List Chunk) (hm : Mem w0 w L) (o : HOp) (hn : o.n ≤ 1048576) :
    Calls Try.prog 46 #[.int .i64 3, .agg (cHO o).toArray] w fun e w' => e = .returned (.tuple #[.int .i64 (payCost 3 o), .bool (payMay 3 o)]) ∧ Gr w w' := by
  simp only [payCost, payMay]
  have e1 : IntKind.i64.wrap (2 + (o.n : Int)) = 2 + o.n := IntWalk.i64_in _ (by omega)
  go_enter Try.func46, Try.ntmps46
  go_upto_region 1 with (fail)
  have hm1 := hm.alloc (.cells (cHO o).toArray 32)
  have hg1 := (Gr.refl w).alloc (.cells (cHO o).toArray 32)
  generalize hgb : w.heap.size = g at hm1 ⊢
  generalize hw1 : w.alloc (.cells (cHO o).toArray 32) = w1 at hm1 hg1
  try refine wp_world hw1 ?_
  clear hw1 hgb hm
  have x7 := hm1.cell m0 7 rfl
  have x8 := hm1.cell m0 8 rfl
  go_upto_region 3 with (fail)
  go_quiet (fail)
  go_wp2
  go_ret2
  exact ⟨by simp; omega, hg1.drewN _⟩
theorem cost4_ok (w0 w : World) (L : List Chunk) (hm : Mem w0 w L) (o : HOp) (hn : o.n ≤ 1048576) :
    Calls Try.prog 46 #[.int .i64 4, .agg (cHO o).toArray] w fun e w' => e = .returned (.tuple #[.int .i64 (payCost 4 o), .bool (payMay 4 o)]) ∧ Gr w w' := by
  simp only [payCost, payMay]
  go_enter Try.func46, Try.ntmps46
  go_wp2
  go_ret2
  exact ⟨rfl, (Gr.refl w).alloc _⟩
theorem cost5_ok (w0 w : World) (L : List Chunk) (hm : Mem w0 w L) (o : HOp) (hn : o.n ≤ 1048576) :
    Calls Try.prog 46 #[.int .i64 5, .agg (cHO o).toArray] w fun e w' => e = .returned (.tuple #[.int .i64 (payCost 5 o), .bool (payMay 5 o)]) ∧ Gr w w' := by
  simp only [payCost, payMay]
  have e1 : IntKind.i64.wrap (2 + (o.n : Int)) = 2 + o.n := IntWalk.i64_in _ (by omega)
  by_cases q : o.n ≤ 4096
  · have q' : decide ((o.n : Int) ≤ 4096) = true := decide_eq_true (by omega)
    rw [decide_eq_true q, Bool.and_true]
    go_enter Try.func46, Try.ntmps46
    go_upto_region 1 with (fail)
    have hm1 := hm.alloc (.cells (cHO o).toArray 32)
    have hg1 := (Gr.refl w).alloc (.cells (cHO o).toArray 32)
    generalize hgb : w.heap.size = g at hm1 ⊢
    generalize hw1 : w.alloc (.cells (cHO o).toArray 32) = w1 at hm1 hg1
    try refine wp_world hw1 ?_
    clear hw1 hgb hm
    have x7 := hm1.cell m0 7 rfl
    have x8 := hm1.cell m0 8 rfl
    go_upto_region 7 with (fail)
    go_quiet (fail)
    go_wp2
    go_ret2
    exact ⟨rfl, hg1.drewN _⟩
  · have q' : decide ((o.n : Int) ≤ 4096) = false := decide_eq_false (by omega)
    rw [decide_eq_false q, Bool.and_false]
    go_enter Try.func46, Try.ntmps46
    go_upto_region 1 with (fail)
    have hm1 := hm.alloc (.cells (cHO o).toArray 32)
    have hg1 := (Gr.refl w).alloc (.cells (cHO o).toArray 32)
    generalize hgb : w.heap.size = g at hm1 ⊢
    generalize hw1 : w.alloc (.cells (cHO o).toArray 32) = w1 at hm1 hg1
    try refine wp_world hw1 ?_
    clear hw1 hgb hm
    have x7 := hm1.cell m0 7 rfl
    have x8 := hm1.cell m0 8 rfl
    go_upto_region 7 with (fail)
    go_quiet (fail)
    go_wp2
    go_ret2
    exact ⟨rfl, hg1.drewN _⟩
theorem cost6_ok (w0 w : World) (L : List Chunk) (hm : Mem w0 w L) (o : HOp) (hn : o.n ≤ 1048576) :
    Calls Try.prog 46 #[.int .i64 6, .agg (cHO o).toArray] w fun e w' => e = .returned (.tuple #[.int .i64 (payCost 6 o), .bool (payMay 6 o)]) ∧ Gr w w' := by
  simp only [payCost, payMay]
  have hp := pickF_rng o.M 66 (by omega)
  have e2 : IntKind.i64.wrap (2 + pickF o.M 66) = 2 + pickF o.M 66 := IntWalk.i64_in _ (by omega)
  have hpk := fun w => pickF_ok w o.M 66 66 rfl (by omega) (by omega)
  generalize pickF o.M 66 = P at hp e2 hpk ⊢
  replace hpk := Fact.mk hpk
  by_cases q : 1 ≤ o.M
  · have q' : decide (o.M ≥ 1) = true := decide_eq_true (by omega)
    rw [decide_eq_true q, Bool.true_and]
    go_enter Try.func46, Try.ntmps46
    go_upto_region 1 with (fail)
    have hm1 := hm.alloc (.cells (cHO o).toArray 32)
    have hg1 := (Gr.refl w).alloc (.cells (cHO o).toArray 32)
    generalize hgb : w.heap.size = g at hm1 ⊢
    generalize hw1 : w.alloc (.cells (cHO o).toArray 32) = w1 at hm1 hg1
    try refine wp_world hw1 ?_
    clear hw1 hgb hm
    have x7 := hm1.cell m0 7 rfl
    have x8 := hm1.cell m0 8 rfl
    go_upto_region 9 with (fail)
    go_quiet (exact Calls.quiet_of_same (hpk.out _))
    go_wp2
    go_ret2
    exact ⟨rfl, hg1.drewN _⟩
  · have q' : decide (o.M ≥ 1) = false := decide_eq_false (by omega)
    rw [decide_eq_false q, Bool.false_and]
    go_enter Try.func46, Try.ntmps46
    go_upto_region 1 with (fail)
    have hm1 := hm.alloc (.cells (cHO o).toArray 32)
    have hg1 := (Gr.refl w).alloc (.cells (cHO o).toArray 32)
    generalize hgb : w.heap.size = g at hm1 ⊢
    generalize hw1 : w.alloc (.cells (cHO o).toArray 32) = w1 at hm1 hg1
    try refine wp_world hw1 ?_
    clear hw1 hgb hm
    have x7 := hm1.cell m0 7 rfl
    have x8 := hm1.cell m0 8 rfl
    go_upto_region 9 with (fail)
    go_quiet (exact Calls.quiet_of_same (hpk.out _))
    go_wp2
    go_ret2
    exact ⟨rfl, hg1.drewN _⟩
theorem cost_ok (w0 w : World) (L : List Chunk) (hm : Mem w0 w L) (c : Nat) (hc : c = 0 ∨ c = 3 ∨ c = 4 ∨ c = 5 ∨ c = 6) (o : HOp) (hn : o.n ≤ 1048576) :
    Calls Try.prog 46 #[.int .i64 c, .agg (cHO o).toArray] w fun e w' => e = .returned (.tuple #[.int .i64 (payCost c o), .bool (payMay c o)]) ∧ Gr w w' := by
  rcases hc with rfl | rfl | rfl | rfl | rfl
  · exact cost0_ok w0 w L hm o hn
  · exact cost3_ok w0 w L hm o hn
  · exact cost4_ok w0 w L hm o hn
  · exact cost5_ok w0 w L hm o hn
  · exact cost6_ok w0 w L hm o hn
/-- What a call that pays leaves. -/
structure PayQ (s : Hs) (c : Nat) (o : HOp) (S : Hs) (v : V2) (b : Bool) : Prop where
  ok : b = (payMay c o && decide (payCost c o ≤ s.budget - s.spent))
  no : b = false → S = s ∧ v = (0, 0)
  budget : b = true → S.budget = s.budget
  spent : b = true → S.spent = s.spent + payCost c o
  len : b = true → S.objs.length = s.objs.length + (if c = 0 then 0 else 1)
  v : b = true → v = if c = 0 then (0, 0) else (3 + (c : Int), (s.objs.length : Int))
theorem make_payQ (s : Hs) (c : Nat) (o : HOp) (may : Bool) (cost k : Int) (ob : Ob) (hc : c ≠ 0) (hm : payMay c o = may) (h0 : may = true → 0 ≤ cost ∧ payCost c o = cost) (hk : k = 3 + (c : Int)) :
    ∃ v b, s.makeV may cost k = sdV v 0 0 b ∧ PayQ s c o (s.make may cost ob) v b := by
  unfold Hs.makeV Hs.make Hs.room
  cases may with
  | false =>
    refine ⟨(0, 0), false, rfl, by rw [hm]; rfl, fun _ => ⟨rfl, rfl⟩, (fun h => nomatch h), (fun h => nomatch h), (fun h => nomatch h), (fun h => nomatch h)⟩
  | true =>
    obtain ⟨h1, h2⟩ := h0 rfl
    rw [Bool.true_and, decide_eq_true h1, Bool.true_and]
    by_cases q : cost ≤ s.budget - s.spent
    · rw [decide_eq_true q]
      refine ⟨_, true, rfl, by rw [hm, h2, decide_eq_true q]; rfl, (fun h => nomatch h), (fun _ => rfl), (fun _ => by rw [h2]), (fun _ => by simp [hc]), (fun _ => by simp [hc, hk])⟩
    · rw [decide_eq_false q]
      refine ⟨_, false, rfl, by rw [hm, h2, decide_eq_false q]; rfl, (fun _ => ⟨rfl, rfl⟩), (fun h => nomatch h), (fun h => nomatch h), (fun h => nomatch h), (fun h => nomatch h)⟩
theorem askPay_ok (w0 w : World) (L : List Chunk) (h : Hp) (hm : Mem w0 w (HpC h :: L)) (hok : Fact h.Ok) (c : Nat) (hc : c = 0 ∨ c = 3 ∨ c = 4 ∨ c = 5 ∨ c = 6) (o : HOp) (hx : Fact (RdC w0 2 (.slice o.A o.n o.c) (fV o.items))) (hn : o.n ≤ 1048576) (hl : h.ths.length < 16777216) :
    ∃ (b : Bool) (v : V2) (S : Hs), PayQ h.abs c o S v b ∧ Calls Try.prog 47 #[.pointer (some ⟨h.g, 0, none⟩), .int .i64 c, .agg (cHO o).toArray] w fun e w' => ∃ val, e = .returned (.tuple #[val, .bool true]) ∧ AskQ w0 L h.g S (sdV v 0 0 b) val w' := by
  rcases hc with rfl | rfl | rfl | rfl | rfl
  · refine ⟨h.abs.room o.M, (0, 0), h.abs.spend o.M, ⟨rfl, fun q => ?_, fun q => ?_, fun q => ?_, fun q => ?_, fun _ => rfl⟩, ?_⟩
    · unfold Hs.spend; rw [q]; exact ⟨rfl, rfl⟩
    · unfold Hs.spend; rw [q]
    · unfold Hs.spend; rw [q]; rfl
    · unfold Hs.spend; rw [q]; rfl
    · exact askPlain_ok w0 w L h hm 0 _ _ o hx hn (by decide) (by decide) (by decide) ⟨fun w1 L1 hm1 => askP_spend w0 w1 L1 h hm1 hok o⟩
  · obtain ⟨v, b, e, hq⟩ := make_payQ h.abs 3 o (decide (o.n ≤ 4096)) (2 + o.n) 6 ⟨6, o.items, [], 0, 0, false⟩ (by decide) rfl (fun _ => ⟨by omega, rfl⟩) rfl
    refine ⟨b, v, _, hq, ?_⟩
    rw [← e]
    exact askArray_ok w0 w L h hm hok o hx hn hl
  · obtain ⟨v, b, e, hq⟩ := make_payQ h.abs 4 o true 2 7 ⟨7, [], [], 0, 0, false⟩ (by decide) rfl (fun _ => ⟨by omega, rfl⟩) rfl
    refine ⟨b, v, _, hq, ?_⟩
    rw [← e]
    exact askPlain_ok w0 w L h hm 4 _ _ o hx hn (by decide) (by decide) (by decide) ⟨fun w1 L1 hm1 => askP_record w0 w1 L1 h hm1 hok o hl⟩
  · obtain ⟨v, b, e, hq⟩ := make_payQ h.abs 5 o (decide (0 ≤ o.M) && decide (o.n ≤ 4096)) (2 + o.n) 8 ⟨8, o.items, [], o.M, 0, false⟩ (by decide) rfl (fun _ => ⟨by omega, rfl⟩) rfl
    refine ⟨b, v, _, hq, ?_⟩
    rw [← e]
    exact askBound_ok w0 w L h hm hok o hx hn hl
  · obtain ⟨v, b, e, hq⟩ := make_payQ h.abs 6 o (decide (1 ≤ o.M) && decide (o.M ≤ 64)) (2 + o.M) 9 ⟨9, [], [], 0, o.M, false⟩ (by decide) rfl (fun q => by
      have q' : 1 ≤ o.M ∧ o.M ≤ 64 := by simpa using q
      exact ⟨by omega, by simp only [payCost]; rw [pickF_id _ _ (by omega) (by omega)]⟩) rfl
    refine ⟨b, v, _, hq, ?_⟩
    rw [← e]
    exact askPlain_ok w0 w L h hm 6 _ _ o hx hn (by decide) (by decide) (by decide) ⟨fun w1 L1 hm1 => askP_chan w0 w1 L1 h hm1 hok o hl⟩
end Go.Proofs.Ytpibchjkmaghnaa
