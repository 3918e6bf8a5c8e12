import Derived.Test.YtgflfpepfpekhaaStkRef
import Derived.Test.YtgflfpepfpekhaaCutw
namespace Go.Proofs.Ytgflfpepfpekhaa
open Go.RowKit Go.Mm
set_option maxHeartbeats 2000000
set_option maxRecDepth 100000
set_option linter.unusedSimpArgs false
theorem refPop_ok (w : World) (A : Option Addr) (n c : Nat) (xs : List Int) (hx : Fact (RdC w 1 (.slice A n c) (nums .i64 xs))) (hn : n ≤ 16777216) (k : Nat) (hk : k ≤ n) (K : Int) (hK : K = k) (hA : c ≠ 0 → ∃ b o, A = some ⟨b, o, none⟩) :
    Calls Try.prog 35 #[.slice A n c, .int .i64 K] w fun e w' => ∃ A1 c1 A2 c2, e = .returned (.tuple #[.slice A1 (n - k) c1, .slice A2 k c2, .bool true]) ∧ Mem w w' [Own 1 (.slice A2 k c2) (nums .i64 (xs.drop (n - k))), Own 1 (.slice A1 (n - k) c1) (nums .i64 (xs.take (n - k)))] := by
  subst hK
  have hcn : n ≤ c := by obtain ⟨_, _, _, e, _, h, _⟩ := hx.out; cases e; exact h
  obtain ⟨q, hq⟩ : ∃ q, Fact (n - k = q) := ⟨_, ⟨rfl⟩⟩
  rw [hq.out]
  have hqn : q ≤ n := by have := hq.out; omega
  have hqc : q ≤ c := by omega
  have e1 : (n : Int) - (k : Int) = (q : Int) := by have := hq.out; omega
  have e2 : n - q = k := by have := hq.out; omega
  have e0 : ((k : Int) > (n : Int)) = False := eq_false (by omega)
  have hr1 : Fact (RdC w 1 (.slice A q c) (nums .i64 (xs.take q))) := ⟨by have h := hx.out.pre q hqn; rw [Nat.mul_one, ← nums_take] at h; exact h⟩
  by_cases hc : q = c
  · obtain rfl : n = c := by omega
    obtain rfl : k = 0 := by omega
    obtain rfl : n = q := by omega
    clear e1 e2 e0 hq hc hqc hqn hcn hA
    have hr2 : ∀ (X : Option Addr), Fact (RdC w 1 (.slice X 0 0) (nums .i64 (xs.drop n))) := fun X => ⟨by
      rw [List.drop_eq_nil_of_le (by have := hx.out.nlen; omega)]
      exact RdC.empty _ _ _ _ (by simp)⟩
    go_enter Try.func35, Try.ntmps35
    go_upto_region 4 with (fail)
    go_cut [4, 5, 6] (fun s4 s5 s6 W => ∃ A1 c1 A2 c2, s4 = .slice A1 n c1 ∧ s5 = .slice A2 0 c2 ∧ s6 = .bool true ∧ Mem w W [Own 1 (.slice A2 0 c2) (nums .i64 (xs.drop n)), Own 1 (.slice A1 n c1) (nums .i64 (xs.take n))])
    case first =>
      have hgS := (Gr.refl w).drew
      have hmS := (Mem.start w).drew
      refine wp_region_until (S := fun W => True) 8 (by kernel_rfl) ?_
      generalize w.drew = wd at hgS hmS ⊢
      refine wpAnyU_take 0 (v := ?vv41) rfl (by kernel_rfl) (by kernel_rfl) (fun _ _ _ h => h) trivial (Or.inl ⟨rfl, ?yv41⟩) ?rv41
      case yv41 =>
        intro W hW
        go_simp
        try with_reducible rfl
      try simp only [Act.put, List.getElem_toArray, List.getElem_cons_succ, List.getElem_cons_zero, List.setIfInBounds_toArray, List.set_cons_zero, List.set_cons_succ]
      refine wpAnyU_take 1 (v := ?vv42) rfl (by kernel_rfl) (by kernel_rfl) (fun _ _ _ h => h) trivial (Or.inl ⟨rfl, ?yv42⟩) ?rv42
      case yv42 =>
        intro W hW
        go_simp
        try with_reducible rfl
      try simp only [Act.put, List.getElem_toArray, List.getElem_cons_succ, List.getElem_cons_zero, List.setIfInBounds_toArray, List.set_cons_zero, List.set_cons_succ]
      refine wpAnyU_take 2 (v := ?vv43) rfl (by kernel_rfl) (by kernel_rfl) (fun _ _ _ h => h) trivial (Or.inl ⟨rfl, ?yv43⟩) ?rv43
      case yv43 =>
        intro W hW
        go_simp
        try with_reducible rfl
      try simp only [Act.put, List.getElem_toArray, List.getElem_cons_succ, List.getElem_cons_zero, List.setIfInBounds_toArray, List.set_cons_zero, List.set_cons_succ]
      refine wpAnyU_take 4 (v := ?vv44) rfl (by kernel_rfl) (by kernel_rfl) (fun _ _ _ h => h) trivial (Or.inl ⟨rfl, ?yv44⟩) ?rv44
      case yv44 =>
        intro W hW
        go_simp
        try with_reducible rfl
      try simp only [Act.put, List.getElem_toArray, List.getElem_cons_succ, List.getElem_cons_zero, List.setIfInBounds_toArray, List.set_cons_zero, List.set_cons_succ]
      refine wpAnyU_take 5 (v := ?vv45) rfl (by kernel_rfl) (by kernel_rfl) (fun _ _ _ h => h) trivial (Or.inl ⟨rfl, ?yv45⟩) ?rv45
      case yv45 =>
        intro W hW
        go_simp
        try with_reducible rfl
      try simp only [Act.put, List.getElem_toArray, List.getElem_cons_succ, List.getElem_cons_zero, List.setIfInBounds_toArray, List.set_cons_zero, List.set_cons_succ]
      refine wpAnyU_take 6 (v := ?vv46) rfl (by kernel_rfl) (by kernel_rfl) (fun _ _ _ h => h) trivial (Or.inl ⟨rfl, ?yv46⟩) ?rv46
      case yv46 =>
        intro W hW
        go_simp
        try with_reducible rfl
      try simp only [Act.put, List.getElem_toArray, List.getElem_cons_succ, List.getElem_cons_zero, List.setIfInBounds_toArray, List.set_cons_zero, List.set_cons_succ]
      refine wpAnyU_one 3 (by kernel_rfl) rfl (fun K hK => ?_)
      refine step_callw rfl 31 Try.f31 Try.func31 (by kernel_rfl) (by kernel_rfl) _ _ rfl #[.slice A n n] (by simp [Act.eval]) ?_
      refine (copyLongs_ok wd A n n (xs.take n) ⟨hr1.out.gr hgS⟩ (by omega)).mono ?_
      rintro e u1 ⟨A2, c3, rfl, hz4⟩
      have g5 := Gr.trans hgS hz4.gr
      have hm6 := hmS.new hz4
      refine ⟨_, rfl, hK _ _ (fun _ => trivial) ?_⟩
      clear hK K
      try simp only [Act.put, List.getElem_toArray, List.getElem_cons_succ, List.getElem_cons_zero, List.setIfInBounds_toArray, List.set_cons_zero, List.set_cons_succ]
      refine wpAnyU_one 7 (by kernel_rfl) rfl (fun K hK => ?_)
      refine step_callw rfl 31 Try.f31 Try.func31 (by kernel_rfl) (by kernel_rfl) _ _ rfl #[.slice A 0 0] (by simp [Act.eval]) ?_
      refine (copyLongs_ok u1 A 0 0 (xs.drop n) ⟨(hr2 A).out.gr g5⟩ (by omega)).mono ?_
      rintro e u7 ⟨A8, c9, rfl, hz10⟩
      have g11 := Gr.trans g5 hz10.gr
      have hm12 := hm6.new hz10
      refine ⟨_, rfl, hK _ _ (fun _ => trivial) ?_⟩
      clear hK K
      try simp only [Act.put, List.getElem_toArray, List.getElem_cons_succ, List.getElem_cons_zero, List.setIfInBounds_toArray, List.set_cons_zero, List.set_cons_succ]
      refine wpAnyU_one 8 (by kernel_rfl) rfl (fun K hK => ?_)
      go_simp
      refine hK _ _ (fun h => absurd h (by decide)) ?_
      clear hK K
      refine wpAnyU_one 9 (by kernel_rfl) rfl (fun K hK => ?_)
      go_simp
      refine hK _ _ (fun h => absurd h (by decide)) ?_
      clear hK K
      refine wpAnyU_one 10 (by kernel_rfl) rfl (fun K hK => ?_)
      go_simp
      refine hK _ _ (fun h => absurd h (by decide)) ?_
      clear hK K
      refine wpAnyU_done (by kernel_rfl) ?_ _
      go_wp2
      try simp only [Act.put, List.getElem_toArray, List.getElem_cons_succ, List.getElem_cons_zero, List.setIfInBounds_toArray, List.set_cons_succ, List.set_cons_zero]
      go_meet
      case rel => exact ⟨_, _, _, _, rfl, rfl, rfl, hm12⟩
    case rest =>
      obtain ⟨A1, c1, A2, c2, rfl, rfl, rfl, hm⟩ := hcut
      go_wp2
      go_ret3
      exact ⟨A1, c1, A2, c2, rfl, hm⟩
  · obtain ⟨ab, ao, rfl⟩ := hA (by omega)
    have hc' : (c = q) = False := eq_false (by omega)
    have hr2 : Fact (RdC w 1 (.slice (some ⟨ab, ao + q, none⟩) k (c - q)) (nums .i64 (xs.drop q))) := ⟨by have h := hx.out.behind q hqn; rw [Nat.mul_one, ← nums_drop, e2] at h; exact h⟩
    go_enter Try.func35, Try.ntmps35
    go_upto_region 4 with (fail)
    go_cut [4, 5, 6] (fun s4 s5 s6 W => ∃ A1 c1 A2 c2, s4 = .slice A1 q c1 ∧ s5 = .slice A2 k c2 ∧ s6 = .bool true ∧ Mem w W [Own 1 (.slice A2 k c2) (nums .i64 (xs.drop q)), Own 1 (.slice A1 q c1) (nums .i64 (xs.take q))])
    case first =>
      have hgS := (Gr.refl w).drew
      have hmS := (Mem.start w).drew
      refine wp_region_until (S := fun W => True) 8 (by kernel_rfl) ?_
      generalize w.drew = wd at hgS hmS ⊢
      refine wpAnyU_take 0 (v := ?vv4_a_1) rfl (by kernel_rfl) (by kernel_rfl) (fun _ _ _ h => h) trivial (Or.inl ⟨rfl, ?yv4_a_1⟩) ?rv4_a_1
      case yv4_a_1 =>
        intro W hW
        go_simp
        try with_reducible rfl
      try simp only [Act.put, List.getElem_toArray, List.getElem_cons_succ, List.getElem_cons_zero, List.setIfInBounds_toArray, List.set_cons_zero, List.set_cons_succ]
      refine wpAnyU_take 1 (v := ?vv4_a_2) rfl (by kernel_rfl) (by kernel_rfl) (fun _ _ _ h => h) trivial (Or.inl ⟨rfl, ?yv4_a_2⟩) ?rv4_a_2
      case yv4_a_2 =>
        intro W hW
        go_simp
        try with_reducible rfl
      try simp only [Act.put, List.getElem_toArray, List.getElem_cons_succ, List.getElem_cons_zero, List.setIfInBounds_toArray, List.set_cons_zero, List.set_cons_succ]
      refine wpAnyU_take 2 (v := ?vv4_a_3) rfl (by kernel_rfl) (by kernel_rfl) (fun _ _ _ h => h) trivial (Or.inl ⟨rfl, ?yv4_a_3⟩) ?rv4_a_3
      case yv4_a_3 =>
        intro W hW
        go_simp
        try with_reducible rfl
      try simp only [Act.put, List.getElem_toArray, List.getElem_cons_succ, List.getElem_cons_zero, List.setIfInBounds_toArray, List.set_cons_zero, List.set_cons_succ]
      refine wpAnyU_take 4 (v := ?vv4_a_4) rfl (by kernel_rfl) (by kernel_rfl) (fun _ _ _ h => h) trivial (Or.inl ⟨rfl, ?yv4_a_4⟩) ?rv4_a_4
      case yv4_a_4 =>
        intro W hW
        go_simp
        try with_reducible rfl
      try simp only [Act.put, List.getElem_toArray, List.getElem_cons_succ, List.getElem_cons_zero, List.setIfInBounds_toArray, List.set_cons_zero, List.set_cons_succ]
      refine wpAnyU_take 5 (v := ?vv4_a_5) rfl (by kernel_rfl) (by kernel_rfl) (fun _ _ _ h => h) trivial (Or.inl ⟨rfl, ?yv4_a_5⟩) ?rv4_a_5
      case yv4_a_5 =>
        intro W hW
        go_simp
        try with_reducible rfl
      try simp only [Act.put, List.getElem_toArray, List.getElem_cons_succ, List.getElem_cons_zero, List.setIfInBounds_toArray, List.set_cons_zero, List.set_cons_succ]
      refine wpAnyU_take 6 (v := ?vv4_a_6) rfl (by kernel_rfl) (by kernel_rfl) (fun _ _ _ h => h) trivial (Or.inl ⟨rfl, ?yv4_a_6⟩) ?rv4_a_6
      case yv4_a_6 =>
        intro W hW
        go_simp
        try with_reducible rfl
      try simp only [Act.put, List.getElem_toArray, List.getElem_cons_succ, List.getElem_cons_zero, List.setIfInBounds_toArray, List.set_cons_zero, List.set_cons_succ]
      refine wpAnyU_one 3 (by kernel_rfl) rfl (fun K hK => ?_)
      refine step_callw rfl 31 Try.f31 Try.func31 (by kernel_rfl) (by kernel_rfl) _ _ rfl #[.slice (some ⟨ab, ao, none⟩) q c] (by simp [Act.eval]) ?_
      refine (copyLongs_ok wd (some ⟨ab, ao, none⟩) q c (xs.take q) ⟨hr1.out.gr hgS⟩ (by omega)).mono ?_
      rintro e u13 ⟨A14, c15, rfl, hz16⟩
      have g17 := Gr.trans hgS hz16.gr
      have hm18 := hmS.new hz16
      refine ⟨_, rfl, hK _ _ (fun _ => trivial) ?_⟩
      clear hK K
      try simp only [Act.put, List.getElem_toArray, List.getElem_cons_succ, List.getElem_cons_zero, List.setIfInBounds_toArray, List.set_cons_zero, List.set_cons_succ]
      refine wpAnyU_one 7 (by kernel_rfl) rfl (fun K hK => ?_)
      refine step_callw rfl 31 Try.f31 Try.func31 (by kernel_rfl) (by kernel_rfl) _ _ rfl #[.slice (some ⟨ab, ao + q, none⟩) k (c - q)] (by simp [Act.eval]) ?_
      refine (copyLongs_ok u13 (some ⟨ab, ao + q, none⟩) k (c - q) (xs.drop q) ⟨hr2.out.gr g17⟩ (by omega)).mono ?_
      rintro e u19 ⟨A20, c21, rfl, hz22⟩
      have g23 := Gr.trans g17 hz22.gr
      have hm24 := hm18.new hz22
      refine ⟨_, rfl, hK _ _ (fun _ => trivial) ?_⟩
      clear hK K
      try simp only [Act.put, List.getElem_toArray, List.getElem_cons_succ, List.getElem_cons_zero, List.setIfInBounds_toArray, List.set_cons_zero, List.set_cons_succ]
      refine wpAnyU_one 8 (by kernel_rfl) rfl (fun K hK => ?_)
      go_simp
      refine hK _ _ (fun h => absurd h (by decide)) ?_
      clear hK K
      refine wpAnyU_one 9 (by kernel_rfl) rfl (fun K hK => ?_)
      go_simp
      refine hK _ _ (fun h => absurd h (by decide)) ?_
      clear hK K
      refine wpAnyU_one 10 (by kernel_rfl) rfl (fun K hK => ?_)
      go_simp
      refine hK _ _ (fun h => absurd h (by decide)) ?_
      clear hK K
      refine wpAnyU_done (by kernel_rfl) ?_ _
      go_wp2
      try simp only [Act.put, List.getElem_toArray, List.getElem_cons_succ, List.getElem_cons_zero, List.setIfInBounds_toArray, List.set_cons_succ, List.set_cons_zero]
      go_meet
      case rel => exact ⟨_, _, _, _, rfl, rfl, rfl, hm24⟩
    case rest =>
      obtain ⟨A1, c1, A2, c2, rfl, rfl, rfl, hm⟩ := hcut
      go_wp2
      go_ret3
      exact ⟨A1, c1, A2, c2, rfl, hm⟩
end Go.Proofs.Ytgflfpepfpekhaa
