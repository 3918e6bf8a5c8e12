import Derived.Test.YtgflfpepfpekhaaFrRet
namespace Go.Proofs.Ytgflfpepfpekhaa
open Go.RowKit Go.Mm
set_option maxHeartbeats 1000000
set_option maxRecDepth 100000
theorem data_len {xs ys : List Fr} (h : xs.map Fr.data = ys.map Fr.data) : xs.length = ys.length := by simpa using congrArg List.length h
theorem snoc_of_len {α : Type} {l : List α} {k : Nat} (h : l.length = k + 1) : ∃ l0 x, l = l0 ++ [x] ∧ l0.length = k :=
  ⟨l.take k, l[k], by rw [← List.take_succ_eq_append_getElem, List.take_of_length_le (by omega)], by simp [h]⟩
theorem refReturn_ok (w : World) (N : Nat) (A : Option Addr) (n c : Nat) (xs : List Fr) (hx : Fact (FrsOk N w A n c xs)) (hn : n ≤ 1048577) (hN : N ≤ 1048580) (v : V2) :
    Calls Try.prog 22 #[.slice A n c, .agg (cV v).toArray] w fun e w' => ∃ A' m c' zs, e = .returned (.tuple #[.slice A' m c', .bool (decide (2 ≤ n))]) ∧ Mem w w' (Own 3 (.slice A' m c') (fR zs) :: slots zs) ∧ zs.map Fr.data = retD xs v ∧ ∀ z, z ∈ zs → z.n ≤ N + 1 := by
  obtain ⟨iV, hi, hz0, hz1, hz2⟩ := info_parts inf_V
  have hl := Fact.mk hx.out.len
  obtain ⟨v1, v2⟩ := v
  simp only [cV]
  by_cases h2 : 2 ≤ n
  · obtain ⟨k, rfl⟩ : ∃ k, n = k + 2 := ⟨n - 2, by omega⟩
    have hb2 : Fact (decide (2 ≤ k + 2) = true) := ⟨by simp⟩
    have hrd : Fact (retD xs (v1, v2) = (xs.take k).map Fr.data ++ [retF (xs.getD k fr0).data (v1, v2)]) := ⟨by unfold retD; rw [if_neg (by have := hl.out; omega), hl.out]; rfl⟩
    have htk : Fact (xs.take (k + 1) = xs.take k ++ [xs.getD k fr0]) := ⟨take_snoc _ _ _ (by have := hl.out; omega)⟩
    have hcp : k + 2 ≤ c := by obtain ⟨_, _, _, e, _, h, _⟩ := hx.out.rd; cases e; exact h
    have hcp1 : k + 1 ≤ c := by omega
    have e1 : (((k + 2 : Nat) : Int) - 1) = (k : Int) + 1 := by omega
    have e1b : (k : Int) + 2 - 1 = (k : Int) + 1 := by omega
    have e1c : decide ((k : Int) + 1 < 1) = false := by simp; omega
    rw [hb2.out]
    go_enter Try.func22, Try.ntmps22
    go_upto_region 1 with (fail)
    have hm := ((Mem.start w).alloc (.cells [.int .i64 v1, .int .i64 v2].toArray 41))
    generalize hgX : w.heap.size = g at hm ⊢
    generalize hwX : (w.alloc (.cells [.int .i64 v1, .int .i64 v2].toArray 41)) = w1 at hm
    try refine wp_world hwX ?_
    clear hwX hgX
    go_upto_region 4 with (fail)
    go_wp2_with fail
    refine (copyFrames_ok w1 N A (k + 1) c (xs.take (k + 1)) ⟨(hx.out.pre (k + 1) (by omega)).gr hm.below⟩ (by omega) (by omega)).mono ?_
    rintro e w2 ⟨A', c', ys, rfl, hm2, hyd, hyn⟩
    obtain ⟨ys0, y, rfl, hy0⟩ := snoc_of_len (l := ys) (k := k) (by have := data_len hyd; rw [this, List.length_take]; have := hl.out; omega)
    have hcap := OwnAt.cap (hm2.ok _ m0)
    obtain ⟨gA, oA, rfl⟩ := OwnAt.addr (hm2.ok _ m0) (by omega)
    have hyy : ys0.map Fr.data = (xs.take k).map Fr.data ∧ y.data = (xs.getD k fr0).data := by
      rw [htk.out, List.map_append, List.map_append] at hyd
      have := List.append_inj' hyd rfl
      exact ⟨this.1, by simpa using this.2⟩
    have hyy := Fact.mk hyy
    have hyn := Fact.mk hyn
    have hmj : Mem w w2 (Own 3 (.slice (some ⟨gA, oA, none⟩) (k + 1) c') (fR (ys0 ++ [y])) :: (slots ys0 ++ (slot y :: [Blk g (.cells [.int .i64 v1, .int .i64 v2].toArray 41)]))) := by
      have := hm.join hm2
      rw [slots_app, List.cons_append, List.append_assoc] at this
      exact this
    have hyl : y.sl.length = y.n := rdV_len (hmj.ok (slot y) (by simp)).rd
    have hynN : y.n ≤ N := hyn.out y (by simp)
    obtain ⟨yfn, ypc, yA, yn, yc, ysl⟩ := y
    have hj2 : Fact ((fR (ys0 ++ [⟨yfn, ypc, yA, yn, yc, ysl⟩]))[k * 3 + 2]? = some (.slice yA yn yc)) := ⟨by rw [fR, flatMap_at cR 3 cR_len _ k 2 (by omega), List.getElem?_append_right (by omega), hy0, Nat.sub_self]; rfl⟩
    have hj1 : Fact ((fR (ys0 ++ [⟨yfn, ypc, yA, yn, yc, ysl⟩]))[k * 3 + 1]? = some (.int .i64 ypc)) := ⟨by rw [fR, flatMap_at cR 3 cR_len _ k 1 (by omega), List.getElem?_append_right (by omega), hy0, Nat.sub_self]; rfl⟩
    have hyl := Fact.mk hyl
    dsimp only at hynN
    clear hm hm2 hyd hcap
    go_upto_region 5 with (fail)
    have k1 := hmj.drew.cell (g := g) (t := 41) (fr := (0, 0)) (cs := [.int .i64 v1, .int .i64 v2]) (by simp) 0 rfl
    have k2 := hmj.drew.cell (g := g) (t := 41) (fr := (0, 0)) (cs := [.int .i64 v1, .int .i64 v2]) (by simp) 1 rfl
    have k3 := (hmj.drew.own_cell m0 (k * 3 + 2) hj2.out).1
    rw [← Nat.add_assoc] at k3
    have e2 : IntKind.i64.wrap ((k : Int) + 1 - 1) = (k : Int) := by rw [IntWalk.i64_in _ (by omega)]; omega
    have e3 : IntKind.i64.wrap (k : Int) = (k : Int) := IntWalk.i64_in _ (by omega)
    have e4 : (k : Int) < (k : Int) + 1 := by omega
    have hS : w2.drew.cell? ⟨gA, oA + k * 3 + 2, none⟩ = some (.slice yA yn yc) ∧ w2.drew.cell? ⟨g, 0, none⟩ = some (.int .i64 v1) ∧ w2.drew.cell? ⟨g, 1, none⟩ = some (.int .i64 v2) := ⟨k3, k1, k2⟩
    refine wp_region_until (S := fun W => W.cell? ⟨gA, oA + k * 3 + 2, none⟩ = some (.slice yA yn yc) ∧ W.cell? ⟨g, 0, none⟩ = some (.int .i64 v1) ∧ W.cell? ⟨g, 1, none⟩ = some (.int .i64 v2)) 12 (by kernel_rfl) ?_
    refine wpAnyU_take 0 (v := ?va0) rfl (by kernel_rfl) (by kernel_rfl) (fun _ _ _ h => h) hS (Or.inl ⟨rfl, ?ya0⟩) ?ra0
    case ya0 =>
      intro W hW
      obtain ⟨hW0, hW1, hW2⟩ := hW
      go_simp
      try with_reducible rfl
    try simp only [Act.put, List.setIfInBounds_toArray, List.set_cons_zero, List.set_cons_succ]
    refine wpAnyU_take 1 (v := ?va1) rfl (by kernel_rfl) (by kernel_rfl) (fun _ _ _ h => h) hS (Or.inl ⟨rfl, ?ya1⟩) ?ra1
    case ya1 =>
      intro W hW
      obtain ⟨hW0, hW1, hW2⟩ := hW
      go_simp
      try with_reducible rfl
    try simp only [Act.put, List.setIfInBounds_toArray, List.set_cons_zero, List.set_cons_succ]
    refine wpAnyU_take 2 (v := ?va2) rfl (by kernel_rfl) (by kernel_rfl) (fun _ _ _ h => h) hS (Or.inl ⟨rfl, ?ya2⟩) ?ra2
    case ya2 =>
      intro W hW
      obtain ⟨hW0, hW1, hW2⟩ := hW
      go_simp
      try with_reducible rfl
    try simp only [Act.put, List.setIfInBounds_toArray, List.set_cons_zero, List.set_cons_succ]
    refine wpAnyU_take 3 (v := ?va3) rfl (by kernel_rfl) (by kernel_rfl) (fun _ _ _ h => h) hS (Or.inl ⟨rfl, ?ya3⟩) ?ra3
    case ya3 =>
      intro W hW
      obtain ⟨hW0, hW1, hW2⟩ := hW
      go_simp
      try with_reducible rfl
    try simp only [Act.put, List.setIfInBounds_toArray, List.set_cons_zero, List.set_cons_succ]
    refine wpAnyU_take 4 (v := ?va4) rfl (by kernel_rfl) (by kernel_rfl) (fun _ _ _ h => h) hS (Or.inl ⟨rfl, ?ya4⟩) ?ra4
    case ya4 =>
      intro W hW
      obtain ⟨hW0, hW1, hW2⟩ := hW
      go_simp
      try with_reducible rfl
    try simp only [Act.put, List.setIfInBounds_toArray, List.set_cons_zero, List.set_cons_succ]
    refine wpAnyU_take 5 (v := ?va5) rfl (by kernel_rfl) (by kernel_rfl) (fun _ _ _ h => h) hS (Or.inl ⟨rfl, ?ya5⟩) ?ra5
    case ya5 =>
      intro W hW
      obtain ⟨hW0, hW1, hW2⟩ := hW
      go_simp
      try with_reducible rfl
    try simp only [Act.put, List.setIfInBounds_toArray, List.set_cons_zero, List.set_cons_succ]
    refine wpAnyU_take 6 (v := ?va6) rfl (by kernel_rfl) (by kernel_rfl) (fun _ _ _ h => h) hS (Or.inl ⟨rfl, ?ya6⟩) ?ra6
    case ya6 =>
      intro W hW
      obtain ⟨hW0, hW1, hW2⟩ := hW
      go_simp
      try with_reducible rfl
    try simp only [Act.put, List.setIfInBounds_toArray, List.set_cons_zero, List.set_cons_succ]
    refine wpAnyU_take 7 (v := ?va7) rfl (by kernel_rfl) (by kernel_rfl) (fun _ _ _ h => h) hS (Or.inl ⟨rfl, ?ya7⟩) ?ra7
    case ya7 =>
      intro W hW
      obtain ⟨hW0, hW1, hW2⟩ := hW
      go_simp
      try with_reducible rfl
    try simp only [Act.put, List.setIfInBounds_toArray, List.set_cons_zero, List.set_cons_succ]
    refine wpAnyU_take 8 (v := ?va8) rfl (by kernel_rfl) (by kernel_rfl) (fun _ _ _ h => h) hS (Or.inl ⟨rfl, ?ya8⟩) ?ra8
    case ya8 =>
      intro W hW
      obtain ⟨hW0, hW1, hW2⟩ := hW
      go_simp
      try with_reducible rfl
    try simp only [Act.put, List.setIfInBounds_toArray, List.set_cons_zero, List.set_cons_succ]
    refine wpAnyU_take 9 (v := ?va9) rfl (by kernel_rfl) (by kernel_rfl) (fun _ _ _ h => h) hS (Or.inl ⟨rfl, ?ya9⟩) ?ra9
    case ya9 =>
      intro W hW
      obtain ⟨hW0, hW1, hW2⟩ := hW
      go_simp
      try with_reducible rfl
    try simp only [Act.put, List.setIfInBounds_toArray, List.set_cons_zero, List.set_cons_succ]
    refine wpAnyU_one 10 (by kernel_rfl) rfl (fun K hK => ?_)
    go_simp
    have hm3 := (hmj.alloc (.cells [.int .i64 v1, .int .i64 v2].toArray 41)).drew
    have n1 := hm3.cell (g := g) (t := 41) (fr := (0, 0)) (cs := [.int .i64 v1, .int .i64 v2]) (by simp) 0 rfl
    have n2 := hm3.cell (g := g) (t := 41) (fr := (0, 0)) (cs := [.int .i64 v1, .int .i64 v2]) (by simp) 1 rfl
    have n3 := (hm3.own_cell m1 (k * 3 + 2) hj2.out).1
    rw [← Nat.add_assoc] at n3
    refine hK _ _ (fun _ => ⟨n3, n1, n2⟩) ?_
    clear hK K
    refine wpAnyU_one 11 (by kernel_rfl) rfl (fun K hK => ?_)
    refine step_app rfl _ _ _ rfl 41 iV _ 2 16 ty_Vs hi hz0 hz1 hz2 rfl yA yn yc _ rfl (Mem.mid (A := Blk _ _ :: Own _ _ _ :: slots ys0) hm3) _ 1 1 [.int .i64 v1, .int .i64 v2] rfl ((RdC.lit _ _ _ _ _ rfl (by simp [maxLen]) (cV_one (v1, v2))).gr (Gr.refl _).drew) (by unfold maxLen; omega) (by omega) ?_
    intro B d w5 HM1
    have o1 := HM1.cell (g := g) (t := 41) (fr := (0, 0)) (cs := [.int .i64 v1, .int .i64 v2]) (by simp) 0 rfl
    have o2 := HM1.cell (g := g) (t := 41) (fr := (0, 0)) (cs := [.int .i64 v1, .int .i64 v2]) (by simp) 1 rfl
    obtain ⟨o3, o4⟩ := HM1.own_cell m2 (k * 3 + 2) hj2.out
    rw [← Nat.add_assoc] at o3 o4
    refine hK _ _ (fun _ => ⟨o3, o1, o2⟩) ?_
    clear hK K
    try simp only [Act.put, List.setIfInBounds_toArray, List.set_cons_zero, List.set_cons_succ]
    refine wpAnyU_one 12 (by kernel_rfl) rfl (fun K hK => ?_)
    go_simp
    refine hK _ _ (fun h => absurd h (by decide)) ?_
    clear hK K
    refine wpAnyU_one 13 (by kernel_rfl) rfl (fun K hK => ?_)
    go_simp
    refine hK _ _ (fun h => absurd h (by decide)) ?_
    clear hK K
    refine wpAnyU_one 14 (by kernel_rfl) rfl (fun K hK => ?_)
    go_simp
    refine hK _ _ (fun h => absurd h (by decide)) ?_
    clear hK K
    refine wpAnyU_done (by kernel_rfl) ?_ _
    have hm6 := (HM1.sel 3 [2, 0] (by decide) : Mem w w5 (Own 3 (.slice (some ⟨gA, oA, none⟩) (k + 1) c') _ :: _)).own_set (k * 3 + 2) (by rw [fR_len]; simp; omega) (.slice B (yn + 1) d) rfl
    rw [fR, flatMap_set cR 3 cR_len fr0 _ k 2 ⟨yfn, ypc, B, yn + 1, d, ysl ++ [(v1, v2)]⟩ _ (by simp; omega) (by omega) (by rw [getD_snoc_eq _ _ _ _ hy0.symm]; rfl), List.set_append_right _ _ (by omega), hy0, Nat.sub_self, List.set_cons_zero, ← Nat.add_assoc] at hm6
    clear k1 k2 k3 n1 n2 n3 o1 o2 o3 o4 hS e2 e3 hj2 hj1 hm3 HM1
    generalize w5.setCell _ _ = w6 at hm6 ⊢
    have hj4 : ((ys0 ++ [⟨yfn, ypc, B, yn + 1, d, ysl ++ [(v1, v2)]⟩] : List Fr).flatMap cR)[k * 3 + 1]? = some (.int .i64 ypc) := by rw [flatMap_at cR 3 cR_len _ k 1 (by omega), List.getElem?_append_right (by omega), hy0, Nat.sub_self]; rfl
    obtain ⟨o1, o2⟩ := hm6.own_cell m0 (k * 3 + 1) hj4
    rw [← Nat.add_assoc] at o1 o2
    have hm7 := hm6.own_set (k * 3 + 1) (by rw [flatMap_length cR 3 cR_len]; simp; omega) (.int .i64 (wrap64 (ypc + 1))) rfl
    rw [flatMap_set cR 3 cR_len fr0 _ k 1 ⟨yfn, wrap64 (ypc + 1), B, yn + 1, d, ysl ++ [(v1, v2)]⟩ _ (by simp; omega) (by omega) (by rw [getD_snoc_eq _ _ _ _ hy0.symm]; rfl), List.set_append_right _ _ (by omega), hy0, Nat.sub_self, List.set_cons_zero, ← Nat.add_assoc] at hm7
    have e5 : (k : Int) < (k : Int) + 1 := by omega
    have e6 : (k : Int) + 1 - 1 = (k : Int) := by omega
    clear hm6 hj4
    have fin : ∃ A' m cz zs, Ending.returned (.tuple #[.slice (some ⟨gA, oA, none⟩) (k + 1) c', .bool true]) = .returned (.tuple #[.slice A' m cz, .bool true]) ∧ Mem w (w6.setCell ⟨gA, oA + k * 3 + 1, none⟩ (.int .i64 (wrap64 (ypc + 1)))) (Own 3 (.slice A' m cz) (fR zs) :: slots zs) ∧ zs.map Fr.data = retD xs (v1, v2) ∧ ∀ z, z ∈ zs → z.n ≤ N + 1 := by
      refine ⟨some ⟨gA, oA, none⟩, k + 1, c', ys0 ++ [⟨yfn, wrap64 (ypc + 1), B, yn + 1, d, ysl ++ [(v1, v2)]⟩], rfl, ?_, ?_, fun z hz => ?_⟩
      · rw [slots_app]
        have h3 : Mem w (w6.setCell ⟨gA, oA + k * 3 + 1, none⟩ (.int .i64 (wrap64 (ypc + 1)))) (Own 3 (.slice (some ⟨gA, oA, none⟩) (k + 1) c') (fR (ys0 ++ [⟨yfn, wrap64 (ypc + 1), B, yn + 1, d, ysl ++ [(v1, v2)]⟩])) :: slot ⟨yfn, wrap64 (ypc + 1), B, yn + 1, d, ysl ++ [(v1, v2)]⟩ :: (slots ys0 ++ [Blk g (.cells [.int .i64 v1, .int .i64 v2].toArray 41)])) := by
          have e : fV (ysl ++ [(v1, v2)]) = fV ysl ++ [.int .i64 v1, .int .i64 v2] := by rw [fV_app]; rfl
          unfold slot
          rw [e]
          exact hm7
        exact (h3.perm (.cons _ List.perm_middle.symm)).sub (.cons_cons _ (List.Sublist.append (List.Sublist.refl _) (.cons_cons _ (List.nil_sublist _))))
      · have h1 := hyy.out.1
        have h2 := hyy.out.2
        rw [hrd.out, List.map_append, h1, ← h2]; rfl
      · rcases List.mem_append.1 hz with hz | hz
        · have := hyn.out z (by simp [hz]); omega
        · simp at hz; subst hz; show yn + 1 ≤ N + 1; omega
    have fin := Fact.mk fin
    clear hm7
    go_wp2
    go_ret2
    exact fin.out
  · have hb2 : Fact (decide (2 ≤ n) = false) := ⟨by simpa using h2⟩
    have hrd : Fact (retD xs (v1, v2) = []) := ⟨by unfold retD; rw [if_pos (by have := hl.out; omega)]⟩
    rw [hb2.out]
    have e1 : decide ((n : Int) - 1 < 1) = true := by simp; omega
    go_enter Try.func22, Try.ntmps22
    go_wp2
    go_ret2
    have hm := (Mem.start w).alloc (.cells [.int .i64 v1, .int .i64 v2].toArray 41)
    exact ⟨none, 0, 0, [], rfl, (hm.nil 3 none).sub (.cons_cons _ (List.nil_sublist _)), by rw [hrd.out]; rfl, fun z hz => by cases hz⟩
end Go.Proofs.Ytgflfpepfpekhaa
