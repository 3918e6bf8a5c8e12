/- Lemmas for the row HeapMemoryRow (contracts of functions, laws of memory). Conditions: those that each lemma states. -/
import Derived.Test.YtpibchjkmaghnaaGreatHCa
import Derived.Test.YtpibchjkmaghnaaGreatHCb
import Derived.Test.YtpibchjkmaghnaaGreatHCc
namespace Go.Proofs.YtpibchjkmaghnaaGreat
open Go.RowKit Go.Mm
set_option maxHeartbeats 1000000
set_option maxRecDepth 100000
set_option linter.unusedSimpArgs false
theorem fV_tail (xs : List V2) : (fV xs).drop (1 * 2) = fV xs.tail := by
  cases xs with
  | nil => rfl
  | cons x xs => rfl
theorem refRecv_ok (w0 w : World) (L : List Chunk) (r : Rf) (hm : Mem w0 w (RfC r :: L)) (hok : Fact r.Ok) (hg : Fact r.abs.Good) (K N : Int) :
    Calls Tryz.prog 63 #[.pointer (some ⟨r.g, 0, none⟩), .agg #[.int .i64 K, .int .i64 N]] w fun e w' => e = .returned (.tuple #[.agg #[.int .i64 (recvV r.abs (K, N)).1, .int .i64 (recvV r.abs (K, N)).2], .bool (recvB r.abs (K, N)), .int .i64 (recvT r.abs (K, N))]) ∧ RfQ w0 L r.g (recvS r.abs (K, N)) w' := by
  have his := fun (w1 : World) (L1 : List Chunk) (hm1 : Mem w0 w1 L1) (hh : RfC r ∈ L1) => refIs_ok w0 w1 L1 r hm1 hh hok hg K N 9
  unfold recvV recvB recvT recvS
  cases hob : r.abs.obAt (K, N) 9 with
  | none =>
    rw [hob] at his
    simp only [Option.isSome] at his
    replace his := Fact.mk his
    go_enter Tryz.func63, Tryz.ntmps63
    go_upto_region 1 with (fail)
    have hm1 := ((hm.alloc (.cells [.int .i64 K, .int .i64 N].toArray 35)).alloc (.cells [.int .i64 0, .int .i64 0].toArray 35))
    simp only [World.size_alloc] at hm1
    generalize hgb : w.heap.size = gb at hm1 ⊢
    generalize hw1 : ((w.alloc (.cells [.int .i64 K, .int .i64 N].toArray 35)).alloc (.cells [.int .i64 0, .int .i64 0].toArray 35)) = w1 at hm1
    try refine wp_world hw1 ?_
    clear hw1 hgb
    go_wp2_with (refine wp_rng rfl 35 _ rfl gb 0 rfl (cV (K, N)) (rng_blk hm1 m1) row_V sz_V ?_)
    refine (his.out w1 _ hm1 m2).mono ?_
    rintro e w2 ⟨rfl, hg2⟩
    have hm2 := hm1.gr hg2
    clear hm1 hg2
    go_wp2_with (refine wp_setrow rfl 35 _ _ rfl (gb + 1) rfl 35 _ [.int .i64 0, .int .i64 0] rfl hm2 sz_V rfl (cV_one (0, 0)) ?_; intro w3 hm3)
    exact bodyPost_ret (Mm.res_cell_tmp2 rfl _ (gb + 1) 35 [.int .i64 0, .int .i64 0] (0, 0) rfl hm3 m0 row_V sz_V) rfl ⟨rfl, r, rfl, rfl, hok.out, hm3.tail.tail⟩
  | some i =>
    rw [hob] at his
    simp only [Option.isSome] at his
    replace his := Fact.mk his
    have hkd9 := (Hs.obAt_lt hob).2.2.2
    obtain ⟨hi, hN, hK, hkd⟩ := Hs.obAt_lt hob
    rw [r.abs_len] at hi
    simp only at hN hK
    subst hN
    clear hK hkd
    simp only [r.at_abs hi]
    have hsz := hok.out.each (r.xs.getD i ro0) (by rw [List.getD_eq_getElem?_getD, List.getElem?_eq_getElem hi]; exact List.getElem_mem hi)
    obtain ⟨t, ht⟩ : ∃ t, r.xs.getD i ro0 = t := ⟨_, rfl⟩
    have hto : r.abs.objs.getD i ob0 = t.ob := by rw [r.at_abs hi, ht]
    rw [ht] at hsz ⊢
    replace ht := Fact.mk ht
    replace hto := Fact.mk hto
    by_cases q : t.ob.items = []
    · have hself : r.abs.put i { t.ob with items := t.ob.items.tail } = r.abs := by
        have e : ({ t.ob with items := t.ob.items.tail } : Ob) = t.ob := by rw [q, List.tail_nil, ← q]
        rw [e, ← hto.out]
        exact Hs.put_self _ _
      rw [hself, if_pos q, q]
      have q' : ((t.ob.items.length : Int) == 0) = true := by rw [q]; rfl
      replace q := Fact.mk q
      clear hself
      go_enter Tryz.func63, Tryz.ntmps63
      go_upto_region 1 with (fail)
      have hm1 := ((hm.alloc (.cells [.int .i64 K, .int .i64 (i : Int)].toArray 35)).alloc (.cells [.int .i64 0, .int .i64 0].toArray 35))
      simp only [World.size_alloc] at hm1
      generalize hgb : w.heap.size = gb at hm1 ⊢
      generalize hw1 : ((w.alloc (.cells [.int .i64 K, .int .i64 (i : Int)].toArray 35)).alloc (.cells [.int .i64 0, .int .i64 0].toArray 35)) = w1 at hm1
      try refine wp_world hw1 ?_
      clear hw1 hgb
      go_wp2_with (refine wp_rng rfl 35 _ rfl gb 0 rfl (cV (K, (i : Int))) (rng_blk hm1 m1) row_V sz_V ?_)
      refine (his.out w1 _ hm1 m2).mono ?_
      rintro e w2 ⟨rfl, hg2⟩
      have hm2 := hm1.gr hg2
      clear hm1 hg2
      go_upto_region 3 with (fail)
      obtain ⟨b, o, hA⟩ : ∃ b o, r.A = some ⟨b, o, none⟩ := by
        obtain ⟨_, _, _, hobs⟩ := Rf.read hm2 m2
        obtain ⟨b, o, hA, _⟩ := hobs.at i hi
        exact ⟨b, o, hA⟩
      go_cut [7] (fun s8 W => ∃ (g8 : Nat), s8 = .pointer (some ⟨g8, 0, none⟩) ∧ Mem w0 W (Blk g8 (.cells (cRO t).toArray 41) :: Blk (gb + 1) (.cells [.int .i64 0, .int .i64 0].toArray 35) :: Blk gb (.cells [.int .i64 K, .int .i64 (i : Int)].toArray 35) :: RfC r :: L))
      case first =>
        have hm3 := hm2.drew
        have hS : w2.drew.cell? ⟨r.g, 2, none⟩ = some (.slice (some ⟨b, o, none⟩) r.xs.length r.c) ∧ w2.drew.cell? ⟨gb, 1, none⟩ = some (.int .i64 (i : Int)) ∧ w2.drew.rangeAt b (o + i * 6) (cRO t) := ⟨(Rf.readX hm3 m2 hi ht.out hA).1, hm3.cell m1 1 rfl, (Rf.readX hm3 m2 hi ht.out hA).2.1⟩
        refine wp_region_until (S := fun W => W.cell? ⟨r.g, 2, none⟩ = some (.slice (some ⟨b, o, none⟩) r.xs.length r.c) ∧ W.cell? ⟨gb, 1, none⟩ = some (.int .i64 (i : Int)) ∧ W.rangeAt b (o + i * 6) (cRO t)) 9 (by kernel_rfl) ?_
        generalize w2.drew = w3 at hm3 hS ⊢
        refine wpAnyU_take 0 (v := ?vsa1x0) rfl (by kernel_rfl) (by kernel_rfl) (fun _ _ _ h => h) hS (Or.inl ⟨rfl, ?ysa1x0⟩) ?rsa1x0
        case ysa1x0 =>
          intro W hW
          obtain ⟨hW0, hW1, hW2⟩ := hW
          go_simp
          try with_reducible rfl
        try simp only [Act.put, List.getElem_toArray, List.getElem_cons_succ, List.getElem_cons_zero, List.setIfInBounds_toArray, List.set_cons_zero, List.set_cons_succ]
        refine wpAnyU_take 1 (v := ?vsa1x1) rfl (by kernel_rfl) (by kernel_rfl) (fun _ _ _ h => h) hS (Or.inl ⟨rfl, ?ysa1x1⟩) ?rsa1x1
        case ysa1x1 =>
          intro W hW
          obtain ⟨hW0, hW1, hW2⟩ := hW
          go_simp
          try with_reducible rfl
        try simp only [Act.put, List.getElem_toArray, List.getElem_cons_succ, List.getElem_cons_zero, List.setIfInBounds_toArray, List.set_cons_zero, List.set_cons_succ]
        refine wpAnyU_take 2 (v := ?vsa1x2) rfl (by kernel_rfl) (by kernel_rfl) (fun _ _ _ h => h) hS (Or.inl ⟨rfl, ?ysa1x2⟩) ?rsa1x2
        case ysa1x2 =>
          intro W hW
          obtain ⟨hW0, hW1, hW2⟩ := hW
          go_simp
          try with_reducible rfl
        try simp only [Act.put, List.getElem_toArray, List.getElem_cons_succ, List.getElem_cons_zero, List.setIfInBounds_toArray, List.set_cons_zero, List.set_cons_succ]
        refine wpAnyU_take 3 (v := ?vsa1x3) rfl (by kernel_rfl) (by kernel_rfl) (fun _ _ _ h => h) hS (Or.inl ⟨rfl, ?ysa1x3⟩) ?rsa1x3
        case ysa1x3 =>
          intro W hW
          obtain ⟨hW0, hW1, hW2⟩ := hW
          go_simp
          try with_reducible rfl
        try simp only [Act.put, List.getElem_toArray, List.getElem_cons_succ, List.getElem_cons_zero, List.setIfInBounds_toArray, List.set_cons_zero, List.set_cons_succ]
        refine wpAnyU_take 4 (v := ?vsa1x4) rfl (by kernel_rfl) (by kernel_rfl) (fun _ _ _ h => h) hS (Or.inl ⟨rfl, ?ysa1x4⟩) ?rsa1x4
        case ysa1x4 =>
          intro W hW
          obtain ⟨hW0, hW1, hW2⟩ := hW
          go_simp
          try with_reducible rfl
        try simp only [Act.put, List.getElem_toArray, List.getElem_cons_succ, List.getElem_cons_zero, List.setIfInBounds_toArray, List.set_cons_zero, List.set_cons_succ]
        refine wpAnyU_take 5 (v := ?vsa1x5) rfl (by kernel_rfl) (by kernel_rfl) (fun _ _ _ h => h) hS (Or.inl ⟨rfl, ?ysa1x5⟩) ?rsa1x5
        case ysa1x5 =>
          intro W hW
          obtain ⟨hW0, hW1, hW2⟩ := hW
          go_simp
          try with_reducible rfl
        try simp only [Act.put, List.getElem_toArray, List.getElem_cons_succ, List.getElem_cons_zero, List.setIfInBounds_toArray, List.set_cons_zero, List.set_cons_succ]
        refine wpAnyU_take 6 (v := ?vsa1x6) rfl (by kernel_rfl) (by kernel_rfl) (fun _ _ _ h => h) hS (Or.inl ⟨rfl, ?ysa1x6⟩) ?rsa1x6
        case ysa1x6 =>
          intro W hW
          obtain ⟨hW0, hW1, hW2⟩ := hW
          go_simp
          try with_reducible rfl
        try simp only [Act.put, List.getElem_toArray, List.getElem_cons_succ, List.getElem_cons_zero, List.setIfInBounds_toArray, List.set_cons_zero, List.set_cons_succ]
        refine wpAnyU_take 7 (v := .agg (cRO t).toArray) rfl (by kernel_rfl) (by kernel_rfl) (fun _ _ _ h => h) hS (Or.inl ⟨rfl, ?ysa1xz⟩) ?rsa1xz
        case ysa1xz =>
          intro W hW
          exact run_rng 41 _ rfl b (o + i * 6) rfl (cRO t) hW.2.2 row_O sz_O
        try simp only [Act.put, List.getElem_toArray, List.getElem_cons_succ, List.getElem_cons_zero, List.setIfInBounds_toArray, List.set_cons_zero, List.set_cons_succ]
        refine wpAnyU_one 8 (by kernel_rfl) rfl (fun K hK => ?_)
        go_simp
        have hm4 := hm3.alloc (.cells (obC 0 none 0 0 none 0 0 0 0 false).toArray 41)
        refine hK _ _ (fun _ => ⟨(Rf.readX hm4 m3 hi ht.out hA).1, hm4.cell m2 1 rfl, (Rf.readX hm4 m3 hi ht.out hA).2.1⟩) ?_
        clear hK K
        try simp only [Act.put, List.getElem_toArray, List.getElem_cons_succ, List.getElem_cons_zero, List.setIfInBounds_toArray, List.set_cons_zero, List.set_cons_succ]
        refine wpAnyU_one 9 (by kernel_rfl) rfl (fun K hK => ?_)
        refine step_setrow rfl 41 _ _ rfl _ rfl 41 _ (cRO t) rfl hm4 sz_O rfl (cRO_one t) ?_
        intro w9 hm9
        refine hK _ _ (fun h => absurd h (by decide)) ?_
        clear hK K
        try simp only [Act.put, List.getElem_toArray, List.getElem_cons_succ, List.getElem_cons_zero, List.setIfInBounds_toArray, List.set_cons_zero, List.set_cons_succ]
        refine wpAnyU_done (by kernel_rfl) ?_ _
        go_wp2
        try simp only [Act.put, List.getElem_toArray, List.getElem_cons_succ, List.getElem_cons_zero, List.setIfInBounds_toArray, List.set_cons_succ, List.set_cons_zero]
        go_meet
        case rel => exact ⟨_, rfl, hm9⟩
      case rest =>
        obtain ⟨g8, rfl, hmc⟩ := hcut
        clear hm2 hA
        have s1 := hmc.cell m0 1 rfl
        go_upto_region 5 with (fail)
        clear s1
        have hm3 := hmc.drew
        clear hmc
        have hS : wc.drew.cell? ⟨g8, 5, none⟩ = some (.bool t.ob.shut) := hm3.cell m0 5 rfl
        refine wp_region_until (S := fun W => W.cell? ⟨g8, 5, none⟩ = some (.bool t.ob.shut)) 4 (by kernel_rfl) ?_
        generalize wc.drew = w3 at hm3 hS ⊢
        refine wpAnyU_take 0 (v := ?vsr0) rfl (by kernel_rfl) (by kernel_rfl) (fun _ _ _ h => h) hS (Or.inl ⟨rfl, ?ysr0⟩) ?rsr0
        case ysr0 =>
          intro W hW
          go_simp
          try with_reducible rfl
        try simp only [Act.put, List.getElem_toArray, List.getElem_cons_succ, List.getElem_cons_zero, List.setIfInBounds_toArray, List.set_cons_zero, List.set_cons_succ]
        refine wpAnyU_take 1 (v := ?vsr1) rfl (by kernel_rfl) (by kernel_rfl) (fun _ _ _ h => h) hS (Or.inl ⟨rfl, ?ysr1⟩) ?rsr1
        case ysr1 =>
          intro W hW
          go_simp
          try with_reducible rfl
        try simp only [Act.put, List.getElem_toArray, List.getElem_cons_succ, List.getElem_cons_zero, List.setIfInBounds_toArray, List.set_cons_zero, List.set_cons_succ]
        refine wpAnyU_take 2 (v := ?vsr2) rfl (by kernel_rfl) (by kernel_rfl) (fun _ _ _ h => h) hS (Or.inl ⟨rfl, ?ysr2⟩) ?rsr2
        case ysr2 =>
          intro W hW
          go_simp
          try with_reducible rfl
        try simp only [Act.put, List.getElem_toArray, List.getElem_cons_succ, List.getElem_cons_zero, List.setIfInBounds_toArray, List.set_cons_zero, List.set_cons_succ]
        refine wpAnyU_one 3 (by kernel_rfl) rfl (fun K hK => ?_)
        refine step_setrow rfl 35 _ _ rfl (gb + 1) rfl 35 _ [.int .i64 0, .int .i64 0] rfl hm3.swap sz_V rfl (cV_one (0, 0)) ?_
        intro w4 hm4
        refine hK _ _ (fun _ => hm4.cell m1 5 rfl) ?_
        clear hK K
        try simp only [Act.put, List.getElem_toArray, List.getElem_cons_succ, List.getElem_cons_zero, List.setIfInBounds_toArray, List.set_cons_zero, List.set_cons_succ]
        refine wpAnyU_one 4 (by kernel_rfl) rfl (fun K hK => ?_)
        go_simp
        refine hK _ _ (fun h => absurd h (by decide)) ?_
        clear hK K
        try simp only [Act.put, List.getElem_toArray, List.getElem_cons_succ, List.getElem_cons_zero, List.setIfInBounds_toArray, List.set_cons_zero, List.set_cons_succ]
        refine wpAnyU_one 5 (by kernel_rfl) rfl (fun K hK => ?_)
        go_simp
        refine hK _ _ (fun h => absurd h (by decide)) ?_
        clear hK K
        try simp only [Act.put, List.getElem_toArray, List.getElem_cons_succ, List.getElem_cons_zero, List.setIfInBounds_toArray, List.set_cons_zero, List.set_cons_succ]
        refine wpAnyU_done (by kernel_rfl) ?_ _
        go_wp2
        exact bodyPost_ret (Mm.res_cell_tmp2 rfl _ (gb + 1) 35 [.int .i64 0, .int .i64 0] (0, 0) rfl hm4 m0 row_V sz_V) rfl ⟨rfl, r, rfl, rfl, hok.out, hm4.tail.tail.tail⟩
    · have hl1 : 1 ≤ t.ob.items.length := by cases h : t.ob.items with | nil => exact absurd h q | cons x l => simp
      have q' : decide ((t.ob.items.length : Int) = 0) = false := decide_eq_false (by omega)
      rw [if_neg q]
      obtain ⟨x, hx⟩ : ∃ x, t.ob.items.getD 0 (0, 0) = x := ⟨_, rfl⟩
      obtain ⟨its, hits⟩ : ∃ its, t.ob.items.tail = its := ⟨_, rfl⟩
      have hpl : its.length = t.ob.items.length - 1 := by rw [← hits, List.length_tail]
      rw [hx, hits]
      replace hx := Fact.mk hx
      replace hits := Fact.mk hits
      replace hpl := Fact.mk hpl
      clear q
      go_enter Tryz.func63, Tryz.ntmps63
      go_upto_region 1 with (fail)
      have hm1 := ((hm.alloc (.cells [.int .i64 K, .int .i64 (i : Int)].toArray 35)).alloc (.cells [.int .i64 0, .int .i64 0].toArray 35))
      simp only [World.size_alloc] at hm1
      generalize hgb : w.heap.size = gb at hm1 ⊢
      generalize hw1 : ((w.alloc (.cells [.int .i64 K, .int .i64 (i : Int)].toArray 35)).alloc (.cells [.int .i64 0, .int .i64 0].toArray 35)) = w1 at hm1
      try refine wp_world hw1 ?_
      clear hw1 hgb
      go_wp2_with (refine wp_rng rfl 35 _ rfl gb 0 rfl (cV (K, (i : Int))) (rng_blk hm1 m1) row_V sz_V ?_)
      refine (his.out w1 _ hm1 m2).mono ?_
      rintro e w2 ⟨rfl, hg2⟩
      have hm2 := hm1.gr hg2
      clear hm1 hg2
      go_upto_region 3 with (fail)
      obtain ⟨b, o, hA⟩ : ∃ b o, r.A = some ⟨b, o, none⟩ := by
        obtain ⟨_, _, _, hobs⟩ := Rf.read hm2 m2
        obtain ⟨b, o, hA, _⟩ := hobs.at i hi
        exact ⟨b, o, hA⟩
      go_cut [7] (fun s8 W => ∃ (g8 : Nat), s8 = .pointer (some ⟨g8, 0, none⟩) ∧ Mem w0 W (Blk g8 (.cells (cRO t).toArray 41) :: Blk (gb + 1) (.cells [.int .i64 0, .int .i64 0].toArray 35) :: Blk gb (.cells [.int .i64 K, .int .i64 (i : Int)].toArray 35) :: RfC r :: L))
      case first =>
        have hm3 := hm2.drew
        have hS : w2.drew.cell? ⟨r.g, 2, none⟩ = some (.slice (some ⟨b, o, none⟩) r.xs.length r.c) ∧ w2.drew.cell? ⟨gb, 1, none⟩ = some (.int .i64 (i : Int)) ∧ w2.drew.rangeAt b (o + i * 6) (cRO t) := ⟨(Rf.readX hm3 m2 hi ht.out hA).1, hm3.cell m1 1 rfl, (Rf.readX hm3 m2 hi ht.out hA).2.1⟩
        refine wp_region_until (S := fun W => W.cell? ⟨r.g, 2, none⟩ = some (.slice (some ⟨b, o, none⟩) r.xs.length r.c) ∧ W.cell? ⟨gb, 1, none⟩ = some (.int .i64 (i : Int)) ∧ W.rangeAt b (o + i * 6) (cRO t)) 9 (by kernel_rfl) ?_
        generalize w2.drew = w3 at hm3 hS ⊢
        refine wpAnyU_take 0 (v := ?vsa2x0) rfl (by kernel_rfl) (by kernel_rfl) (fun _ _ _ h => h) hS (Or.inl ⟨rfl, ?ysa2x0⟩) ?rsa2x0
        case ysa2x0 =>
          intro W hW
          obtain ⟨hW0, hW1, hW2⟩ := hW
          go_simp
          try with_reducible rfl
        try simp only [Act.put, List.getElem_toArray, List.getElem_cons_succ, List.getElem_cons_zero, List.setIfInBounds_toArray, List.set_cons_zero, List.set_cons_succ]
        refine wpAnyU_take 1 (v := ?vsa2x1) rfl (by kernel_rfl) (by kernel_rfl) (fun _ _ _ h => h) hS (Or.inl ⟨rfl, ?ysa2x1⟩) ?rsa2x1
        case ysa2x1 =>
          intro W hW
          obtain ⟨hW0, hW1, hW2⟩ := hW
          go_simp
          try with_reducible rfl
        try simp only [Act.put, List.getElem_toArray, List.getElem_cons_succ, List.getElem_cons_zero, List.setIfInBounds_toArray, List.set_cons_zero, List.set_cons_succ]
        refine wpAnyU_take 2 (v := ?vsa2x2) rfl (by kernel_rfl) (by kernel_rfl) (fun _ _ _ h => h) hS (Or.inl ⟨rfl, ?ysa2x2⟩) ?rsa2x2
        case ysa2x2 =>
          intro W hW
          obtain ⟨hW0, hW1, hW2⟩ := hW
          go_simp
          try with_reducible rfl
        try simp only [Act.put, List.getElem_toArray, List.getElem_cons_succ, List.getElem_cons_zero, List.setIfInBounds_toArray, List.set_cons_zero, List.set_cons_succ]
        refine wpAnyU_take 3 (v := ?vsa2x3) rfl (by kernel_rfl) (by kernel_rfl) (fun _ _ _ h => h) hS (Or.inl ⟨rfl, ?ysa2x3⟩) ?rsa2x3
        case ysa2x3 =>
          intro W hW
          obtain ⟨hW0, hW1, hW2⟩ := hW
          go_simp
          try with_reducible rfl
        try simp only [Act.put, List.getElem_toArray, List.getElem_cons_succ, List.getElem_cons_zero, List.setIfInBounds_toArray, List.set_cons_zero, List.set_cons_succ]
        refine wpAnyU_take 4 (v := ?vsa2x4) rfl (by kernel_rfl) (by kernel_rfl) (fun _ _ _ h => h) hS (Or.inl ⟨rfl, ?ysa2x4⟩) ?rsa2x4
        case ysa2x4 =>
          intro W hW
          obtain ⟨hW0, hW1, hW2⟩ := hW
          go_simp
          try with_reducible rfl
        try simp only [Act.put, List.getElem_toArray, List.getElem_cons_succ, List.getElem_cons_zero, List.setIfInBounds_toArray, List.set_cons_zero, List.set_cons_succ]
        refine wpAnyU_take 5 (v := ?vsa2x5) rfl (by kernel_rfl) (by kernel_rfl) (fun _ _ _ h => h) hS (Or.inl ⟨rfl, ?ysa2x5⟩) ?rsa2x5
        case ysa2x5 =>
          intro W hW
          obtain ⟨hW0, hW1, hW2⟩ := hW
          go_simp
          try with_reducible rfl
        try simp only [Act.put, List.getElem_toArray, List.getElem_cons_succ, List.getElem_cons_zero, List.setIfInBounds_toArray, List.set_cons_zero, List.set_cons_succ]
        refine wpAnyU_take 6 (v := ?vsa2x6) rfl (by kernel_rfl) (by kernel_rfl) (fun _ _ _ h => h) hS (Or.inl ⟨rfl, ?ysa2x6⟩) ?rsa2x6
        case ysa2x6 =>
          intro W hW
          obtain ⟨hW0, hW1, hW2⟩ := hW
          go_simp
          try with_reducible rfl
        try simp only [Act.put, List.getElem_toArray, List.getElem_cons_succ, List.getElem_cons_zero, List.setIfInBounds_toArray, List.set_cons_zero, List.set_cons_succ]
        refine wpAnyU_take 7 (v := .agg (cRO t).toArray) rfl (by kernel_rfl) (by kernel_rfl) (fun _ _ _ h => h) hS (Or.inl ⟨rfl, ?ysa2xz⟩) ?rsa2xz
        case ysa2xz =>
          intro W hW
          exact run_rng 41 _ rfl b (o + i * 6) rfl (cRO t) hW.2.2 row_O sz_O
        try simp only [Act.put, List.getElem_toArray, List.getElem_cons_succ, List.getElem_cons_zero, List.setIfInBounds_toArray, List.set_cons_zero, List.set_cons_succ]
        refine wpAnyU_one 8 (by kernel_rfl) rfl (fun K hK => ?_)
        go_simp
        have hm4 := hm3.alloc (.cells (obC 0 none 0 0 none 0 0 0 0 false).toArray 41)
        refine hK _ _ (fun _ => ⟨(Rf.readX hm4 m3 hi ht.out hA).1, hm4.cell m2 1 rfl, (Rf.readX hm4 m3 hi ht.out hA).2.1⟩) ?_
        clear hK K
        try simp only [Act.put, List.getElem_toArray, List.getElem_cons_succ, List.getElem_cons_zero, List.setIfInBounds_toArray, List.set_cons_zero, List.set_cons_succ]
        refine wpAnyU_one 9 (by kernel_rfl) rfl (fun K hK => ?_)
        refine step_setrow rfl 41 _ _ rfl _ rfl 41 _ (cRO t) rfl hm4 sz_O rfl (cRO_one t) ?_
        intro w9 hm9
        refine hK _ _ (fun h => absurd h (by decide)) ?_
        clear hK K
        try simp only [Act.put, List.getElem_toArray, List.getElem_cons_succ, List.getElem_cons_zero, List.setIfInBounds_toArray, List.set_cons_zero, List.set_cons_succ]
        refine wpAnyU_done (by kernel_rfl) ?_ _
        go_wp2
        try simp only [Act.put, List.getElem_toArray, List.getElem_cons_succ, List.getElem_cons_zero, List.setIfInBounds_toArray, List.set_cons_succ, List.set_cons_zero]
        go_meet
        case rel => exact ⟨_, rfl, hm9⟩
      case rest =>
        obtain ⟨g8, rfl, hmc⟩ := hcut
        clear hm2 hA
        have s1 := hmc.cell m0 1 rfl
        obtain ⟨b0, o0, hA0⟩ : ∃ b o, r.A = some ⟨b, o, none⟩ := by
          obtain ⟨_, _, _, hobs⟩ := Rf.read hmc m3
          obtain ⟨b, o, hA, _⟩ := hobs.at i hi
          exact ⟨b, o, hA⟩
        have hrd := (Rf.readX hmc m3 hi ht.out hA0).2.2.1
        have hcp : t.ob.items.length ≤ t.c ∧ t.c ≤ maxLen := by obtain ⟨_, _, _, e, _, h2, h3, _⟩ := hrd; cases e; exact ⟨h2, h3⟩
        obtain ⟨b2, o2, hA2, g1, g2, _, _⟩ := rdV_at hrd 0 (by omega)
        rw [hx.out] at g1 g2
        simp only [Nat.zero_mul, Nat.add_zero] at g1 g2
        rw [hA2] at hrd
        obtain ⟨A2, hrun, hrd2⟩ := slice_behind (P := Tryz.prog) 36 35 2 ty_Vs sz_V b2 o2 t.ob.items.length t.c 1 hl1 hcp.1
        replace hrun : ∀ W, (Instr.slice 36 (.slice (some ⟨b2, o2, none⟩) t.ob.items.length t.c) (some (.int .i64 1)) none none).run Tryz.prog W = .ok (.slice A2 (t.ob.items.length - 1) (t.c - 1)) W := hrun
        rw [hA2] at s1
        replace hrd2 := Fact.mk hrd2
        replace hA0 := Fact.mk hA0
        replace hA2 := Fact.mk hA2
        clear hrd
        go_upto_region 7 with (first | (refine wp_rng rfl 35 _ rfl b2 o2 rfl (cV x) (rng2 g1 g2) row_V sz_V ?_) | (refine wp_setrow rfl 35 _ _ rfl wc.heap.size rfl 35 _ (cV x) rfl (hmc.alloc _) sz_V rfl (cV_one x) ?_; intro w5 hm5))
        generalize wc.heap.size = g9 at hm5 ⊢
        clear hmc s1 g1 g2
        have hrd5 := hrd2.out _ _ (by have h := (Rf.readX hm5 m4 hi ht.out hA0.out).2.2.1; rw [hA2.out] at h; exact h)
        rw [fV_tail, hits.out] at hrd5
        have s1 := hm5.cell m1 1 rfl
        rw [hA2.out] at s1
        go_wp2_with fail
        refine (copyValues_ok w5 A2 (t.ob.items.length - 1) (t.c - 1) its ⟨hrd5⟩ (by omega)).mono ?_
        rintro e w6 ⟨A6, c6, rfl, hn6⟩
        have hm6 := hm5.new hn6
        clear hm5 s1 hrd5 hn6
        go_upto_region 8 with (refine wp_setat rfl 36 _ _ rfl g8 1 rfl 41 _ [.slice A6 (t.ob.items.length - 1) c6] (obC t.ob.kind A6 (t.ob.items.length - 1) c6 t.KA t.ob.keys.length t.kc t.ob.fn t.ob.cap t.ob.shut) (.slice A6 (t.ob.items.length - 1) c6) rfl rfl hm6.pull2 sz_Vs (by simp [cRO, obC]) (one_one rfl) rfl ?_; intro w7 hm7)
        have hm7' : Mem w0 w7 (RfC r :: Own 2 (.slice A6 its.length c6) (fV its) :: Blk g9 (.cells (cV x).toArray 35) :: Blk g8 (.cells (cRO (t.its A6 c6 its)).toArray 41) :: Blk (gb + 1) (.cells [.int .i64 0, .int .i64 0].toArray 35) :: Blk gb (.cells [.int .i64 K, .int .i64 (i : Int)].toArray 35) :: L) := by
          rw [show cRO (t.its A6 c6 its) = obC t.ob.kind A6 (t.ob.items.length - 1) c6 t.KA t.ob.keys.length t.kc t.ob.fn t.ob.cap t.ob.shut by rw [← hpl.out]; rfl, hpl.out]
          exact (hm7.back2).pull5
        clear hm7 hm6
        go_upto_region 8 with (fail)
        have hm8 := Rf.opn (hm7'.drew) i hi
        clear hm7'
        obtain ⟨b8, o8, hA8⟩ := OwnAt.addr (hm8.ok _ m1) (by have := OwnAt.cap (hm8.ok _ m1); omega)
        have c2 := hm8.cell m0 2 rfl
        rw [hA8] at c2
        have d1 := hm8.cell (.tail _ (.tail _ (.tail _ (List.mem_append_right _ (.tail _ (.tail _ (.tail _ (.tail _ (.head _))))))))) 1 rfl
        have ry := rng_blk hm8 (.tail _ (.tail _ (.tail _ (List.mem_append_right _ (.tail _ (.tail _ (.head _)))))))
        refine wp_region_still_tail 7 (by kernel_rfl) (by kernel_rfl) ?_
        simp only [List.take_succ_cons, List.take_zero, List.drop_succ_cons, List.drop_zero]
        repeat (first | still_step | (refine still_rng rfl 41 _ rfl g8 0 rfl (cRO (t.its A6 c6 its)) ry row_O sz_O ?_))
        refine wpStill_nil ?_
        have hm9 := hm8.swap
        rw [hA8] at hm9
        clear hm8 c2 d1 ry
        have hfs := flat_set r.xs i hi (t.its A6 c6 its) 0 (cRO (t.its A6 c6 its)) (by rw [cRO_len]; omega) (by rw [cRO_len]; simp [cRO, obC])
        replace hfs := Fact.mk hfs
        go_upto_region 9 with (refine wp_ownat rfl 41 _ _ rfl (o8 + i * 6) (i * 6 + 0) (by omega) rfl (cRO (t.its A6 c6 its)) _ rfl rfl hm9 sz_O (by rw [flat_len, cRO_len]; omega) (cRO_one (t.its A6 c6 its)) ?_; intro w9 hm10)
        rw [← hA8] at hm10
        rw [ht.out] at hm10
        have hz := Rf.put_its i hi t A6 c6 its _ hfs.out hm10
        go_wp2_with (first | (refine wp_rng rfl 35 _ rfl g9 0 rfl (cV x) (rng_blk hz m1) row_V sz_V ?_) | (refine wp_setrow rfl 35 _ _ rfl (gb + 1) rfl 35 _ (cV x) rfl hz.pull3 sz_V rfl (cV_one x) ?_; intro w11 hm11))
        exact bodyPost_ret (Mm.res_cell_tmp2 rfl _ (gb + 1) 35 (cV x) (0, 0) rfl hm11 m0 row_V sz_V) rfl ⟨rfl, r.upd i (t.its A6 c6 its), rfl, by rw [Rf.upd_abs]; rfl, Rf.upd_ok hok.out i _ (by show its.length ≤ _ ∧ t.ob.keys.length ≤ _; rw [hpl.out]; omega), (hm11.tail.drop2.drop2.drop2)⟩
end Go.Proofs.YtpibchjkmaghnaaGreat
namespace Go.Proofs.YtpibchjkmaghnaaGreat
open Go.RowKit Go.Mm
set_option maxHeartbeats 2000000
set_option maxRecDepth 100000
theorem zero_I (w : World) : (zeroValue 2).run Tryz.prog w = .ok (.int .i64 0) w := by kernel_rfl
theorem delN_ok (w0 w : World) (L : List Chunk) (A : Option Addr) (n c : Nat) (cs : List Value) (hm : Mem w0 w (Own 1 (.slice A n c) cs :: L)) (i : Nat) (hi : i < n) (hn : n ≤ 1048576) (I J : Int) (hI : I = i) (hJ : J = i + 1) :
    Calls Tryz.prog 95 #[.slice A n c, .int .i64 I, .int .i64 J] w fun e w' => e = .returned (.slice A (n - 1) c) ∧ Mem w0 w' (Own 1 (.slice A (n - 1) c) (cs.take i ++ cs.drop (i + 1)) :: L) := by
  subst hI hJ
  obtain ⟨iV, hi0, hz0, hz1, hz2⟩ := info_parts inf_I
  obtain ⟨p, rfl⟩ : ∃ p, n = p + 1 := ⟨n - 1, by omega⟩
  have hcap := OwnAt.cap (hm.ok _ m0)
  have hlen := OwnAt.len (hm.ok _ m0)
  obtain ⟨g, o, rfl⟩ := OwnAt.addr (hm.ok _ m0) (by omega)
  have hr := hm.rd m0
  have hne : decide ((i : Int) = (i : Int) + 1) = false := decide_eq_false (by omega)
  have e3 : i + (p - i) = p := by omega
  have hlt : ¬ ((p : Int) + 1 < p) := by omega
  go_enter Tryz.func95, Tryz.ntmps95
  by_cases hci : c = i + 1
  · obtain rfl : i = p := by omega
    obtain rfl : c = i + 1 := by omega
    go_upto_region 5 with (fail)
    have q1 : ((i : Int) ≤ (i : Int) + 1) = True := eq_true (by omega)
    have q2 : ((0 : Int) ≤ (i : Int) + 1) = True := eq_true (by omega)
    go_still_tail 6, (by kernel_rfl)
    have hm1 := hm.drew
    go_wp2_with (first | (at_builtin; refine wp_app_in rfl _ _ _ rfl 2 iV ty_Is hi0 hz1 i rfl hm1 _ _ _ _ rfl (RdC.empty _ _ _ _ (by unfold maxLen; omega)) (by omega) ?_; intro w2 hm2) | (refine wp_clear_in (size := 1) rfl _ _ rfl 2 _ ty_Is zero_I rfl (one_one rfl) i _ _ _ rfl hm2 (by omega) (by omega) (by omega) ?_; intro w3 Z hm3))
    go_ret
    refine ⟨rfl, ?_⟩
    have hm4 := hm3.recut i (i + 1) (by omega) (by omega) (Nat.le_refl _)
    have e : List.take (i * 1) (List.take (i * 1) (List.take (i * 1) cs ++ [] ++ List.drop (i * 1 + ([] : List Value).length) cs) ++ Z) = List.take (i * 1) cs ++ List.drop (i * 1 + 1) cs := by
      rw [List.drop_eq_nil_of_le (show cs.length ≤ i * 1 + 1 by omega), List.append_nil, List.take_append_of_le_length (by simp; omega), List.take_append_of_le_length (by simp; omega)]
      simp only [List.take_take, Nat.min_self]
    rw [e] at hm4
    simp only [Nat.mul_one] at hm4
    exact hm4
  · have hr2 := hr.behind (i + 1) (by omega)
    rw [Nat.add_sub_add_right] at hr2
    simp only [Nat.mul_one] at hr2
    go_upto_region 5 with (fail)
    have q1 : ((i : Int) ≤ (c : Int)) = True := eq_true (by omega)
    have q2 : ((0 : Int) ≤ (i : Int) + 1) = True := eq_true (by omega)
    have q3 : ((i : Int) ≤ (p : Int)) = True := eq_true (by omega)
    have q4 : ((p : Int) + 1 ≤ (c : Int)) = True := eq_true (by omega)
    have q5 : ((i : Int) + 1 ≤ (c : Int)) = True := eq_true (by omega)
    have q6 : ((i : Int) + 1 ≤ (p : Int) + 1) = True := eq_true (by omega)
    go_still_tail 6, (by kernel_rfl)
    have hm1 := hm.drew
    replace hr2 := hr2.gr (Gr.refl w).drew
    clear hr
    go_wp2_with (first | (at_builtin; refine wp_app_in rfl _ _ _ rfl 2 iV ty_Is hi0 hz1 i rfl hm1 _ _ _ _ rfl hr2 (by omega) ?_; intro w2 hm2; rw [e3]) | (refine wp_clear_in (size := 1) rfl _ _ rfl 2 _ ty_Is zero_I rfl (one_one rfl) p _ _ _ rfl hm2 (by omega) (by omega) (by omega) ?_; intro w3 Z hm3))
    go_ret
    refine ⟨rfl, ?_⟩
    have hm4 := hm3.recut p c (by omega) (by omega) (Nat.le_refl _)
    have hl2 : (List.drop (i + 1) cs).length = (p - i) * 1 := by rw [List.length_drop]; omega
    have e : List.take (p * 1) (List.take (p * 1) (List.take (i * 1) cs ++ List.drop (i + 1) cs ++ List.drop (i * 1 + (List.drop (i + 1) cs).length) cs) ++ Z) = List.take (i * 1) cs ++ List.drop (i * 1 + 1) cs := by
      have h1 : (List.take (i * 1) cs ++ List.drop (i + 1) cs).length = p * 1 := by rw [List.length_append, hl2, List.length_take]; omega
      rw [show List.take (p * 1) (List.take (i * 1) cs ++ List.drop (i + 1) cs ++ List.drop (i * 1 + (List.drop (i + 1) cs).length) cs) = List.take (i * 1) cs ++ List.drop (i + 1) cs from List.take_left' h1, List.take_left' h1, Nat.mul_one]
    rw [e] at hm4
    simp only [Nat.mul_one] at hm4
    exact hm4
end Go.Proofs.YtpibchjkmaghnaaGreat
namespace Go.Proofs.YtpibchjkmaghnaaGreat
open Go.RowKit Go.Mm
set_option maxHeartbeats 4000000
set_option maxRecDepth 100000
set_option linter.unusedSimpArgs false
/-! ### places of keys, one key struck out -/
theorem idx_some {ks : List Int} (hn : ks.Nodup) {k : Int} {j : Nat} : ks.idxOf? k = some j ↔ ks[j]? = some k := by
  rw [List.idxOf?, List.findIdx?_eq_some_iff_getElem]
  constructor
  · rintro ⟨h, h1, _⟩
    rw [List.getElem?_eq_getElem h]
    simpa using h1
  · intro h
    obtain ⟨hj, e⟩ := List.getElem?_eq_some_iff.1 h
    refine ⟨hj, by simpa using e, fun i hi => ?_⟩
    simp only [beq_iff_eq]
    intro e2
    have := (List.getElem_inj hn).1 (e2.trans e.symm)
    omega
theorem idx_none {ks : List Int} {k : Int} : ks.idxOf? k = none ↔ k ∉ ks := by
  rw [List.idxOf?, List.findIdx?_eq_none_iff]
  constructor
  · intro h hk
    have := h k hk
    simp at this
  · intro h x hx
    simp only [beq_eq_false_iff_ne, ne_eq]
    rintro rfl
    exact h hx
/-- A map of places is right up to place k, and holds just these keys. -/
structure UpTo (ks : List Int) (k : Nat) (f : Int → Option Nat) : Prop where
  done : ∀ i, i < k → ∀ q, ks[i]? = some q → f q = some i
  held : ∀ q, q ∈ ks → (f q).isSome = true
  none : ∀ q, q ∉ ks → f q = none
theorem UpTo.start {ks : List Int} (hn : ks.Nodup) {key : Int} {j : Nat} (hj : ks.idxOf? key = some j) : UpTo (ks.take j ++ ks.drop (j + 1)) j (delF (fun k => ks.idxOf? k) key) := by
  have hk := (idx_some hn).1 hj
  obtain ⟨hjl, hke⟩ := List.getElem?_eq_some_iff.1 hk
  have hmem : ∀ q, q ∈ ks.take j ++ ks.drop (j + 1) ↔ q ∈ ks ∧ q ≠ key := by
    intro q
    have e : ks = ks.take j ++ key :: ks.drop (j + 1) := by
      conv => lhs; rw [← List.take_append_drop j ks, List.drop_eq_getElem_cons hjl, hke]
    have hn2 := hn
    rw [e, List.nodup_append] at hn2
    obtain ⟨n1, n2, n3⟩ := hn2
    have n4 := List.nodup_cons.1 n2
    constructor
    · intro h
      refine ⟨by rw [e]; rcases List.mem_append.1 h with h | h; exact List.mem_append_left _ h; exact List.mem_append_right _ (.tail _ h), ?_⟩
      rintro rfl
      rcases List.mem_append.1 h with h | h
      · exact n3 _ h _ (.head _) rfl
      · exact n4.1 h
    · rintro ⟨h, h2⟩
      rw [e] at h
      rcases List.mem_append.1 h with h | h
      · exact List.mem_append_left _ h
      · rcases List.mem_cons.1 h with h | h
        · exact absurd h h2
        · exact List.mem_append_right _ h
  refine ⟨fun i hi q hq => ?_, fun q hq => ?_, fun q hq => ?_⟩
  · rw [List.getElem?_append_left (by rw [List.length_take]; omega), List.getElem?_take_of_lt hi] at hq
    have h1 : q ≠ key := by
      rintro rfl
      have := (List.getElem?_inj (by omega) hn).1 (hq.trans hk.symm)
      omega
    unfold delF
    rw [if_neg h1]
    exact (idx_some hn).2 hq
  · obtain ⟨h1, h2⟩ := (hmem q).1 hq
    unfold delF
    rw [if_neg h2]
    show (ks.idxOf? q).isSome = true
    cases h : ks.idxOf? q with
    | none => exact absurd h1 (idx_none.1 h)
    | some _ => rfl
  · unfold delF
    by_cases h2 : q = key
    · rw [if_pos h2]
    · rw [if_neg h2]
      exact idx_none.2 fun h1 => hq ((hmem q).2 ⟨h1, h2⟩)
theorem UpTo.step {ks : List Int} (hn : ks.Nodup) {k : Nat} {f : Int → Option Nat} (h : UpTo ks k f) {q : Int} (hq : ks[k]? = some q) : UpTo ks (k + 1) (updF f q k) := by
  have hm := List.mem_of_getElem? hq
  refine ⟨fun i hi x hx => ?_, fun x hx => ?_, fun x hx => ?_⟩
  · unfold updF
    by_cases e : x = q
    · subst e
      rw [if_pos rfl]
      obtain ⟨hk, _⟩ := List.getElem?_eq_some_iff.1 hq
      rw [(List.getElem?_inj hk hn).1 (hq.trans hx.symm)]
    · rw [if_neg e]
      refine h.done i ?_ x hx
      rcases Nat.lt_succ_iff_lt_or_eq.1 hi with h1 | h1
      · exact h1
      · subst h1; rw [hq] at hx; exact absurd (Option.some.inj hx).symm e
  · unfold updF
    split
    · rfl
    · exact h.held x hx
  · unfold updF
    rw [if_neg (fun e => hx (by rw [e]; exact hm))]
    exact h.none x hx
theorem UpTo.all {ks : List Int} (hn : ks.Nodup) {f : Int → Option Nat} (h : UpTo ks ks.length f) (q : Int) : f q = ks.idxOf? q := by
  by_cases hq : q ∈ ks
  · obtain ⟨i, hi⟩ := List.mem_iff_getElem?.1 hq
    obtain ⟨hil, _⟩ := List.getElem?_eq_some_iff.1 hi
    rw [h.done i hil q hi, (idx_some hn).2 hi]
  · rw [h.none q hq, idx_none.2 hq]
def dropK (ks : List Int) (j : Nat) : List Int := ks.take j ++ ks.drop (j + 1)
def dropV (xs : List V2) (j : Nat) : List V2 := xs.take j ++ xs.drop (j + 1)
theorem dropK_len {ks : List Int} {j : Nat} (h : j < ks.length) : (dropK ks j).length = ks.length - 1 := by unfold dropK; rw [List.length_append, List.length_take, List.length_drop]; omega
theorem dropV_len {xs : List V2} {j : Nat} (h : j < xs.length) : (dropV xs j).length = xs.length - 1 := by unfold dropV; rw [List.length_append, List.length_take, List.length_drop]; omega
theorem nums_cut (ks : List Int) (j : Nat) : (nums .i64 ks).take j ++ (nums .i64 ks).drop (j + 1) = nums .i64 (dropK ks j) := by simp [nums, dropK, List.map_take, List.map_drop]
theorem fV_cut (xs : List V2) (j : Nat) : (fV xs).take (j * 2) ++ (fV xs).drop (j * 2 + 2) = fV (dropV xs j) := by
  have e1 : (fV xs).take (j * 2) = fV (xs.take j) := (flatMap_take cV 2 cV_len xs j).symm
  have e2 : (fV xs).drop (j * 2 + 2) = fV (xs.drop (j + 1)) := by
    rw [show j * 2 + 2 = (j + 1) * 2 by omega]
    exact (flatMap_drop cV 2 cV_len xs (j + 1)).symm
  rw [e1, e2, dropV, fV_app]
theorem dropK_nodup {ks : List Int} (h : ks.Nodup) (j : Nat) : (dropK ks j).Nodup := by
  have hs : (dropK ks j).Sublist ks := by
    unfold dropK
    conv => rhs; rw [← List.take_append_drop j ks]
    exact List.Sublist.append (List.Sublist.refl _) (by rw [← List.drop_drop]; exact List.drop_sublist 1 _)
  exact h.sublist hs
theorem dropK_mem {ks : List Int} {j : Nat} {k : Int} (h : k ∈ dropK ks j) : k ∈ ks := by
  rcases List.mem_append.1 h with h | h
  · exact List.mem_of_mem_take h
  · exact List.mem_of_mem_drop h
theorem deleteYes_ok (w0 w : World) (L : List Chunk) (h : Hp) (hm : Mem w0 w (HpC h :: L)) (hok : Fact h.Ok) (K N key : Int) (hw : Fact ((Lit.int .i64 key).wf = true)) (i : Nat) (hn : nm h.objs (K, N) = some i) (t : Th) (ht : Fact (h.ths.getD i th0 = t)) (hk : Fact (t.ob.kind = 7)) (j : Nat) (hj : Fact (t.ob.keys.idxOf? key = some j)) :
    Calls Tryz.prog 89 #[.pointer (some ⟨h.g, 0, none⟩), .agg #[.int .i64 K, .int .i64 N], .int .i64 key] w fun e w' => e = .returned (.int .i64 0) ∧ ∃ t' : Th, t'.ob = { t.ob with items := dropV t.ob.items j, keys := dropK t.ob.keys j } ∧ t'.Ok ∧ Mem w0 w' (HpC (h.upd i t') :: L) := by
  have hil := (nm_in hn).1
  have has := Fact.mk (asK_yes hn ht.out 7 hk.out)
  have htk := th_at hok.out hil ht.out
  have hkl := htk.keys hk.out
  have hsz := htk.size
  have hjl := idx_lt hj.out
  have hlk := Fact.mk (dropK_len hjl)
  have hlv := Fact.mk (dropV_len (xs := t.ob.items) (j := j) (by omega))
  have hnd := Fact.mk (dropK_nodup htk.nodup j)
  have hst := Fact.mk (UpTo.start htk.nodup hj.out)
  have hwf : Fact (∀ k, k ∈ dropK t.ob.keys j → (Lit.int .i64 k).wf = true) := ⟨fun k hk => htk.wf k (dropK_mem hk)⟩
  have hfin : Fact (∀ W A c KA kc mp, Mem w0 W (recCh t.g A (t.ob.items.length - 1) c KA (t.ob.keys.length - 1) kc mp (dropV t.ob.items j) (dropK t.ob.keys j) ++ (h.rest i ++ L)) → ∃ t' : Th, t'.ob = { t.ob with items := dropV t.ob.items j, keys := dropK t.ob.keys j } ∧ t'.Ok ∧ Mem w0 W (HpC (h.upd i t') :: L)) := ⟨fun W A c KA kc mp hW => ⟨_, rfl, fields_ok htk hk.out A _ c KA _ kc mp _ _ (by rw [hlv.out]; omega) (by rw [hlv.out, hlk.out]; omega) hnd.out hwf.out, Hp.clsR i hil t ht.out hk.out _ _ _ _ _ _ _ _ _ hW⟩⟩
  have hjv : j < t.ob.items.length := by omega
  have hkb : t.ob.keys.length ≤ 1048576 := by omega
  replace hkl := Fact.mk hkl
  clear hn
  go_enter Tryz.func89, Tryz.ntmps89
  go_upto_region 1 with (fail)
  have hm1 := hm.alloc (.cells [.int .i64 K, .int .i64 N].toArray 35)
  generalize hgb : w.heap.size = gb at hm1 ⊢
  generalize hw1 : w.alloc (.cells [.int .i64 K, .int .i64 N].toArray 35) = w1 at hm1
  try refine wp_world hw1 ?_
  clear hw1 hgb
  go_wp2_with (refine wp_rng rfl 35 _ rfl gb 0 rfl (cV (K, N)) (rng_blk hm1 m0) row_V sz_V ?_)
  refine (record_at w0 w1 _ h hm1 m1 hok K N).mono ?_
  rintro e w2 ⟨rfl, hg2⟩
  rw [has.out]
  simp only [trapK]
  have hm2 := (hm1.gr hg2).swap
  obtain ⟨c0, _, c2, _, _, hM, en, ekn⟩ := Hp.readR hm2 i hil t ht.out hk.out
  have hlook := mapOk_look hM key hw.out
  rw [hj.out] at hlook
  simp only [Option.isSome_some, Option.getD_some] at hlook
  obtain ⟨b, hb⟩ : ∃ b, t.mp = some b := by
    cases hmp : t.mp with
    | none =>
      rw [hmp] at hM
      have hM : t.ob.keys = [] := hM
      rw [hM] at hjl
      cases hjl
    | some b => exact ⟨b, rfl⟩
  have hm3 := Hp.opnR hm2 i hil t ht.out hk.out
  rw [en, ekn, hb] at hm3
  rw [hb] at c2 hlook
  obtain ⟨R, hR⟩ : ∃ R, R = h.rest i ++ (Blk gb (.cells [.int .i64 K, .int .i64 N].toArray 35) :: L) := ⟨_, rfl⟩
  rw [← hR] at hm3
  replace hR := Fact.mk hR
  replace hm3 : Mem w0 w2 (Blk t.g (.cells (recC t.A t.ob.items.length t.c t.KA t.ob.keys.length t.kc (some b)).toArray 133) :: Own 2 (.slice t.A t.ob.items.length t.c) (fV t.ob.items) :: Own 1 (.slice t.KA t.ob.keys.length t.kc) (nums .i64 t.ob.keys) :: MapC (some b) t.ob.keys :: R) := hm3
  clear hM hm1 hm2
  have ej : IntKind.i64.wrap ((j : Int) + 1) = (j : Int) + 1 := IntWalk.i64_in _ (by omega)
  go_wp2_with fail
  refine (delN_ok w0 w2 _ t.KA t.ob.keys.length t.kc (nums .i64 t.ob.keys) hm3.pull2 j hjl (by have := hkl.out; omega) j (j + 1) rfl rfl).mono ?_
  rintro e w4 ⟨rfl, hm4⟩
  rw [nums_cut] at hm4
  clear hlook c0 c2 hm3
  have hm4s := hm4.swap
  go_wp2_with (refine wp_setat rfl 39 _ _ rfl t.g 0 rfl 133 _ [.slice t.KA (t.ob.keys.length - 1) t.kc] (recC t.A t.ob.items.length t.c t.KA (t.ob.keys.length - 1) t.kc (some b)) (.slice t.KA (t.ob.keys.length - 1) t.kc) rfl rfl hm4s sz_Is' (by simp [recC]) (one_one rfl) rfl ?_; intro w5 hm5; have c1 := hm5.cell m0 1 rfl)
  refine (delV_ok w0 w5 _ t.A t.ob.items.length t.c (fV t.ob.items) hm5.pull2 j hjv hsz j (j + 1) rfl rfl).mono ?_
  rintro e w6 ⟨rfl, hm6⟩
  rw [fV_cut] at hm6
  clear c1 hm5 hm4 hm4s
  have hm6s := hm6.swap
  go_upto_region 10 with (first | (refine wp_setat rfl 36 _ _ rfl t.g 1 rfl 133 _ [.slice t.A (t.ob.items.length - 1) t.c] (recC t.A (t.ob.items.length - 1) t.c t.KA (t.ob.keys.length - 1) t.kc (some b)) (.slice t.A (t.ob.items.length - 1) t.c) rfl rfl hm6s sz_Vs' (by simp [recC]) (one_one rfl) rfl ?_; intro w7 hm7; have c2 := hm7.cell m0 2 rfl; have hm7f := Mem.toF hm7.pull3) | (at_delete; refine wp_mapdel rfl _ _ rfl b _ (fun k => t.ob.keys.idxOf? k) rfl hm7f key rfl hw.out (by show (t.ob.keys.idxOf? key).isSome = true; rw [hj.out]; rfl) ?_; intro w8 hm8))
  clear c2 hm7f hm7 hm6s hm6
  go_wp2
  go_loopw [11] (fun s11 W => ∃ (k : Nat) (f : Int → Option Nat), s11 = .int .i64 k ∧ k ≤ t.ob.keys.length - 1 ∧ UpTo (dropK t.ob.keys j) k f ∧ Mem w0 W (MapF b (t.ob.keys.length - 1) f :: Blk t.g (.cells (recC t.A (t.ob.items.length - 1) t.c t.KA (t.ob.keys.length - 1) t.kc (some b)).toArray 133) :: Own 2 (.slice t.A (t.ob.items.length - 1) t.c) (fV (dropV t.ob.items j)) :: Own 1 (.slice t.KA (t.ob.keys.length - 1) t.kc) (nums .i64 (dropK t.ob.keys j)) :: R)) (fun s11 _ => (t.ob.keys.length - 1) - (intOf s11).toNat)
  case atStart => exact ⟨j, _, rfl, by omega, hst.out, hm8⟩
  case round =>
    obtain ⟨k, f, rfl, hkk, hup, hmr⟩ := hrel
    clear hm8
    have hup := Fact.mk hup
    by_cases hlt : k < t.ob.keys.length - 1
    · have hmd := hmr.drew
      have hks := hmd.rd m3
      obtain ⟨qb, qo, hqA, hqc, _⟩ := hks.num k hlt
      replace hqA := Fact.mk hqA
      have hqk : (dropK t.ob.keys j)[k]? = some ((dropK t.ob.keys j).getD k 0) := by
        rw [List.getD_eq_getElem?_getD, List.getElem?_eq_getElem (by rw [hlk.out]; exact hlt)]
        rfl
      generalize (dropK t.ob.keys j).getD k 0 = q at hqc hqk
      have hqw := Fact.mk (hwf.out q (List.mem_of_getElem? hqk))
      have hqs := hup.out.held q (List.mem_of_getElem? hqk)
      have hqs := Fact.mk hqs
      have hst2 := Fact.mk (hup.out.step hnd.out hqk)
      clear hqk hks
      have c0 := hmr.cell m1 0 rfl
      go_upto_region 13 with (fail)
      clear c0
      have c0 := hmd.cell m1 0 rfl
      have c2 := hmd.cell m1 2 rfl
      rw [hqA.out] at c0
      refine wp_region_still_tail 12 (by kernel_rfl) (by kernel_rfl) ?_
      simp only [List.take_succ_cons, List.take_zero, List.drop_succ_cons, List.drop_zero]
      repeat still_step
      refine wpStill_nil ?_
      go_wp2_with (refine wp_mapput rfl _ _ _ rfl b (t.ob.keys.length - 1) f rfl hmd (by unfold maxLen; omega) q rfl hqw.out k rfl (by omega) ?_; intro w9 hm9)
      rw [if_pos hqs.out] at hm9
      go_roundw
      case rel => exact ⟨k + 1, _, by go_num, by omega, hst2.out, hm9⟩
      case measure => exact measP_lt hlt
    · obtain rfl : k = t.ob.keys.length - 1 := by omega
      have c0 := hmr.cell m1 0 rfl
      go_wp2
      go_ret
      have hup2 := hup.out
      rw [← hlk.out] at hup2
      have hz := (Mem.toC (ks := dropK t.ob.keys j) hmr (by rw [hlk.out]; exact Nat.le_refl _) (fun q _ => hup2.all hnd.out q)).back2.swap.back2
      rw [hR.out] at hz
      refine ⟨rfl, hfin.out wr t.A t.c t.KA t.kc (some b) ?_⟩
      have hz3 : Mem w0 wr (recCh t.g t.A (t.ob.items.length - 1) t.c t.KA (t.ob.keys.length - 1) t.kc (some b) (dropV t.ob.items j) (dropK t.ob.keys j) ++ (h.rest i ++ (Blk gb (.cells [.int .i64 K, .int .i64 N].toArray 35) :: L))) := hz.perm (((List.Perm.swap _ _ _).trans ((List.Perm.swap _ _ _).cons _)).cons _)
      exact hz3.sub (List.Sublist.append (List.Sublist.refl _) (List.Sublist.append (List.Sublist.refl _) (List.sublist_cons_self _ _)))
end Go.Proofs.YtpibchjkmaghnaaGreat
namespace Go.Proofs.YtpibchjkmaghnaaGreat
open Go.RowKit Go.Mm
set_option maxHeartbeats 4000000
set_option maxRecDepth 100000
set_option linter.unusedSimpArgs false
theorem fieldNone_ok (w0 w : World) (L : List Chunk) (h : Hp) (hm : Mem w0 w (HpC h :: L)) (hok : Fact h.Ok) (K N key : Int) (has : Fact (asK h (K, N) 7 = none)) :
    Calls Tryz.prog 86 #[.pointer (some ⟨h.g, 0, none⟩), .agg #[.int .i64 K, .int .i64 N], .int .i64 key] w fun e w' => e = .returned (.tuple #[.agg #[.int .i64 0, .int .i64 0], .int .i64 1]) ∧ Mem w0 w' (HpC h :: L) := by
  go_enter Tryz.func86, Tryz.ntmps86
  go_upto_region 1 with (fail)
  have hm1 := (hm.alloc (.cells [.int .i64 K, .int .i64 N].toArray 35)).alloc (.cells [.int .i64 0, .int .i64 0].toArray 35)
  simp only [World.size_alloc] at hm1
  generalize hgb : w.heap.size = gb at hm1 ⊢
  generalize hw1 : (w.alloc (.cells [.int .i64 K, .int .i64 N].toArray 35)).alloc (.cells [.int .i64 0, .int .i64 0].toArray 35) = w1 at hm1
  try refine wp_world hw1 ?_
  clear hw1 hgb
  go_wp2_with (refine wp_rng rfl 35 _ rfl gb 0 rfl (cV (K, N)) (rng_blk hm1 m1) row_V sz_V ?_)
  refine (record_at w0 w1 _ h hm1 m2 hok K N).mono ?_
  rintro e w2 ⟨rfl, hg2⟩
  rw [has.out]
  simp only [trapK]
  have hm2 := hm1.gr hg2
  clear hm1
  go_wp2_with (refine wp_setrow rfl 35 _ _ rfl (gb + 1) rfl 35 _ [.int .i64 0, .int .i64 0] rfl hm2 sz_V rfl (cV_one (0, 0)) ?_; intro w3 hm3)
  exact bodyPost_ret (Mm.res_cell_tmp rfl _ (gb + 1) 35 [.int .i64 0, .int .i64 0] (0, 0) rfl hm3 m0 row_V sz_V) rfl ⟨rfl, hm3.tail.tail⟩
theorem hasNone_ok (w0 w : World) (L : List Chunk) (h : Hp) (hm : Mem w0 w (HpC h :: L)) (hok : Fact h.Ok) (K N key : Int) (has : Fact (asK h (K, N) 7 = none)) :
    Calls Tryz.prog 88 #[.pointer (some ⟨h.g, 0, none⟩), .agg #[.int .i64 K, .int .i64 N], .int .i64 key] w fun e w' => e = .returned (.tuple #[.bool false, .int .i64 1]) ∧ Mem w0 w' (HpC h :: L) := by
  go_enter Tryz.func88, Tryz.ntmps88
  go_upto_region 1 with (fail)
  have hm1 := hm.alloc (.cells [.int .i64 K, .int .i64 N].toArray 35)
  generalize hgb : w.heap.size = gb at hm1 ⊢
  generalize hw1 : w.alloc (.cells [.int .i64 K, .int .i64 N].toArray 35) = w1 at hm1
  try refine wp_world hw1 ?_
  clear hw1 hgb
  go_wp2_with (refine wp_rng rfl 35 _ rfl gb 0 rfl (cV (K, N)) (rng_blk hm1 m0) row_V sz_V ?_)
  refine (record_at w0 w1 _ h hm1 m1 hok K N).mono ?_
  rintro e w2 ⟨rfl, hg2⟩
  rw [has.out]
  simp only [trapK]
  have hm2 := hm1.gr hg2
  clear hm1
  go_wp2
  go_ret2
  exact ⟨rfl, hm2.tail⟩
theorem setFNone_ok (w0 w : World) (L : List Chunk) (h : Hp) (hm : Mem w0 w (HpC h :: L)) (hok : Fact h.Ok) (K N key : Int) (X Y : Int) (has : Fact (asK h (K, N) 7 = none)) :
    Calls Tryz.prog 87 #[.pointer (some ⟨h.g, 0, none⟩), .agg #[.int .i64 K, .int .i64 N], .int .i64 key, .agg #[.int .i64 X, .int .i64 Y]] w fun e w' => e = .returned (.tuple #[.int .i64 1, .bool true]) ∧ Mem w0 w' (HpC h :: L) := by
  go_enter Tryz.func87, Tryz.ntmps87
  go_upto_region 1 with (fail)
  have hm1 := (hm.alloc (.cells [.int .i64 K, .int .i64 N].toArray 35)).alloc (.cells [.int .i64 X, .int .i64 Y].toArray 35)
  simp only [World.size_alloc] at hm1
  generalize hgb : w.heap.size = gb at hm1 ⊢
  generalize hw1 : (w.alloc (.cells [.int .i64 K, .int .i64 N].toArray 35)).alloc (.cells [.int .i64 X, .int .i64 Y].toArray 35) = w1 at hm1
  try refine wp_world hw1 ?_
  clear hw1 hgb
  go_wp2_with (refine wp_rng rfl 35 _ rfl gb 0 rfl (cV (K, N)) (rng_blk hm1 m1) row_V sz_V ?_)
  refine (record_at w0 w1 _ h hm1 m2 hok K N).mono ?_
  rintro e w2 ⟨rfl, hg2⟩
  rw [has.out]
  simp only [trapK]
  have hm2 := hm1.gr hg2
  clear hm1
  go_wp2
  go_ret2
  exact ⟨rfl, hm2.tail.tail⟩
theorem deleteNone_ok (w0 w : World) (L : List Chunk) (h : Hp) (hm : Mem w0 w (HpC h :: L)) (hok : Fact h.Ok) (K N key : Int) (has : Fact (asK h (K, N) 7 = none)) :
    Calls Tryz.prog 89 #[.pointer (some ⟨h.g, 0, none⟩), .agg #[.int .i64 K, .int .i64 N], .int .i64 key] w fun e w' => e = .returned (.int .i64 1) ∧ Mem w0 w' (HpC h :: L) := by
  go_enter Tryz.func89, Tryz.ntmps89
  go_upto_region 1 with (fail)
  have hm1 := hm.alloc (.cells [.int .i64 K, .int .i64 N].toArray 35)
  generalize hgb : w.heap.size = gb at hm1 ⊢
  generalize hw1 : w.alloc (.cells [.int .i64 K, .int .i64 N].toArray 35) = w1 at hm1
  try refine wp_world hw1 ?_
  clear hw1 hgb
  go_wp2_with (refine wp_rng rfl 35 _ rfl gb 0 rfl (cV (K, N)) (rng_blk hm1 m0) row_V sz_V ?_)
  refine (record_at w0 w1 _ h hm1 m1 hok K N).mono ?_
  rintro e w2 ⟨rfl, hg2⟩
  rw [has.out]
  simp only [trapK]
  have hm2 := hm1.gr hg2
  clear hm1
  go_wp2
  go_ret
  exact ⟨rfl, hm2.tail⟩
end Go.Proofs.YtpibchjkmaghnaaGreat
namespace Go.Proofs.YtpibchjkmaghnaaGreat
open Go.RowKit Go.Mm
set_option maxHeartbeats 4000000
set_option maxRecDepth 100000
set_option linter.unusedSimpArgs false
theorem deleteNo_ok (w0 w : World) (L : List Chunk) (h : Hp) (hm : Mem w0 w (HpC h :: L)) (hok : Fact h.Ok) (K N key : Int) (hw : Fact ((Lit.int .i64 key).wf = true)) (i : Nat) (hn : nm h.objs (K, N) = some i) (t : Th) (ht : Fact (h.ths.getD i th0 = t)) (hk : Fact (t.ob.kind = 7)) (hj : Fact (t.ob.keys.idxOf? key = none)) :
    Calls Tryz.prog 89 #[.pointer (some ⟨h.g, 0, none⟩), .agg #[.int .i64 K, .int .i64 N], .int .i64 key] w fun e w' => e = .returned (.int .i64 4) ∧ Mem w0 w' (HpC h :: L) := by
  have hil := (nm_in hn).1
  have has := Fact.mk (asK_yes hn ht.out 7 hk.out)
  clear hn
  go_enter Tryz.func89, Tryz.ntmps89
  go_upto_region 1 with (fail)
  have hm1 := hm.alloc (.cells [.int .i64 K, .int .i64 N].toArray 35)
  generalize hgb : w.heap.size = gb at hm1 ⊢
  generalize hw1 : w.alloc (.cells [.int .i64 K, .int .i64 N].toArray 35) = w1 at hm1
  try refine wp_world hw1 ?_
  clear hw1 hgb
  go_wp2_with (refine wp_rng rfl 35 _ rfl gb 0 rfl (cV (K, N)) (rng_blk hm1 m0) row_V sz_V ?_)
  refine (record_at w0 w1 _ h hm1 m1 hok K N).mono ?_
  rintro e w2 ⟨rfl, hg2⟩
  rw [has.out]
  simp only [trapK]
  have hm2 := hm1.gr hg2
  obtain ⟨_, _, c2, _, _, hM, _, _⟩ := Hp.readR (hm2.swap) i hil t ht.out hk.out
  have hlook := mapOk_look hM key hw.out
  rw [hj.out] at hlook
  simp only [Option.isSome_none, Option.getD_none] at hlook
  clear hM hm1
  go_wp2
  go_ret
  exact ⟨rfl, hm2.tail⟩
end Go.Proofs.YtpibchjkmaghnaaGreat
namespace Go.Proofs.YtpibchjkmaghnaaGreat
open Go.RowKit Go.Mm
set_option maxHeartbeats 4000000
set_option maxRecDepth 100000
set_option linter.unusedSimpArgs false
def fieldV (s : Hs) (v : V2) (key : Int) : V2 := match s.obAt v 7 with | none => (0, 0) | some i => fldV (s.objs.getD i ob0) key
def fieldT (s : Hs) (v : V2) (key : Int) : Int := match s.obAt v 7 with | none => 1 | some i => fldT (s.objs.getD i ob0) key
def hasB (s : Hs) (v : V2) (key : Int) : Bool := match s.obAt v 7 with | none => false | some i => ((s.objs.getD i ob0).keys.idxOf? key).isSome
def hasT (s : Hs) (v : V2) : Int := match s.obAt v 7 with | none => 1 | some _ => 0
def delT (s : Hs) (v : V2) (key : Int) : Int := match s.obAt v 7 with | none => 1 | some i => match (s.objs.getD i ob0).keys.idxOf? key with | some _ => 0 | none => 4
def delS (s : Hs) (v : V2) (key : Int) : Hs := match s.obAt v 7 with | none => s | some i => match (s.objs.getD i ob0).keys.idxOf? key with | some j => s.put i { s.objs.getD i ob0 with items := dropV (s.objs.getD i ob0).items j, keys := dropK (s.objs.getD i ob0).keys j } | none => s
def setFT (s : Hs) (v : V2) (key : Int) : Int := match s.obAt v 7 with | none => 1 | some i => match (s.objs.getD i ob0).keys.idxOf? key with | some _ => 0 | none => if 256 ≤ (s.objs.getD i ob0).keys.length then 8 else 0
def setFB (s : Hs) (v : V2) (key : Int) : Bool := match s.obAt v 7 with | none => true | some i => match (s.objs.getD i ob0).keys.idxOf? key with | some _ => true | none => if 256 ≤ (s.objs.getD i ob0).keys.length then true else s.room 2
def setFS (s : Hs) (v : V2) (key : Int) (x : V2) : Hs := match s.obAt v 7 with | none => s | some i => match (s.objs.getD i ob0).keys.idxOf? key with
  | some j => s.put i { s.objs.getD i ob0 with items := (s.objs.getD i ob0).items.set j x }
  | none => if 256 ≤ (s.objs.getD i ob0).keys.length then s else match s.room 2 with | true => (s.spend 2).put i { s.objs.getD i ob0 with items := (s.objs.getD i ob0).items ++ [x], keys := (s.objs.getD i ob0).keys ++ [key] } | false => s
theorem field_any (w0 w : World) (L : List Chunk) (h : Hp) (hm : Mem w0 w (HpC h :: L)) (hok : Fact h.Ok) (K N key : Int) (hw : Fact ((Lit.int .i64 key).wf = true)) :
    Calls Tryz.prog 86 #[.pointer (some ⟨h.g, 0, none⟩), .agg #[.int .i64 K, .int .i64 N], .int .i64 key] w fun e w' => e = .returned (.tuple #[.agg #[.int .i64 (fieldV h.abs (K, N) key).1, .int .i64 (fieldV h.abs (K, N) key).2], .int .i64 (fieldT h.abs (K, N) key)]) ∧ Mem w0 w' (HpC h :: L) := by
  unfold fieldV fieldT
  rcases asK_of (h := h) (v := (K, N)) (k := 7) with ⟨has, hob⟩ | ⟨i, hil, hn, hk, hob, has⟩
  · rw [hob]
    exact fieldNone_ok w0 w L h hm hok K N key ⟨has⟩
  · obtain ⟨t, ht⟩ : ∃ t, h.ths.getD i th0 = t := ⟨_, rfl⟩
    rw [hob]
    simp only [show h.abs.objs = h.objs from rfl, ob_at hil, ht]
    rw [ht] at hk
    exact field_ok w0 w L h hm hok K N key hw i hn t ⟨ht⟩ ⟨hk⟩
theorem has_any (w0 w : World) (L : List Chunk) (h : Hp) (hm : Mem w0 w (HpC h :: L)) (hok : Fact h.Ok) (K N key : Int) (hw : Fact ((Lit.int .i64 key).wf = true)) :
    Calls Tryz.prog 88 #[.pointer (some ⟨h.g, 0, none⟩), .agg #[.int .i64 K, .int .i64 N], .int .i64 key] w fun e w' => e = .returned (.tuple #[.bool (hasB h.abs (K, N) key), .int .i64 (hasT h.abs (K, N))]) ∧ Mem w0 w' (HpC h :: L) := by
  unfold hasB hasT
  rcases asK_of (h := h) (v := (K, N)) (k := 7) with ⟨has, hob⟩ | ⟨i, hil, hn, hk, hob, has⟩
  · rw [hob]
    exact hasNone_ok w0 w L h hm hok K N key ⟨has⟩
  · obtain ⟨t, ht⟩ : ∃ t, h.ths.getD i th0 = t := ⟨_, rfl⟩
    rw [hob]
    simp only [show h.abs.objs = h.objs from rfl, ob_at hil, ht]
    rw [ht] at hk
    exact has_ok w0 w L h hm hok K N key hw i hn t ⟨ht⟩ ⟨hk⟩
theorem delete_any (w0 w : World) (L : List Chunk) (h : Hp) (hm : Mem w0 w (HpC h :: L)) (hok : Fact h.Ok) (K N key : Int) (hw : Fact ((Lit.int .i64 key).wf = true)) :
    Calls Tryz.prog 89 #[.pointer (some ⟨h.g, 0, none⟩), .agg #[.int .i64 K, .int .i64 N], .int .i64 key] w fun e w' => e = .returned (.int .i64 (delT h.abs (K, N) key)) ∧ HpQ w0 L h.g (delS h.abs (K, N) key) w' := by
  unfold delT delS
  rcases asK_of (h := h) (v := (K, N)) (k := 7) with ⟨has, hob⟩ | ⟨i, hil, hn, hk, hob, has⟩
  · rw [hob]
    exact (deleteNone_ok w0 w L h hm hok K N key ⟨has⟩).mono fun e w' q => ⟨q.1, HpQ.mk h hok.out q.2⟩
  · obtain ⟨t, ht⟩ : ∃ t, h.ths.getD i th0 = t := ⟨_, rfl⟩
    rw [hob]
    simp only [show h.abs.objs = h.objs from rfl, ob_at hil, ht]
    rw [ht] at hk
    cases hj : t.ob.keys.idxOf? key with
    | none => exact (deleteNo_ok w0 w L h hm hok K N key hw i hn t ⟨ht⟩ ⟨hk⟩ ⟨hj⟩).mono fun e w' q => ⟨q.1, HpQ.mk h hok.out q.2⟩
    | some j =>
      refine (deleteYes_ok w0 w L h hm hok K N key hw i hn t ⟨ht⟩ ⟨hk⟩ j ⟨hj⟩).mono ?_
      rintro e w' ⟨rfl, t', hob', htk', hm'⟩
      exact ⟨rfl, h.upd i t', rfl, by rw [Hp.upd_abs, hob'], upd_ok hok.out i t' htk', hm'⟩
theorem setF_any (w0 w : World) (L : List Chunk) (h : Hp) (hm : Mem w0 w (HpC h :: L)) (hok : Fact h.Ok) (K N key : Int) (hw : Fact ((Lit.int .i64 key).wf = true)) (X Y : Int) :
    Calls Tryz.prog 87 #[.pointer (some ⟨h.g, 0, none⟩), .agg #[.int .i64 K, .int .i64 N], .int .i64 key, .agg #[.int .i64 X, .int .i64 Y]] w fun e w' => e = .returned (.tuple #[.int .i64 (setFT h.abs (K, N) key), .bool (setFB h.abs (K, N) key)]) ∧ HpQ w0 L h.g (setFS h.abs (K, N) key (X, Y)) w' := by
  unfold setFT setFB setFS
  rcases asK_of (h := h) (v := (K, N)) (k := 7) with ⟨has, hob⟩ | ⟨i, hil, hn, hk, hob, has⟩
  · rw [hob]
    exact (setFNone_ok w0 w L h hm hok K N key X Y ⟨has⟩).mono fun e w' q => ⟨q.1, HpQ.mk h hok.out q.2⟩
  · obtain ⟨t, ht⟩ : ∃ t, h.ths.getD i th0 = t := ⟨_, rfl⟩
    rw [hob]
    simp only [show h.abs.objs = h.objs from rfl, ob_at hil, ht]
    rw [ht] at hk
    cases hj : t.ob.keys.idxOf? key with
    | some j =>
      refine (setOld_ok w0 w L h hm hok K N key hw X Y i hn t ⟨ht⟩ ⟨hk⟩ j ⟨hj⟩).mono ?_
      rintro e w' ⟨rfl, t', hob', htk', hm'⟩
      exact ⟨rfl, h.upd i t', rfl, by rw [Hp.upd_abs, hob'], upd_ok hok.out i t' htk', hm'⟩
    | none =>
      simp only
      by_cases q0 : 256 ≤ t.ob.keys.length
      · rw [if_pos q0, if_pos q0, if_pos q0]
        exact (setFull_ok w0 w L h hm hok K N key hw X Y i hn t ⟨ht⟩ ⟨hk⟩ ⟨hj⟩ q0).mono fun e w' q => ⟨q.1, HpQ.mk h hok.out q.2⟩
      · rw [if_neg q0, if_neg q0, if_neg q0]
        rw [show h.abs.room 2 = h.room 2 from rfl]
        cases hr : h.room 2 with
        | false => exact (setPoor_ok w0 w L h hm hok K N key hw X Y i hn t ⟨ht⟩ ⟨hk⟩ ⟨hj⟩ (by omega) ⟨hr⟩).mono fun e w' q => ⟨q.1, HpQ.mk h hok.out q.2⟩
        | true =>
          refine (setNew_ok w0 w L h hm hok K N key hw X Y i hn t ⟨ht⟩ ⟨hk⟩ ⟨hj⟩ (by omega) ⟨hr⟩).mono ?_
          rintro e w' ⟨rfl, t', hob', htk', hm'⟩
          exact ⟨rfl, (h.spend 2).upd i t', h.spend_g 2, by rw [Hp.upd_abs, Hp.spend_abs, hob'], upd_ok (Hp.spend_ok hok.out 2) i t' htk', hm'⟩
end Go.Proofs.YtpibchjkmaghnaaGreat
namespace Go.Proofs.YtpibchjkmaghnaaGreat
open Go.RowKit Go.Mm
set_option maxHeartbeats 4000000
set_option maxRecDepth 100000
set_option linter.unusedSimpArgs false
def findI (ks : List Int) (key : Int) : Int := match ks.idxOf? key with | some j => (j : Nat) | none => -1
theorem find_miss {ks : List Int} {key : Int} {k : Nat} (hk : k < ks.length) (h : (ks.take k).idxOf? key = none) (hne : ks.getD k 0 ≠ key) : (ks.take (k + 1)).idxOf? key = none := by
  rw [take_snoc' ks k hk, idx_app, h]
  simp only
  rw [List.idxOf?_cons, if_neg (by simpa using hne)]
  rfl
theorem find_hit {ks : List Int} {key : Int} {k : Nat} (hk : k < ks.length) (h : (ks.take k).idxOf? key = none) (he : ks.getD k 0 = key) : ks.idxOf? key = some k := by
  have e : ks = ks.take k ++ key :: ks.drop (k + 1) := by
    conv => lhs; rw [← List.take_append_drop k ks, List.drop_eq_getElem_cons hk]
    rw [← he]
    simp [hk]
  rw [e, idx_app, h]
  simp only
  rw [List.idxOf?_cons, if_pos (by simp)]
  simp
  omega
theorem find_ok (w : World) (A : Option Addr) (n c : Nat) (xs : List Int) (hx : Fact (RdC w 1 (.slice A n c) (nums .i64 xs))) (hn : n ≤ 16777216) (key : Int) :
    Calls Tryz.prog 83 #[.slice A n c, .int .i64 key] w fun e w' => e = .returned (.int .i64 (findI xs key)) ∧ w' = w := by
  have hl := Fact.mk hx.out.nlen
  go_enter Tryz.func83, Tryz.ntmps83
  go_wp2
  go_loopw [5] (fun s5 w' => ∃ k : Nat, s5 = .int .i64 k ∧ k ≤ n ∧ Fact ((xs.take k).idxOf? key = none) ∧ w' = w) (fun s5 _ => n - (intOf s5).toNat)
  case atStart => exact ⟨0, rfl, by omega, ⟨rfl⟩, rfl⟩
  case round =>
    obtain ⟨k, rfl, hk, hno, rfl⟩ := hrel
    by_cases hlt : k < n
    · obtain ⟨b, o, rfl, g1, _⟩ := hx.out.num k hlt
      obtain ⟨x, hx0⟩ : ∃ x, xs.getD k 0 = x := ⟨_, rfl⟩
      rw [hx0] at g1
      by_cases q : x = key
      · subst q
        have hfin : Fact (findI xs x = k) := ⟨by unfold findI; rw [find_hit (by have := hl.out; omega) hno.out hx0]⟩
        go_wp2
        go_ret
        exact ⟨by rw [hfin.out]; rfl, rfl⟩
      · have q' : (x == key) = false := beq_eq_false_iff_ne.2 q
        have hno' : Fact ((xs.take (k + 1)).idxOf? key = none) := ⟨find_miss (by have := hl.out; omega) hno.out (by rw [hx0]; exact q)⟩
        go_wp2
        go_roundw
        case rel => exact ⟨k + 1, by go_num, by omega, hno', by first | trivial | rfl⟩
        case measure => exact measP_lt hlt
    · obtain rfl : k = n := by omega
      have hfin : Fact (findI xs key = -1) := ⟨by unfold findI; have := hno.out; rw [List.take_of_length_le (by rw [hl.out]; omega)] at this; rw [this]⟩
      go_wp2
      go_ret
      exact ⟨by rw [hfin.out]; rfl, rfl⟩
end Go.Proofs.YtpibchjkmaghnaaGreat
namespace Go.Proofs.YtpibchjkmaghnaaGreat
open Go.RowKit Go.Mm
set_option maxHeartbeats 4000000
set_option maxRecDepth 100000
set_option linter.unusedSimpArgs false
theorem refField_ok (w0 w : World) (L : List Chunk) (r : Rf) (hm : Mem w0 w (RfC r :: L)) (hok : Fact r.Ok) (hg : Fact r.abs.Good) (K N key : Int) :
    Calls Tryz.prog 57 #[.pointer (some ⟨r.g, 0, none⟩), .agg #[.int .i64 K, .int .i64 N], .int .i64 key] w fun e w' => e = .returned (.tuple #[.agg #[.int .i64 (fieldV r.abs (K, N) key).1, .int .i64 (fieldV r.abs (K, N) key).2], .int .i64 (fieldT r.abs (K, N) key)]) ∧ Mem w0 w' (RfC r :: L) := by
  have his := fun (w1 : World) (L1 : List Chunk) (hm1 : Mem w0 w1 L1) (hh : RfC r ∈ L1) => refIs_ok w0 w1 L1 r hm1 hh hok hg K N 7
  unfold fieldV fieldT
  cases hob : r.abs.obAt (K, N) 7 with
  | none =>
    rw [hob] at his
    simp only [Option.isSome] at his
    replace his := Fact.mk his
    go_enter Tryz.func57, Tryz.ntmps57
    go_upto_region 1 with (fail)
    have hm1 := ((hm.alloc (.cells [.int .i64 K, .int .i64 N].toArray 35)).alloc (.cells [.int .i64 0, .int .i64 0].toArray 35))
    simp only [World.size_alloc] at hm1
    generalize hgb : w.heap.size = gb at hm1 ⊢
    generalize hw1 : ((w.alloc (.cells [.int .i64 K, .int .i64 N].toArray 35)).alloc (.cells [.int .i64 0, .int .i64 0].toArray 35)) = w1 at hm1
    try refine wp_world hw1 ?_
    clear hw1 hgb
    go_wp2_with (refine wp_rng rfl 35 _ rfl gb 0 rfl (cV (K, N)) (rng_blk hm1 m1) row_V sz_V ?_)
    refine (his.out w1 _ hm1 m2).mono ?_
    rintro e w2 ⟨rfl, hg2⟩
    have hm2 := hm1.gr hg2
    clear hm1 hg2
    go_wp2_with (refine wp_setrow rfl 35 _ _ rfl (gb + 1) rfl 35 _ [.int .i64 0, .int .i64 0] rfl hm2 sz_V rfl (cV_one (0, 0)) ?_; intro w3 hm3)
    exact bodyPost_ret (Mm.res_cell_tmp rfl _ (gb + 1) 35 [.int .i64 0, .int .i64 0] (0, 0) rfl hm3 m0 row_V sz_V) rfl ⟨rfl, hm3.tail.tail⟩
  | some i =>
    rw [hob] at his
    simp only [Option.isSome] at his
    replace his := Fact.mk his
    have hkd7 := (Hs.obAt_lt hob).2.2.2
    obtain ⟨hi, hN, hK, hkd⟩ := Hs.obAt_lt hob
    rw [r.abs_len] at hi
    simp only at hN hK
    subst hN
    clear hK hkd
    simp only [r.at_abs hi]
    have hsz := hok.out.each (r.xs.getD i ro0) (by rw [List.getD_eq_getElem?_getD, List.getElem?_eq_getElem hi]; exact List.getElem_mem hi)
    obtain ⟨t, ht⟩ : ∃ t, r.xs.getD i ro0 = t := ⟨_, rfl⟩
    have hto : r.abs.objs.getD i ob0 = t.ob := by rw [r.at_abs hi, ht]
    rw [ht] at hsz ⊢
    rw [hto] at hkd7
    have hgo := hg.out t.ob (by rw [← hto, List.getD_eq_getElem?_getD, List.getElem?_eq_getElem (by rw [r.abs_len]; exact hi)]; exact List.getElem_mem _)
    have hkl := hgo.keys hkd7
    replace ht := Fact.mk ht
    replace hto := Fact.mk hto
    replace hgo := Fact.mk hgo
    replace hkd7 := Fact.mk hkd7
    replace hkl := Fact.mk hkl
    unfold fldV fldT
    cases hidx : t.ob.keys.idxOf? key with
    | none =>
      have hfi : Fact (findI t.ob.keys key = -1) := ⟨by unfold findI; rw [hidx]⟩
      go_enter Tryz.func57, Tryz.ntmps57
      go_upto_region 1 with (fail)
      have hm1 := ((hm.alloc (.cells [.int .i64 K, .int .i64 (i : Int)].toArray 35)).alloc (.cells [.int .i64 0, .int .i64 0].toArray 35))
      simp only [World.size_alloc] at hm1
      generalize hgb : w.heap.size = gb at hm1 ⊢
      generalize hw1 : ((w.alloc (.cells [.int .i64 K, .int .i64 (i : Int)].toArray 35)).alloc (.cells [.int .i64 0, .int .i64 0].toArray 35)) = w1 at hm1
      try refine wp_world hw1 ?_
      clear hw1 hgb
      go_wp2_with (refine wp_rng rfl 35 _ rfl gb 0 rfl (cV (K, (i : Int))) (rng_blk hm1 m1) row_V sz_V ?_)
      refine (his.out w1 _ hm1 m2).mono ?_
      rintro e w2 ⟨rfl, hg2⟩
      have hm2 := hm1.gr hg2
      clear hm1 hg2
      go_upto_region 3 with (fail)
      obtain ⟨_, _, c2, hobs⟩ := Rf.read hm2.drew m2
      obtain ⟨b, o, hA, hc, _, hrd⟩ := hobs.at i hi
      rw [hA] at c2
      have f2 : w2.drew.cell? ⟨b, o + i * 6 + 2, none⟩ = some (.slice (r.xs.getD i ro0).KA (r.xs.getD i ro0).ob.keys.length (r.xs.getD i ro0).kc) := hc 2 _ rfl
      rw [ht.out] at f2 hrd
      have d1 := hm2.drew.cell m1 1 rfl
      clear hc hobs
      refine wp_region_still_tail 10 (by kernel_rfl) (by kernel_rfl) ?_
      simp only [List.take_succ_cons, List.take_zero, List.drop_succ_cons, List.drop_zero]
      repeat still_step
      refine wpStill_nil ?_
      go_wp2_with fail
      refine (find_ok w2.drew t.KA t.ob.keys.length t.kc t.ob.keys ⟨hrd.2⟩ (by omega) key).mono ?_
      rintro e w3 ⟨rfl, rfl⟩
      have hm3 := hm2.drew
      clear hm2 c2 f2 d1 hrd
      generalize w2.drew = w3 at hm3 ⊢
      rw [hfi.out]
      go_wp2_with (refine wp_setrow rfl 35 _ _ rfl (gb + 1) rfl 35 _ [.int .i64 0, .int .i64 0] rfl hm3 sz_V rfl (cV_one (0, 0)) ?_; intro w4 hm4)
      exact bodyPost_ret (Mm.res_cell_tmp rfl _ (gb + 1) 35 [.int .i64 0, .int .i64 0] (0, 0) rfl hm4 m0 row_V sz_V) rfl ⟨rfl, hm4.tail.tail⟩
    | some j =>
      have hfi : Fact (findI t.ob.keys key = (j : Nat)) := ⟨by unfold findI; rw [hidx]⟩
      have hj : j < t.ob.items.length := by rw [← hkl.out]; exact idx_lt hidx
      have hj' : ((j : Int) < 0) = False := eq_false (by omega)
      obtain ⟨x, hx⟩ : ∃ x, t.ob.items.getD j (0, 0) = x := ⟨_, rfl⟩
      simp only
      rw [hx]
      replace hx := Fact.mk hx
      clear hidx
      go_enter Tryz.func57, Tryz.ntmps57
      go_upto_region 1 with (fail)
      have hm1 := ((hm.alloc (.cells [.int .i64 K, .int .i64 (i : Int)].toArray 35)).alloc (.cells [.int .i64 0, .int .i64 0].toArray 35))
      simp only [World.size_alloc] at hm1
      generalize hgb : w.heap.size = gb at hm1 ⊢
      generalize hw1 : ((w.alloc (.cells [.int .i64 K, .int .i64 (i : Int)].toArray 35)).alloc (.cells [.int .i64 0, .int .i64 0].toArray 35)) = w1 at hm1
      try refine wp_world hw1 ?_
      clear hw1 hgb
      go_wp2_with (refine wp_rng rfl 35 _ rfl gb 0 rfl (cV (K, (i : Int))) (rng_blk hm1 m1) row_V sz_V ?_)
      refine (his.out w1 _ hm1 m2).mono ?_
      rintro e w2 ⟨rfl, hg2⟩
      have hm2 := hm1.gr hg2
      clear hm1 hg2
      go_upto_region 3 with (fail)
      obtain ⟨_, _, c2, hobs⟩ := Rf.read hm2.drew m2
      obtain ⟨b, o, hA, hc, _, hrd⟩ := hobs.at i hi
      rw [hA] at c2
      have f2 : w2.drew.cell? ⟨b, o + i * 6 + 2, none⟩ = some (.slice (r.xs.getD i ro0).KA (r.xs.getD i ro0).ob.keys.length (r.xs.getD i ro0).kc) := hc 2 _ rfl
      rw [ht.out] at f2 hrd
      have d1 := hm2.drew.cell m1 1 rfl
      clear hc hobs
      refine wp_region_still_tail 10 (by kernel_rfl) (by kernel_rfl) ?_
      simp only [List.take_succ_cons, List.take_zero, List.drop_succ_cons, List.drop_zero]
      repeat still_step
      refine wpStill_nil ?_
      go_wp2_with fail
      refine (find_ok w2.drew t.KA t.ob.keys.length t.kc t.ob.keys ⟨hrd.2⟩ (by omega) key).mono ?_
      rintro e w3 ⟨rfl, rfl⟩
      have hm3 := hm2.drew
      clear hm2 c2 f2 d1 hrd
      generalize w2.drew = w3 at hm3 ⊢
      rw [hfi.out]
      go_upto_region 6 with (fail)
      obtain ⟨_, _, c2, hobs⟩ := Rf.read hm3.drew m2
      obtain ⟨b, o, hA, hc, _, hrd⟩ := hobs.at i hi
      rw [hA] at c2
      have f1 : w3.drew.cell? ⟨b, o + i * 6 + 1, none⟩ = some (.slice (r.xs.getD i ro0).A (r.xs.getD i ro0).ob.items.length (r.xs.getD i ro0).c) := hc 1 _ rfl
      rw [ht.out] at f1 hrd
      have d1 := hm3.drew.cell m1 1 rfl
      clear hc hobs
      obtain ⟨b2, o2, hA2, g1, g2, _, _⟩ := rdV_at hrd.1 j hj
      rw [hx.out] at g1 g2
      rw [hA2] at f1
      have ry := rng2 g1 g2
      clear hrd hA2 hA
      refine wp_region_still_tail 12 (by kernel_rfl) (by kernel_rfl) ?_
      simp only [List.take_succ_cons, List.take_zero, List.drop_succ_cons, List.drop_zero]
      repeat (first | still_step | (refine still_rng rfl 35 _ rfl b2 (o2 + j * 2) rfl (cV x) ry row_V sz_V ?_))
      refine wpStill_nil ?_
      have hm4 := hm3.drew
      clear hm3 c2 f1 d1 ry g1 g2
      go_wp2_with (refine wp_setrow rfl 35 _ _ rfl (gb + 1) rfl 35 _ (cV x) rfl hm4 sz_V rfl (cV_one x) ?_; intro w5 hm5)
      exact bodyPost_ret (Mm.res_cell_tmp rfl _ (gb + 1) 35 (cV x) (0, 0) rfl hm5 m0 row_V sz_V) rfl ⟨rfl, hm5.tail.tail⟩
theorem refHas_ok (w0 w : World) (L : List Chunk) (r : Rf) (hm : Mem w0 w (RfC r :: L)) (hok : Fact r.Ok) (hg : Fact r.abs.Good) (K N key : Int) :
    Calls Tryz.prog 59 #[.pointer (some ⟨r.g, 0, none⟩), .agg #[.int .i64 K, .int .i64 N], .int .i64 key] w fun e w' => e = .returned (.tuple #[.bool (hasB r.abs (K, N) key), .int .i64 (hasT r.abs (K, N))]) ∧ Mem w0 w' (RfC r :: L) := by
  have hfield := fun (w1 : World) (L1 : List Chunk) (hm1 : Mem w0 w1 (RfC r :: L1)) => refField_ok w0 w1 L1 r hm1 hok hg K N key
  obtain ⟨fv, hfv⟩ : ∃ fv, fieldV r.abs (K, N) key = fv := ⟨_, rfl⟩
  rw [hfv] at hfield
  have hcase : (fieldT r.abs (K, N) key = 1 ∧ hasB r.abs (K, N) key = false ∧ hasT r.abs (K, N) = 1) ∨ (fieldT r.abs (K, N) key = 4 ∧ hasB r.abs (K, N) key = false ∧ hasT r.abs (K, N) = 0) ∨ (fieldT r.abs (K, N) key = 0 ∧ hasB r.abs (K, N) key = true ∧ hasT r.abs (K, N) = 0) := by
    unfold fieldT hasB hasT
    cases r.abs.obAt (K, N) 7 with
    | none => exact .inl ⟨rfl, rfl, rfl⟩
    | some i =>
      unfold fldT
      simp only
      cases (r.abs.objs.getD i ob0).keys.idxOf? key with
      | none => exact .inr (.inl ⟨rfl, rfl, by first | trivial | rfl⟩)
      | some j => exact .inr (.inr ⟨rfl, rfl, by first | trivial | rfl⟩)
  clear hfv
  rcases hcase with ⟨h1, h2, h3⟩ | ⟨h1, h2, h3⟩ | ⟨h1, h2, h3⟩
  all_goals
    rw [h2, h3]
    rw [h1] at hfield
    replace hfield := Fact.mk hfield
    clear h1 h2 h3
    go_enter Tryz.func59, Tryz.ntmps59
    go_upto_region 1 with (fail)
    have hm1 := (hm.alloc (.cells [.int .i64 K, .int .i64 N].toArray 35))
    generalize hgb : w.heap.size = gb at hm1 ⊢
    generalize hw1 : (w.alloc (.cells [.int .i64 K, .int .i64 N].toArray 35)) = w1 at hm1
    try refine wp_world hw1 ?_
    clear hw1 hgb
    go_wp2_with (refine wp_rng rfl 35 _ rfl gb 0 rfl (cV (K, N)) (rng_blk hm1 m0) row_V sz_V ?_)
    refine (hfield.out w1 _ hm1.swap).mono ?_
    rintro e w2 ⟨rfl, hm2⟩
    clear hm1
    go_wp2_with (refine wp_setrow rfl 35 _ _ rfl w2.heap.size rfl 35 _ (cV fv) rfl (hm2.alloc _) sz_V rfl (cV_one fv) ?_; intro w3 hm3)
    go_ret2
    exact ⟨rfl, hm3.tail.drop2⟩
end Go.Proofs.YtpibchjkmaghnaaGreat
namespace Go.Proofs.YtpibchjkmaghnaaGreat
open Go.RowKit Go.Mm
set_option maxHeartbeats 1000000
set_option maxRecDepth 100000
set_option linter.unusedSimpArgs false
theorem refSetF_ok (w0 w : World) (L : List Chunk) (r : Rf) (hm : Mem w0 w (RfC r :: L)) (hok : Fact r.Ok) (hg : Fact r.abs.Good) (K N key X Y : Int) :
    Calls Tryz.prog 58 #[.pointer (some ⟨r.g, 0, none⟩), .agg #[.int .i64 K, .int .i64 N], .int .i64 key, .agg #[.int .i64 X, .int .i64 Y]] w fun e w' => e = .returned (.tuple #[.int .i64 (setFT r.abs (K, N) key), .bool (setFB r.abs (K, N) key)]) ∧ RfQ w0 L r.g (setFS r.abs (K, N) key (X, Y)) w' := by
  obtain ⟨iV, hiV, hz0, hz1, hz2⟩ := info_parts inf_V
  obtain ⟨iI, hiI, yz0, yz1, yz2⟩ := info_parts inf_I
  have his := fun (w1 : World) (L1 : List Chunk) (hm1 : Mem w0 w1 L1) (hh : RfC r ∈ L1) => refIs_ok w0 w1 L1 r hm1 hh hok hg K N 7
  unfold setFT setFB setFS
  cases hob : r.abs.obAt (K, N) 7 with
  | none =>
    rw [hob] at his
    simp only [Option.isSome] at his
    replace his := Fact.mk his
    go_enter Tryz.func58, Tryz.ntmps58
    go_upto_region 1 with (fail)
    have hm1 := ((hm.alloc (.cells [.int .i64 K, .int .i64 N].toArray 35)).alloc (.cells [.int .i64 X, .int .i64 Y].toArray 35))
    simp only [World.size_alloc] at hm1
    generalize hgb : w.heap.size = gb at hm1 ⊢
    generalize hw1 : ((w.alloc (.cells [.int .i64 K, .int .i64 N].toArray 35)).alloc (.cells [.int .i64 X, .int .i64 Y].toArray 35)) = w1 at hm1
    try refine wp_world hw1 ?_
    clear hw1 hgb
    go_wp2_with (refine wp_rng rfl 35 _ rfl gb 0 rfl (cV (K, N)) (rng_blk hm1 m1) row_V sz_V ?_)
    refine (his.out w1 _ hm1 m2).mono ?_
    rintro e w2 ⟨rfl, hg2⟩
    have hm2 := hm1.gr hg2
    clear hm1 hg2
    go_wp2
    go_ret2
    exact ⟨rfl, r, rfl, rfl, hok.out, hm2.tail.tail⟩
  | some i =>
    have hri : i < r.abs.objs.length := (Hs.obAt_lt hob).1
    rw [hob] at his
    simp only [Option.isSome] at his
    replace his := Fact.mk his
    have hkd7 := (Hs.obAt_lt hob).2.2.2
    obtain ⟨hi, hN, hK, hkd⟩ := Hs.obAt_lt hob
    rw [r.abs_len] at hi
    simp only at hN hK
    subst hN
    clear hK hkd
    simp only [r.at_abs hi]
    have hsz := hok.out.each (r.xs.getD i ro0) (by rw [List.getD_eq_getElem?_getD, List.getElem?_eq_getElem hi]; exact List.getElem_mem hi)
    obtain ⟨t, ht⟩ : ∃ t, r.xs.getD i ro0 = t := ⟨_, rfl⟩
    have hto : r.abs.objs.getD i ob0 = t.ob := by rw [r.at_abs hi, ht]
    rw [ht] at hsz ⊢
    rw [hto] at hkd7
    have hgo := hg.out t.ob (by rw [← hto, List.getD_eq_getElem?_getD, List.getElem?_eq_getElem (by rw [r.abs_len]; exact hi)]; exact List.getElem_mem _)
    have hkl := hgo.keys hkd7
    replace ht := Fact.mk ht
    replace hto := Fact.mk hto
    replace hgo := Fact.mk hgo
    replace hkd7 := Fact.mk hkd7
    replace hkl := Fact.mk hkl
    have hspend := fun (w1 : World) (L1 : List Chunk) (hm1 : Mem w0 w1 (RfC r :: L1)) => refSpend_ok w0 w1 L1 r hm1 hok 2
    unfold Hs.spend at hspend
    cases hidx : t.ob.keys.idxOf? key with
    | some j =>
      have hfi : Fact (findI t.ob.keys key = (j : Nat)) := ⟨by unfold findI; rw [hidx]⟩
      have hj : j < t.ob.items.length := by rw [← hkl.out]; exact idx_lt hidx
      have hj' : ((0 : Int) ≤ (j : Int)) = True := eq_true (by omega)
      obtain ⟨its, hits⟩ : ∃ its, t.ob.items.set j (X, Y) = its := ⟨_, rfl⟩
      have hpl := Fact.mk (show its.length = t.ob.items.length by rw [← hits, List.length_set])
      simp only
      rw [hits]
      replace hits := Fact.mk hits
      clear hidx
      go_enter Tryz.func58, Tryz.ntmps58
      go_upto_region 1 with (fail)
      have hm1 := ((hm.alloc (.cells [.int .i64 K, .int .i64 (i : Int)].toArray 35)).alloc (.cells [.int .i64 X, .int .i64 Y].toArray 35))
      simp only [World.size_alloc] at hm1
      generalize hgb : w.heap.size = gb at hm1 ⊢
      generalize hw1 : ((w.alloc (.cells [.int .i64 K, .int .i64 (i : Int)].toArray 35)).alloc (.cells [.int .i64 X, .int .i64 Y].toArray 35)) = w1 at hm1
      try refine wp_world hw1 ?_
      clear hw1 hgb
      go_wp2_with (refine wp_rng rfl 35 _ rfl gb 0 rfl (cV (K, (i : Int))) (rng_blk hm1 m1) row_V sz_V ?_)
      refine (his.out w1 _ hm1 m2).mono ?_
      rintro e w2 ⟨rfl, hg2⟩
      have hm2 := hm1.gr hg2
      clear hm1 hg2
      go_upto_region 3 with (fail)
      obtain ⟨b, o, hA⟩ : ∃ b o, r.A = some ⟨b, o, none⟩ := by
        obtain ⟨_, _, _, hobs⟩ := Rf.read hm2 m2
        obtain ⟨b, o, hA, _⟩ := hobs.at i hi
        exact ⟨b, o, hA⟩
      go_cut [10] (fun s8 W => ∃ (g8 : Nat) (y : RO), s8 = .pointer (some ⟨g8, 0, none⟩) ∧ y.ob = t.ob ∧ Mem w0 W (Blk g8 (.cells (cRO y).toArray 41) :: RoC y :: Blk (gb + 1) (.cells [.int .i64 X, .int .i64 Y].toArray 35) :: Blk gb (.cells [.int .i64 K, .int .i64 (i : Int)].toArray 35) :: RfC r :: L))
      case first =>
        have hm3 := hm2.drew
        have hS : w2.drew.cell? ⟨r.g, 2, none⟩ = some (.slice (some ⟨b, o, none⟩) r.xs.length r.c) ∧ w2.drew.cell? ⟨gb, 1, none⟩ = some (.int .i64 (i : Int)) ∧ w2.drew.rangeAt b (o + i * 6) (cRO t) := ⟨(Rf.readX hm3 m2 hi ht.out hA).1, hm3.cell m1 1 rfl, (Rf.readX hm3 m2 hi ht.out hA).2.1⟩
        refine wp_region_until (S := fun W => W.cell? ⟨r.g, 2, none⟩ = some (.slice (some ⟨b, o, none⟩) r.xs.length r.c) ∧ W.cell? ⟨gb, 1, none⟩ = some (.int .i64 (i : Int)) ∧ W.rangeAt b (o + i * 6) (cRO t)) 10 (by kernel_rfl) ?_
        generalize w2.drew = w3 at hm3 hS ⊢
        refine wpAnyU_take 0 (v := ?vsa1x0) rfl (by kernel_rfl) (by kernel_rfl) (fun _ _ _ h => h) hS (Or.inl ⟨rfl, ?ysa1x0⟩) ?rsa1x0
        case ysa1x0 =>
          intro W hW
          obtain ⟨hW0, hW1, hW2⟩ := hW
          go_simp
          try with_reducible rfl
        try simp only [Act.put, List.getElem_toArray, List.getElem_cons_succ, List.getElem_cons_zero, List.setIfInBounds_toArray, List.set_cons_zero, List.set_cons_succ]
        refine wpAnyU_take 1 (v := ?vsa1x1) rfl (by kernel_rfl) (by kernel_rfl) (fun _ _ _ h => h) hS (Or.inl ⟨rfl, ?ysa1x1⟩) ?rsa1x1
        case ysa1x1 =>
          intro W hW
          obtain ⟨hW0, hW1, hW2⟩ := hW
          go_simp
          try with_reducible rfl
        try simp only [Act.put, List.getElem_toArray, List.getElem_cons_succ, List.getElem_cons_zero, List.setIfInBounds_toArray, List.set_cons_zero, List.set_cons_succ]
        refine wpAnyU_take 2 (v := ?vsa1x2) rfl (by kernel_rfl) (by kernel_rfl) (fun _ _ _ h => h) hS (Or.inl ⟨rfl, ?ysa1x2⟩) ?rsa1x2
        case ysa1x2 =>
          intro W hW
          obtain ⟨hW0, hW1, hW2⟩ := hW
          go_simp
          try with_reducible rfl
        try simp only [Act.put, List.getElem_toArray, List.getElem_cons_succ, List.getElem_cons_zero, List.setIfInBounds_toArray, List.set_cons_zero, List.set_cons_succ]
        refine wpAnyU_take 3 (v := ?vsa1x3) rfl (by kernel_rfl) (by kernel_rfl) (fun _ _ _ h => h) hS (Or.inl ⟨rfl, ?ysa1x3⟩) ?rsa1x3
        case ysa1x3 =>
          intro W hW
          obtain ⟨hW0, hW1, hW2⟩ := hW
          go_simp
          try with_reducible rfl
        try simp only [Act.put, List.getElem_toArray, List.getElem_cons_succ, List.getElem_cons_zero, List.setIfInBounds_toArray, List.set_cons_zero, List.set_cons_succ]
        refine wpAnyU_take 4 (v := ?vsa1x4) rfl (by kernel_rfl) (by kernel_rfl) (fun _ _ _ h => h) hS (Or.inl ⟨rfl, ?ysa1x4⟩) ?rsa1x4
        case ysa1x4 =>
          intro W hW
          obtain ⟨hW0, hW1, hW2⟩ := hW
          go_simp
          try with_reducible rfl
        try simp only [Act.put, List.getElem_toArray, List.getElem_cons_succ, List.getElem_cons_zero, List.setIfInBounds_toArray, List.set_cons_zero, List.set_cons_succ]
        refine wpAnyU_take 5 (v := ?vsa1x5) rfl (by kernel_rfl) (by kernel_rfl) (fun _ _ _ h => h) hS (Or.inl ⟨rfl, ?ysa1x5⟩) ?rsa1x5
        case ysa1x5 =>
          intro W hW
          obtain ⟨hW0, hW1, hW2⟩ := hW
          go_simp
          try with_reducible rfl
        try simp only [Act.put, List.getElem_toArray, List.getElem_cons_succ, List.getElem_cons_zero, List.setIfInBounds_toArray, List.set_cons_zero, List.set_cons_succ]
        refine wpAnyU_take 6 (v := ?vsa1x6) rfl (by kernel_rfl) (by kernel_rfl) (fun _ _ _ h => h) hS (Or.inl ⟨rfl, ?ysa1x6⟩) ?rsa1x6
        case ysa1x6 =>
          intro W hW
          obtain ⟨hW0, hW1, hW2⟩ := hW
          go_simp
          try with_reducible rfl
        try simp only [Act.put, List.getElem_toArray, List.getElem_cons_succ, List.getElem_cons_zero, List.setIfInBounds_toArray, List.set_cons_zero, List.set_cons_succ]
        refine wpAnyU_take 7 (v := .agg (cRO t).toArray) rfl (by kernel_rfl) (by kernel_rfl) (fun _ _ _ h => h) hS (Or.inl ⟨rfl, ?ysa1xz⟩) ?rsa1xz
        case ysa1xz =>
          intro W hW
          exact run_rng 41 _ rfl b (o + i * 6) rfl (cRO t) hW.2.2 row_O sz_O
        try simp only [Act.put, List.getElem_toArray, List.getElem_cons_succ, List.getElem_cons_zero, List.setIfInBounds_toArray, List.set_cons_zero, List.set_cons_succ]
        refine wpAnyU_two 8 9 (by kernel_rfl) rfl rfl (fun K hK => ?_) (fun K hK => ?_)
        · refine step_call rfl 44 Tryz.f44 Tryz.func44 (by kernel_rfl) (by kernel_rfl) _ _ rfl #[.agg (cRO t).toArray] (by simp [Act.eval]) ?_
          refine (copyObject_ok w0 _ _ hm3 t ⟨(Rf.readX hm3 m2 hi ht.out hA).2.2⟩ (by omega) (by omega)).mono ?_
          rintro e wk ⟨y, rfl, hy, hm4⟩
          refine ⟨_, rfl, ?_⟩
          replace hy := Fact.mk hy
          refine hK _ _ (fun _ => ⟨(Rf.readX hm4 m3 hi ht.out hA).1, hm4.cell m2 1 rfl, (Rf.readX hm4 m3 hi ht.out hA).2.1⟩) ?_
          clear hK K
          try simp only [Act.put, List.getElem_toArray, List.getElem_cons_succ, List.getElem_cons_zero, List.setIfInBounds_toArray, List.set_cons_zero, List.set_cons_succ]
          refine wpAnyU_one 9 (by kernel_rfl) rfl (fun K hK => ?_)
          go_simp
          have hm5 := hm4.alloc (.cells (obC 0 none 0 0 none 0 0 0 0 false).toArray 41)
          refine hK _ _ (fun _ => ⟨(Rf.readX hm5 m4 hi ht.out hA).1, hm5.cell m3 1 rfl, (Rf.readX hm5 m4 hi ht.out hA).2.1⟩) ?_
          clear hK K
          try simp only [Act.put, List.getElem_toArray, List.getElem_cons_succ, List.getElem_cons_zero, List.setIfInBounds_toArray, List.set_cons_zero, List.set_cons_succ]
          refine wpAnyU_one 10 (by kernel_rfl) rfl (fun K hK => ?_)
          refine step_setrow rfl 41 _ _ rfl _ rfl 41 _ (cRO y) rfl hm5 sz_O rfl (cRO_one y) ?_
          intro w9 hm9
          refine hK _ _ (fun h => absurd h (by decide)) ?_
          clear hK K
          try simp only [Act.put, List.getElem_toArray, List.getElem_cons_succ, List.getElem_cons_zero, List.setIfInBounds_toArray, List.set_cons_zero, List.set_cons_succ]
          refine wpAnyU_done (by kernel_rfl) ?_ _
          go_wp2
          try simp only [Act.put, List.getElem_toArray, List.getElem_cons_succ, List.getElem_cons_zero, List.setIfInBounds_toArray, List.set_cons_succ, List.set_cons_zero]
          go_meet
          case rel => exact ⟨_, y, rfl, hy.out, hm9⟩
        · go_simp
          have hm4 := hm3.alloc (.cells (obC 0 none 0 0 none 0 0 0 0 false).toArray 41)
          refine hK _ _ (fun _ => ⟨(Rf.readX hm4 m3 hi ht.out hA).1, hm4.cell m2 1 rfl, (Rf.readX hm4 m3 hi ht.out hA).2.1⟩) ?_
          clear hK K
          try simp only [Act.put, List.getElem_toArray, List.getElem_cons_succ, List.getElem_cons_zero, List.setIfInBounds_toArray, List.set_cons_zero, List.set_cons_succ]
          refine wpAnyU_one 8 (by kernel_rfl) rfl (fun K hK => ?_)
          refine step_call rfl 44 Tryz.f44 Tryz.func44 (by kernel_rfl) (by kernel_rfl) _ _ rfl #[.agg (cRO t).toArray] (by simp [Act.eval]) ?_
          refine (copyObject_ok w0 _ _ hm4 t ⟨(Rf.readX hm4 m3 hi ht.out hA).2.2⟩ (by omega) (by omega)).mono ?_
          rintro e wk ⟨y, rfl, hy, hm5⟩
          refine ⟨_, rfl, ?_⟩
          replace hy := Fact.mk hy
          refine hK _ _ (fun _ => ⟨(Rf.readX hm5 m4 hi ht.out hA).1, hm5.cell m3 1 rfl, (Rf.readX hm5 m4 hi ht.out hA).2.1⟩) ?_
          clear hK K
          try simp only [Act.put, List.getElem_toArray, List.getElem_cons_succ, List.getElem_cons_zero, List.setIfInBounds_toArray, List.set_cons_zero, List.set_cons_succ]
          refine wpAnyU_one 10 (by kernel_rfl) rfl (fun K hK => ?_)
          refine step_setrow rfl 41 _ _ rfl _ rfl 41 _ (cRO y) rfl hm5.swap sz_O rfl (cRO_one y) ?_
          intro w9 hm9
          refine hK _ _ (fun h => absurd h (by decide)) ?_
          clear hK K
          try simp only [Act.put, List.getElem_toArray, List.getElem_cons_succ, List.getElem_cons_zero, List.setIfInBounds_toArray, List.set_cons_zero, List.set_cons_succ]
          refine wpAnyU_done (by kernel_rfl) ?_ _
          go_wp2
          try simp only [Act.put, List.getElem_toArray, List.getElem_cons_succ, List.getElem_cons_zero, List.setIfInBounds_toArray, List.set_cons_succ, List.set_cons_zero]
          go_meet
          case rel => exact ⟨_, y, rfl, hy.out, hm9⟩
      case rest =>
        obtain ⟨g8, ⟨yA, yc, yK, ykc, yo⟩, rfl, hy, hmc⟩ := hcut
        obtain rfl : yo = t.ob := hy
        clear hm2 hA
        have s2 := hmc.cell m0 2 rfl
        simp only at s2
        have hks := (RoC.reads (hmc.ok _ m1)).2
        simp only at hks
        go_wp2_with fail
        refine (find_ok wc yK t.ob.keys.length ykc t.ob.keys ⟨hks⟩ (by omega) key).mono ?_
        rintro e wf ⟨rfl, rfl⟩
        rw [hfi.out]
        clear hks
        clear s2
        have hmo : Mem w0 wf (Own 2 (.slice yA t.ob.items.length yc) (fV t.ob.items) :: Own 1 (.slice yK t.ob.keys.length ykc) (nums .i64 t.ob.keys) :: Blk g8 (.cells (obC t.ob.kind yA t.ob.items.length yc yK t.ob.keys.length ykc t.ob.fn t.ob.cap t.ob.shut).toArray 41) :: Blk (gb + 1) (.cells [.int .i64 X, .int .i64 Y].toArray 35) :: Blk gb (.cells [.int .i64 K, .int .i64 (i : Int)].toArray 35) :: RfC r :: L) := Mem.opn hmc.swap
        clear hmc
        obtain ⟨b4, o4, hA4⟩ := OwnAt.addr (hmo.ok _ m0) (by have := OwnAt.cap (hmo.ok _ m0); omega)
        subst hA4
        have s1 := hmo.cell m2 1 rfl
        have x0 := hmo.cell m3 0 rfl
        have x1 := hmo.cell m3 1 rfl
        have e5 : (fV t.ob.items).take (j * 2) ++ [.int .i64 X, .int .i64 Y] ++ (fV t.ob.items).drop (j * 2 + 2) = fV its := by rw [← hits.out]; exact fV_set t.ob.items j (X, Y) hj
        replace e5 := Fact.mk e5
        go_upto_region 7 with (first | (refine wp_rng rfl 35 _ rfl (gb + 1) 0 rfl [.int .i64 X, .int .i64 Y] (rng_blk hmo m3) row_V sz_V ?_) | (refine wp_ownrow rfl 35 _ _ rfl (o4 + j * 2) (j * 2) rfl rfl [.int .i64 X, .int .i64 Y] rfl hmo sz_V (by rw [fV_len]; simp; omega) (cV_one (X, Y)) ?_; intro w5 hm5))
        obtain ⟨y', hy'⟩ : ∃ y' : RO, y' = ⟨some ⟨b4, o4, none⟩, yc, yK, ykc, { t.ob with items := its }⟩ := ⟨_, rfl⟩
        have hm7 : Mem w0 w5 (RfC r :: RoC y' :: Blk g8 (.cells (cRO y').toArray 41) :: Blk (gb + 1) (.cells [.int .i64 X, .int .i64 Y].toArray 35) :: Blk gb (.cells [.int .i64 K, .int .i64 (i : Int)].toArray 35) :: L) := by
          have h1 : Mem w0 w5 (Own 2 (.slice (some ⟨b4, o4, none⟩) its.length yc) (fV its) :: Own 1 (.slice yK t.ob.keys.length ykc) (nums .i64 t.ob.keys) :: Blk g8 (.cells (obC t.ob.kind (some ⟨b4, o4, none⟩) its.length yc yK t.ob.keys.length ykc t.ob.fn t.ob.cap t.ob.shut).toArray 41) :: Blk (gb + 1) (.cells [.int .i64 X, .int .i64 Y].toArray 35) :: Blk gb (.cells [.int .i64 K, .int .i64 (i : Int)].toArray 35) :: RfC r :: L) := by rw [hpl.out, ← e5.out]; exact hm5
          have h2 := roC_mem ⟨some ⟨b4, o4, none⟩, yc, yK, ykc, { t.ob with items := its }⟩ h1
          rw [← hy'] at h2
          rw [show (obC t.ob.kind (some ⟨b4, o4, none⟩) its.length yc yK t.ob.keys.length ykc t.ob.fn t.ob.cap t.ob.shut) = cRO y' by rw [hy']; rfl] at h2
          exact h2.pull4
        have hyo : y'.ob = { t.ob with items := its } := by rw [hy']
        have hysz : y'.ob.items.length ≤ 1048576 ∧ y'.ob.keys.length ≤ 1048576 := by rw [hyo]; simp only [hpl.out]; omega
        replace hyo := Fact.mk hyo
        clear hm5 hmo hy' s1 e5 x0 x1
        go_upto_region 7 with (fail)
        have hm8 := Rf.opn (hm7.drew) i hi
        clear hm7
        obtain ⟨b8, o8, hA8⟩ := OwnAt.addr (hm8.ok _ m1) (by have := OwnAt.cap (hm8.ok _ m1); omega)
        have c2 := hm8.cell m0 2 rfl
        rw [hA8] at c2
        have d1 := hm8.cell (.tail _ (.tail _ (.tail _ (List.mem_append_right _ (.tail _ (.tail _ (.tail _ (.head _)))))))) 1 rfl
        have ry := rng_blk hm8 (.tail _ (.tail _ (.tail _ (List.mem_append_right _ (.tail _ (.head _))))))
        refine wp_region_still_tail 7 (by kernel_rfl) (by kernel_rfl) ?_
        simp only [List.take_succ_cons, List.take_zero, List.drop_succ_cons, List.drop_zero]
        repeat (first | still_step | (refine still_rng rfl 41 _ rfl g8 0 rfl (cRO y') ry row_O sz_O ?_))
        refine wpStill_nil ?_
        have hm9 := hm8.swap
        rw [hA8] at hm9
        clear hm8 c2 d1 ry
        have hfs := flat_set r.xs i hi y' 0 (cRO y') (by rw [cRO_len]; omega) (by rw [cRO_len]; simp [cRO, obC])
        replace hfs := Fact.mk hfs
        go_upto_region 8 with (refine wp_ownat rfl 41 _ _ rfl (o8 + i * 6) (i * 6 + 0) (by omega) rfl (cRO y') _ rfl rfl hm9 sz_O (by rw [flat_len, cRO_len]; omega) (cRO_one y') ?_; intro w9 hm10)
        rw [← hA8] at hm10
        have hz := Rf.put_all i hi _ y' _ hfs.out hm10
        go_wp2
        go_ret2
        exact ⟨rfl, r.upd i y', rfl, by rw [Rf.upd_abs, hyo.out], Rf.upd_ok hok.out i y' hysz, hz.drop2.drop2.drop2⟩
    | none =>
      have hfi : Fact (findI t.ob.keys key = -1) := ⟨by unfold findI; rw [hidx]⟩
      simp only
      clear hidx
      by_cases q0 : 256 ≤ t.ob.keys.length
      · have q0' : decide ((t.ob.keys.length : Int) ≥ 256) = true := decide_eq_true (by omega)
        rw [if_pos q0, if_pos q0, if_pos q0]
        go_enter Tryz.func58, Tryz.ntmps58
        go_upto_region 1 with (fail)
        have hm1 := ((hm.alloc (.cells [.int .i64 K, .int .i64 (i : Int)].toArray 35)).alloc (.cells [.int .i64 X, .int .i64 Y].toArray 35))
        simp only [World.size_alloc] at hm1
        generalize hgb : w.heap.size = gb at hm1 ⊢
        generalize hw1 : ((w.alloc (.cells [.int .i64 K, .int .i64 (i : Int)].toArray 35)).alloc (.cells [.int .i64 X, .int .i64 Y].toArray 35)) = w1 at hm1
        try refine wp_world hw1 ?_
        clear hw1 hgb
        go_wp2_with (refine wp_rng rfl 35 _ rfl gb 0 rfl (cV (K, (i : Int))) (rng_blk hm1 m1) row_V sz_V ?_)
        refine (his.out w1 _ hm1 m2).mono ?_
        rintro e w2 ⟨rfl, hg2⟩
        have hm2 := hm1.gr hg2
        clear hm1 hg2
        go_upto_region 3 with (fail)
        obtain ⟨b, o, hA⟩ : ∃ b o, r.A = some ⟨b, o, none⟩ := by
          obtain ⟨_, _, _, hobs⟩ := Rf.read hm2 m2
          obtain ⟨b, o, hA, _⟩ := hobs.at i hi
          exact ⟨b, o, hA⟩
        go_cut [10] (fun s8 W => ∃ (g8 : Nat) (y : RO), s8 = .pointer (some ⟨g8, 0, none⟩) ∧ y.ob = t.ob ∧ Mem w0 W (Blk g8 (.cells (cRO y).toArray 41) :: RoC y :: Blk (gb + 1) (.cells [.int .i64 X, .int .i64 Y].toArray 35) :: Blk gb (.cells [.int .i64 K, .int .i64 (i : Int)].toArray 35) :: RfC r :: L))
        case first =>
          have hm3 := hm2.drew
          have hS : w2.drew.cell? ⟨r.g, 2, none⟩ = some (.slice (some ⟨b, o, none⟩) r.xs.length r.c) ∧ w2.drew.cell? ⟨gb, 1, none⟩ = some (.int .i64 (i : Int)) ∧ w2.drew.rangeAt b (o + i * 6) (cRO t) := ⟨(Rf.readX hm3 m2 hi ht.out hA).1, hm3.cell m1 1 rfl, (Rf.readX hm3 m2 hi ht.out hA).2.1⟩
          refine wp_region_until (S := fun W => W.cell? ⟨r.g, 2, none⟩ = some (.slice (some ⟨b, o, none⟩) r.xs.length r.c) ∧ W.cell? ⟨gb, 1, none⟩ = some (.int .i64 (i : Int)) ∧ W.rangeAt b (o + i * 6) (cRO t)) 10 (by kernel_rfl) ?_
          generalize w2.drew = w3 at hm3 hS ⊢
          refine wpAnyU_take 0 (v := ?vsa2x0) rfl (by kernel_rfl) (by kernel_rfl) (fun _ _ _ h => h) hS (Or.inl ⟨rfl, ?ysa2x0⟩) ?rsa2x0
          case ysa2x0 =>
            intro W hW
            obtain ⟨hW0, hW1, hW2⟩ := hW
            go_simp
            try with_reducible rfl
          try simp only [Act.put, List.getElem_toArray, List.getElem_cons_succ, List.getElem_cons_zero, List.setIfInBounds_toArray, List.set_cons_zero, List.set_cons_succ]
          refine wpAnyU_take 1 (v := ?vsa2x1) rfl (by kernel_rfl) (by kernel_rfl) (fun _ _ _ h => h) hS (Or.inl ⟨rfl, ?ysa2x1⟩) ?rsa2x1
          case ysa2x1 =>
            intro W hW
            obtain ⟨hW0, hW1, hW2⟩ := hW
            go_simp
            try with_reducible rfl
          try simp only [Act.put, List.getElem_toArray, List.getElem_cons_succ, List.getElem_cons_zero, List.setIfInBounds_toArray, List.set_cons_zero, List.set_cons_succ]
          refine wpAnyU_take 2 (v := ?vsa2x2) rfl (by kernel_rfl) (by kernel_rfl) (fun _ _ _ h => h) hS (Or.inl ⟨rfl, ?ysa2x2⟩) ?rsa2x2
          case ysa2x2 =>
            intro W hW
            obtain ⟨hW0, hW1, hW2⟩ := hW
            go_simp
            try with_reducible rfl
          try simp only [Act.put, List.getElem_toArray, List.getElem_cons_succ, List.getElem_cons_zero, List.setIfInBounds_toArray, List.set_cons_zero, List.set_cons_succ]
          refine wpAnyU_take 3 (v := ?vsa2x3) rfl (by kernel_rfl) (by kernel_rfl) (fun _ _ _ h => h) hS (Or.inl ⟨rfl, ?ysa2x3⟩) ?rsa2x3
          case ysa2x3 =>
            intro W hW
            obtain ⟨hW0, hW1, hW2⟩ := hW
            go_simp
            try with_reducible rfl
          try simp only [Act.put, List.getElem_toArray, List.getElem_cons_succ, List.getElem_cons_zero, List.setIfInBounds_toArray, List.set_cons_zero, List.set_cons_succ]
          refine wpAnyU_take 4 (v := ?vsa2x4) rfl (by kernel_rfl) (by kernel_rfl) (fun _ _ _ h => h) hS (Or.inl ⟨rfl, ?ysa2x4⟩) ?rsa2x4
          case ysa2x4 =>
            intro W hW
            obtain ⟨hW0, hW1, hW2⟩ := hW
            go_simp
            try with_reducible rfl
          try simp only [Act.put, List.getElem_toArray, List.getElem_cons_succ, List.getElem_cons_zero, List.setIfInBounds_toArray, List.set_cons_zero, List.set_cons_succ]
          refine wpAnyU_take 5 (v := ?vsa2x5) rfl (by kernel_rfl) (by kernel_rfl) (fun _ _ _ h => h) hS (Or.inl ⟨rfl, ?ysa2x5⟩) ?rsa2x5
          case ysa2x5 =>
            intro W hW
            obtain ⟨hW0, hW1, hW2⟩ := hW
            go_simp
            try with_reducible rfl
          try simp only [Act.put, List.getElem_toArray, List.getElem_cons_succ, List.getElem_cons_zero, List.setIfInBounds_toArray, List.set_cons_zero, List.set_cons_succ]
          refine wpAnyU_take 6 (v := ?vsa2x6) rfl (by kernel_rfl) (by kernel_rfl) (fun _ _ _ h => h) hS (Or.inl ⟨rfl, ?ysa2x6⟩) ?rsa2x6
          case ysa2x6 =>
            intro W hW
            obtain ⟨hW0, hW1, hW2⟩ := hW
            go_simp
            try with_reducible rfl
          try simp only [Act.put, List.getElem_toArray, List.getElem_cons_succ, List.getElem_cons_zero, List.setIfInBounds_toArray, List.set_cons_zero, List.set_cons_succ]
          refine wpAnyU_take 7 (v := .agg (cRO t).toArray) rfl (by kernel_rfl) (by kernel_rfl) (fun _ _ _ h => h) hS (Or.inl ⟨rfl, ?ysa2xz⟩) ?rsa2xz
          case ysa2xz =>
            intro W hW
            exact run_rng 41 _ rfl b (o + i * 6) rfl (cRO t) hW.2.2 row_O sz_O
          try simp only [Act.put, List.getElem_toArray, List.getElem_cons_succ, List.getElem_cons_zero, List.setIfInBounds_toArray, List.set_cons_zero, List.set_cons_succ]
          refine wpAnyU_two 8 9 (by kernel_rfl) rfl rfl (fun K hK => ?_) (fun K hK => ?_)
          · refine step_call rfl 44 Tryz.f44 Tryz.func44 (by kernel_rfl) (by kernel_rfl) _ _ rfl #[.agg (cRO t).toArray] (by simp [Act.eval]) ?_
            refine (copyObject_ok w0 _ _ hm3 t ⟨(Rf.readX hm3 m2 hi ht.out hA).2.2⟩ (by omega) (by omega)).mono ?_
            rintro e wk ⟨y, rfl, hy, hm4⟩
            refine ⟨_, rfl, ?_⟩
            replace hy := Fact.mk hy
            refine hK _ _ (fun _ => ⟨(Rf.readX hm4 m3 hi ht.out hA).1, hm4.cell m2 1 rfl, (Rf.readX hm4 m3 hi ht.out hA).2.1⟩) ?_
            clear hK K
            try simp only [Act.put, List.getElem_toArray, List.getElem_cons_succ, List.getElem_cons_zero, List.setIfInBounds_toArray, List.set_cons_zero, List.set_cons_succ]
            refine wpAnyU_one 9 (by kernel_rfl) rfl (fun K hK => ?_)
            go_simp
            have hm5 := hm4.alloc (.cells (obC 0 none 0 0 none 0 0 0 0 false).toArray 41)
            refine hK _ _ (fun _ => ⟨(Rf.readX hm5 m4 hi ht.out hA).1, hm5.cell m3 1 rfl, (Rf.readX hm5 m4 hi ht.out hA).2.1⟩) ?_
            clear hK K
            try simp only [Act.put, List.getElem_toArray, List.getElem_cons_succ, List.getElem_cons_zero, List.setIfInBounds_toArray, List.set_cons_zero, List.set_cons_succ]
            refine wpAnyU_one 10 (by kernel_rfl) rfl (fun K hK => ?_)
            refine step_setrow rfl 41 _ _ rfl _ rfl 41 _ (cRO y) rfl hm5 sz_O rfl (cRO_one y) ?_
            intro w9 hm9
            refine hK _ _ (fun h => absurd h (by decide)) ?_
            clear hK K
            try simp only [Act.put, List.getElem_toArray, List.getElem_cons_succ, List.getElem_cons_zero, List.setIfInBounds_toArray, List.set_cons_zero, List.set_cons_succ]
            refine wpAnyU_done (by kernel_rfl) ?_ _
            go_wp2
            try simp only [Act.put, List.getElem_toArray, List.getElem_cons_succ, List.getElem_cons_zero, List.setIfInBounds_toArray, List.set_cons_succ, List.set_cons_zero]
            go_meet
            case rel => exact ⟨_, y, rfl, hy.out, hm9⟩
          · go_simp
            have hm4 := hm3.alloc (.cells (obC 0 none 0 0 none 0 0 0 0 false).toArray 41)
            refine hK _ _ (fun _ => ⟨(Rf.readX hm4 m3 hi ht.out hA).1, hm4.cell m2 1 rfl, (Rf.readX hm4 m3 hi ht.out hA).2.1⟩) ?_
            clear hK K
            try simp only [Act.put, List.getElem_toArray, List.getElem_cons_succ, List.getElem_cons_zero, List.setIfInBounds_toArray, List.set_cons_zero, List.set_cons_succ]
            refine wpAnyU_one 8 (by kernel_rfl) rfl (fun K hK => ?_)
            refine step_call rfl 44 Tryz.f44 Tryz.func44 (by kernel_rfl) (by kernel_rfl) _ _ rfl #[.agg (cRO t).toArray] (by simp [Act.eval]) ?_
            refine (copyObject_ok w0 _ _ hm4 t ⟨(Rf.readX hm4 m3 hi ht.out hA).2.2⟩ (by omega) (by omega)).mono ?_
            rintro e wk ⟨y, rfl, hy, hm5⟩
            refine ⟨_, rfl, ?_⟩
            replace hy := Fact.mk hy
            refine hK _ _ (fun _ => ⟨(Rf.readX hm5 m4 hi ht.out hA).1, hm5.cell m3 1 rfl, (Rf.readX hm5 m4 hi ht.out hA).2.1⟩) ?_
            clear hK K
            try simp only [Act.put, List.getElem_toArray, List.getElem_cons_succ, List.getElem_cons_zero, List.setIfInBounds_toArray, List.set_cons_zero, List.set_cons_succ]
            refine wpAnyU_one 10 (by kernel_rfl) rfl (fun K hK => ?_)
            refine step_setrow rfl 41 _ _ rfl _ rfl 41 _ (cRO y) rfl hm5.swap sz_O rfl (cRO_one y) ?_
            intro w9 hm9
            refine hK _ _ (fun h => absurd h (by decide)) ?_
            clear hK K
            try simp only [Act.put, List.getElem_toArray, List.getElem_cons_succ, List.getElem_cons_zero, List.setIfInBounds_toArray, List.set_cons_zero, List.set_cons_succ]
            refine wpAnyU_done (by kernel_rfl) ?_ _
            go_wp2
            try simp only [Act.put, List.getElem_toArray, List.getElem_cons_succ, List.getElem_cons_zero, List.setIfInBounds_toArray, List.set_cons_succ, List.set_cons_zero]
            go_meet
            case rel => exact ⟨_, y, rfl, hy.out, hm9⟩
        case rest =>
          obtain ⟨g8, ⟨yA, yc, yK, ykc, yo⟩, rfl, hy, hmc⟩ := hcut
          obtain rfl : yo = t.ob := hy
          clear hm2 hA
          have s2 := hmc.cell m0 2 rfl
          simp only at s2
          have hks := (RoC.reads (hmc.ok _ m1)).2
          simp only at hks
          go_wp2_with fail
          refine (find_ok wc yK t.ob.keys.length ykc t.ob.keys ⟨hks⟩ (by omega) key).mono ?_
          rintro e wf ⟨rfl, rfl⟩
          rw [hfi.out]
          clear hks
          go_wp2
          go_ret2
          exact ⟨rfl, r, rfl, rfl, hok.out, hmc.tail.tail.tail.tail⟩
      have q0' : decide ((t.ob.keys.length : Int) ≥ 256) = false := decide_eq_false (by omega)
      rw [if_neg q0, if_neg q0, if_neg q0]
      cases hroom : r.abs.room 2 with
      | false =>
        rw [hroom] at hspend
        simp only at hspend
        replace hspend := Fact.mk hspend
        go_enter Tryz.func58, Tryz.ntmps58
        go_upto_region 1 with (fail)
        have hm1 := ((hm.alloc (.cells [.int .i64 K, .int .i64 (i : Int)].toArray 35)).alloc (.cells [.int .i64 X, .int .i64 Y].toArray 35))
        simp only [World.size_alloc] at hm1
        generalize hgb : w.heap.size = gb at hm1 ⊢
        generalize hw1 : ((w.alloc (.cells [.int .i64 K, .int .i64 (i : Int)].toArray 35)).alloc (.cells [.int .i64 X, .int .i64 Y].toArray 35)) = w1 at hm1
        try refine wp_world hw1 ?_
        clear hw1 hgb
        go_wp2_with (refine wp_rng rfl 35 _ rfl gb 0 rfl (cV (K, (i : Int))) (rng_blk hm1 m1) row_V sz_V ?_)
        refine (his.out w1 _ hm1 m2).mono ?_
        rintro e w2 ⟨rfl, hg2⟩
        have hm2 := hm1.gr hg2
        clear hm1 hg2
        go_upto_region 3 with (fail)
        obtain ⟨b, o, hA⟩ : ∃ b o, r.A = some ⟨b, o, none⟩ := by
          obtain ⟨_, _, _, hobs⟩ := Rf.read hm2 m2
          obtain ⟨b, o, hA, _⟩ := hobs.at i hi
          exact ⟨b, o, hA⟩
        go_cut [10] (fun s8 W => ∃ (g8 : Nat) (y : RO), s8 = .pointer (some ⟨g8, 0, none⟩) ∧ y.ob = t.ob ∧ Mem w0 W (Blk g8 (.cells (cRO y).toArray 41) :: RoC y :: Blk (gb + 1) (.cells [.int .i64 X, .int .i64 Y].toArray 35) :: Blk gb (.cells [.int .i64 K, .int .i64 (i : Int)].toArray 35) :: RfC r :: L))
        case first =>
          have hm3 := hm2.drew
          have hS : w2.drew.cell? ⟨r.g, 2, none⟩ = some (.slice (some ⟨b, o, none⟩) r.xs.length r.c) ∧ w2.drew.cell? ⟨gb, 1, none⟩ = some (.int .i64 (i : Int)) ∧ w2.drew.rangeAt b (o + i * 6) (cRO t) := ⟨(Rf.readX hm3 m2 hi ht.out hA).1, hm3.cell m1 1 rfl, (Rf.readX hm3 m2 hi ht.out hA).2.1⟩
          refine wp_region_until (S := fun W => W.cell? ⟨r.g, 2, none⟩ = some (.slice (some ⟨b, o, none⟩) r.xs.length r.c) ∧ W.cell? ⟨gb, 1, none⟩ = some (.int .i64 (i : Int)) ∧ W.rangeAt b (o + i * 6) (cRO t)) 10 (by kernel_rfl) ?_
          generalize w2.drew = w3 at hm3 hS ⊢
          refine wpAnyU_take 0 (v := ?vsa3x0) rfl (by kernel_rfl) (by kernel_rfl) (fun _ _ _ h => h) hS (Or.inl ⟨rfl, ?ysa3x0⟩) ?rsa3x0
          case ysa3x0 =>
            intro W hW
            obtain ⟨hW0, hW1, hW2⟩ := hW
            go_simp
            try with_reducible rfl
          try simp only [Act.put, List.getElem_toArray, List.getElem_cons_succ, List.getElem_cons_zero, List.setIfInBounds_toArray, List.set_cons_zero, List.set_cons_succ]
          refine wpAnyU_take 1 (v := ?vsa3x1) rfl (by kernel_rfl) (by kernel_rfl) (fun _ _ _ h => h) hS (Or.inl ⟨rfl, ?ysa3x1⟩) ?rsa3x1
          case ysa3x1 =>
            intro W hW
            obtain ⟨hW0, hW1, hW2⟩ := hW
            go_simp
            try with_reducible rfl
          try simp only [Act.put, List.getElem_toArray, List.getElem_cons_succ, List.getElem_cons_zero, List.setIfInBounds_toArray, List.set_cons_zero, List.set_cons_succ]
          refine wpAnyU_take 2 (v := ?vsa3x2) rfl (by kernel_rfl) (by kernel_rfl) (fun _ _ _ h => h) hS (Or.inl ⟨rfl, ?ysa3x2⟩) ?rsa3x2
          case ysa3x2 =>
            intro W hW
            obtain ⟨hW0, hW1, hW2⟩ := hW
            go_simp
            try with_reducible rfl
          try simp only [Act.put, List.getElem_toArray, List.getElem_cons_succ, List.getElem_cons_zero, List.setIfInBounds_toArray, List.set_cons_zero, List.set_cons_succ]
          refine wpAnyU_take 3 (v := ?vsa3x3) rfl (by kernel_rfl) (by kernel_rfl) (fun _ _ _ h => h) hS (Or.inl ⟨rfl, ?ysa3x3⟩) ?rsa3x3
          case ysa3x3 =>
            intro W hW
            obtain ⟨hW0, hW1, hW2⟩ := hW
            go_simp
            try with_reducible rfl
          try simp only [Act.put, List.getElem_toArray, List.getElem_cons_succ, List.getElem_cons_zero, List.setIfInBounds_toArray, List.set_cons_zero, List.set_cons_succ]
          refine wpAnyU_take 4 (v := ?vsa3x4) rfl (by kernel_rfl) (by kernel_rfl) (fun _ _ _ h => h) hS (Or.inl ⟨rfl, ?ysa3x4⟩) ?rsa3x4
          case ysa3x4 =>
            intro W hW
            obtain ⟨hW0, hW1, hW2⟩ := hW
            go_simp
            try with_reducible rfl
          try simp only [Act.put, List.getElem_toArray, List.getElem_cons_succ, List.getElem_cons_zero, List.setIfInBounds_toArray, List.set_cons_zero, List.set_cons_succ]
          refine wpAnyU_take 5 (v := ?vsa3x5) rfl (by kernel_rfl) (by kernel_rfl) (fun _ _ _ h => h) hS (Or.inl ⟨rfl, ?ysa3x5⟩) ?rsa3x5
          case ysa3x5 =>
            intro W hW
            obtain ⟨hW0, hW1, hW2⟩ := hW
            go_simp
            try with_reducible rfl
          try simp only [Act.put, List.getElem_toArray, List.getElem_cons_succ, List.getElem_cons_zero, List.setIfInBounds_toArray, List.set_cons_zero, List.set_cons_succ]
          refine wpAnyU_take 6 (v := ?vsa3x6) rfl (by kernel_rfl) (by kernel_rfl) (fun _ _ _ h => h) hS (Or.inl ⟨rfl, ?ysa3x6⟩) ?rsa3x6
          case ysa3x6 =>
            intro W hW
            obtain ⟨hW0, hW1, hW2⟩ := hW
            go_simp
            try with_reducible rfl
          try simp only [Act.put, List.getElem_toArray, List.getElem_cons_succ, List.getElem_cons_zero, List.setIfInBounds_toArray, List.set_cons_zero, List.set_cons_succ]
          refine wpAnyU_take 7 (v := .agg (cRO t).toArray) rfl (by kernel_rfl) (by kernel_rfl) (fun _ _ _ h => h) hS (Or.inl ⟨rfl, ?ysa3xz⟩) ?rsa3xz
          case ysa3xz =>
            intro W hW
            exact run_rng 41 _ rfl b (o + i * 6) rfl (cRO t) hW.2.2 row_O sz_O
          try simp only [Act.put, List.getElem_toArray, List.getElem_cons_succ, List.getElem_cons_zero, List.setIfInBounds_toArray, List.set_cons_zero, List.set_cons_succ]
          refine wpAnyU_two 8 9 (by kernel_rfl) rfl rfl (fun K hK => ?_) (fun K hK => ?_)
          · refine step_call rfl 44 Tryz.f44 Tryz.func44 (by kernel_rfl) (by kernel_rfl) _ _ rfl #[.agg (cRO t).toArray] (by simp [Act.eval]) ?_
            refine (copyObject_ok w0 _ _ hm3 t ⟨(Rf.readX hm3 m2 hi ht.out hA).2.2⟩ (by omega) (by omega)).mono ?_
            rintro e wk ⟨y, rfl, hy, hm4⟩
            refine ⟨_, rfl, ?_⟩
            replace hy := Fact.mk hy
            refine hK _ _ (fun _ => ⟨(Rf.readX hm4 m3 hi ht.out hA).1, hm4.cell m2 1 rfl, (Rf.readX hm4 m3 hi ht.out hA).2.1⟩) ?_
            clear hK K
            try simp only [Act.put, List.getElem_toArray, List.getElem_cons_succ, List.getElem_cons_zero, List.setIfInBounds_toArray, List.set_cons_zero, List.set_cons_succ]
            refine wpAnyU_one 9 (by kernel_rfl) rfl (fun K hK => ?_)
            go_simp
            have hm5 := hm4.alloc (.cells (obC 0 none 0 0 none 0 0 0 0 false).toArray 41)
            refine hK _ _ (fun _ => ⟨(Rf.readX hm5 m4 hi ht.out hA).1, hm5.cell m3 1 rfl, (Rf.readX hm5 m4 hi ht.out hA).2.1⟩) ?_
            clear hK K
            try simp only [Act.put, List.getElem_toArray, List.getElem_cons_succ, List.getElem_cons_zero, List.setIfInBounds_toArray, List.set_cons_zero, List.set_cons_succ]
            refine wpAnyU_one 10 (by kernel_rfl) rfl (fun K hK => ?_)
            refine step_setrow rfl 41 _ _ rfl _ rfl 41 _ (cRO y) rfl hm5 sz_O rfl (cRO_one y) ?_
            intro w9 hm9
            refine hK _ _ (fun h => absurd h (by decide)) ?_
            clear hK K
            try simp only [Act.put, List.getElem_toArray, List.getElem_cons_succ, List.getElem_cons_zero, List.setIfInBounds_toArray, List.set_cons_zero, List.set_cons_succ]
            refine wpAnyU_done (by kernel_rfl) ?_ _
            go_wp2
            try simp only [Act.put, List.getElem_toArray, List.getElem_cons_succ, List.getElem_cons_zero, List.setIfInBounds_toArray, List.set_cons_succ, List.set_cons_zero]
            go_meet
            case rel => exact ⟨_, y, rfl, hy.out, hm9⟩
          · go_simp
            have hm4 := hm3.alloc (.cells (obC 0 none 0 0 none 0 0 0 0 false).toArray 41)
            refine hK _ _ (fun _ => ⟨(Rf.readX hm4 m3 hi ht.out hA).1, hm4.cell m2 1 rfl, (Rf.readX hm4 m3 hi ht.out hA).2.1⟩) ?_
            clear hK K
            try simp only [Act.put, List.getElem_toArray, List.getElem_cons_succ, List.getElem_cons_zero, List.setIfInBounds_toArray, List.set_cons_zero, List.set_cons_succ]
            refine wpAnyU_one 8 (by kernel_rfl) rfl (fun K hK => ?_)
            refine step_call rfl 44 Tryz.f44 Tryz.func44 (by kernel_rfl) (by kernel_rfl) _ _ rfl #[.agg (cRO t).toArray] (by simp [Act.eval]) ?_
            refine (copyObject_ok w0 _ _ hm4 t ⟨(Rf.readX hm4 m3 hi ht.out hA).2.2⟩ (by omega) (by omega)).mono ?_
            rintro e wk ⟨y, rfl, hy, hm5⟩
            refine ⟨_, rfl, ?_⟩
            replace hy := Fact.mk hy
            refine hK _ _ (fun _ => ⟨(Rf.readX hm5 m4 hi ht.out hA).1, hm5.cell m3 1 rfl, (Rf.readX hm5 m4 hi ht.out hA).2.1⟩) ?_
            clear hK K
            try simp only [Act.put, List.getElem_toArray, List.getElem_cons_succ, List.getElem_cons_zero, List.setIfInBounds_toArray, List.set_cons_zero, List.set_cons_succ]
            refine wpAnyU_one 10 (by kernel_rfl) rfl (fun K hK => ?_)
            refine step_setrow rfl 41 _ _ rfl _ rfl 41 _ (cRO y) rfl hm5.swap sz_O rfl (cRO_one y) ?_
            intro w9 hm9
            refine hK _ _ (fun h => absurd h (by decide)) ?_
            clear hK K
            try simp only [Act.put, List.getElem_toArray, List.getElem_cons_succ, List.getElem_cons_zero, List.setIfInBounds_toArray, List.set_cons_zero, List.set_cons_succ]
            refine wpAnyU_done (by kernel_rfl) ?_ _
            go_wp2
            try simp only [Act.put, List.getElem_toArray, List.getElem_cons_succ, List.getElem_cons_zero, List.setIfInBounds_toArray, List.set_cons_succ, List.set_cons_zero]
            go_meet
            case rel => exact ⟨_, y, rfl, hy.out, hm9⟩
        case rest =>
          obtain ⟨g8, ⟨yA, yc, yK, ykc, yo⟩, rfl, hy, hmc⟩ := hcut
          obtain rfl : yo = t.ob := hy
          clear hm2 hA
          have s2 := hmc.cell m0 2 rfl
          simp only at s2
          have hks := (RoC.reads (hmc.ok _ m1)).2
          simp only at hks
          go_wp2_with fail
          refine (find_ok wc yK t.ob.keys.length ykc t.ob.keys ⟨hks⟩ (by omega) key).mono ?_
          rintro e wf ⟨rfl, rfl⟩
          rw [hfi.out]
          clear hks
          go_wp2_with fail
          refine (hspend.out wf _ hmc.pull4).mono ?_
          rintro e w5 ⟨rfl, r', hr1, hr2, hr3, hm5⟩
          clear hmc
          go_wp2
          go_ret2
          exact ⟨rfl, r', hr1, hr2, hr3, hm5.drop2.drop2.drop2.drop2⟩
      | true =>
        rw [hroom] at hspend
        simp only at hspend
        have hpl : (t.ob.items ++ [(X, Y)]).length = t.ob.items.length + 1 := by simp
        have hpf : fV (t.ob.items ++ [(X, Y)]) = fV t.ob.items ++ [.int .i64 X, .int .i64 Y] := by rw [fV_app]; rfl
        have hkpl : (t.ob.keys ++ [key]).length = t.ob.keys.length + 1 := by simp
        have hkpf : nums .i64 (t.ob.keys ++ [key]) = nums .i64 t.ob.keys ++ [.int .i64 key] := by rw [nums_append]; rfl
        obtain ⟨its, hits⟩ : ∃ its, t.ob.items ++ [(X, Y)] = its := ⟨_, rfl⟩
        obtain ⟨ks, hks0⟩ : ∃ ks, t.ob.keys ++ [key] = ks := ⟨_, rfl⟩
        rw [hits] at hpl hpf ⊢
        rw [hks0] at hkpl hkpf ⊢
        replace hpl := Fact.mk hpl
        replace hpf := Fact.mk hpf
        replace hkpl := Fact.mk hkpl
        replace hkpf := Fact.mk hkpf
        replace hspend := Fact.mk hspend
        replace hroom := Fact.mk hroom
        clear hits hks0
        go_enter Tryz.func58, Tryz.ntmps58
        go_upto_region 1 with (fail)
        have hm1 := ((hm.alloc (.cells [.int .i64 K, .int .i64 (i : Int)].toArray 35)).alloc (.cells [.int .i64 X, .int .i64 Y].toArray 35))
        simp only [World.size_alloc] at hm1
        generalize hgb : w.heap.size = gb at hm1 ⊢
        generalize hw1 : ((w.alloc (.cells [.int .i64 K, .int .i64 (i : Int)].toArray 35)).alloc (.cells [.int .i64 X, .int .i64 Y].toArray 35)) = w1 at hm1
        try refine wp_world hw1 ?_
        clear hw1 hgb
        go_wp2_with (refine wp_rng rfl 35 _ rfl gb 0 rfl (cV (K, (i : Int))) (rng_blk hm1 m1) row_V sz_V ?_)
        refine (his.out w1 _ hm1 m2).mono ?_
        rintro e w2 ⟨rfl, hg2⟩
        have hm2 := hm1.gr hg2
        clear hm1 hg2
        go_upto_region 3 with (fail)
        obtain ⟨b, o, hA⟩ : ∃ b o, r.A = some ⟨b, o, none⟩ := by
          obtain ⟨_, _, _, hobs⟩ := Rf.read hm2 m2
          obtain ⟨b, o, hA, _⟩ := hobs.at i hi
          exact ⟨b, o, hA⟩
        go_cut [10] (fun s8 W => ∃ (g8 : Nat) (y : RO), s8 = .pointer (some ⟨g8, 0, none⟩) ∧ y.ob = t.ob ∧ Mem w0 W (Blk g8 (.cells (cRO y).toArray 41) :: RoC y :: Blk (gb + 1) (.cells [.int .i64 X, .int .i64 Y].toArray 35) :: Blk gb (.cells [.int .i64 K, .int .i64 (i : Int)].toArray 35) :: RfC r :: L))
        case first =>
          have hm3 := hm2.drew
          have hS : w2.drew.cell? ⟨r.g, 2, none⟩ = some (.slice (some ⟨b, o, none⟩) r.xs.length r.c) ∧ w2.drew.cell? ⟨gb, 1, none⟩ = some (.int .i64 (i : Int)) ∧ w2.drew.rangeAt b (o + i * 6) (cRO t) := ⟨(Rf.readX hm3 m2 hi ht.out hA).1, hm3.cell m1 1 rfl, (Rf.readX hm3 m2 hi ht.out hA).2.1⟩
          refine wp_region_until (S := fun W => W.cell? ⟨r.g, 2, none⟩ = some (.slice (some ⟨b, o, none⟩) r.xs.length r.c) ∧ W.cell? ⟨gb, 1, none⟩ = some (.int .i64 (i : Int)) ∧ W.rangeAt b (o + i * 6) (cRO t)) 10 (by kernel_rfl) ?_
          generalize w2.drew = w3 at hm3 hS ⊢
          refine wpAnyU_take 0 (v := ?vsa4x0) rfl (by kernel_rfl) (by kernel_rfl) (fun _ _ _ h => h) hS (Or.inl ⟨rfl, ?ysa4x0⟩) ?rsa4x0
          case ysa4x0 =>
            intro W hW
            obtain ⟨hW0, hW1, hW2⟩ := hW
            go_simp
            try with_reducible rfl
          try simp only [Act.put, List.getElem_toArray, List.getElem_cons_succ, List.getElem_cons_zero, List.setIfInBounds_toArray, List.set_cons_zero, List.set_cons_succ]
          refine wpAnyU_take 1 (v := ?vsa4x1) rfl (by kernel_rfl) (by kernel_rfl) (fun _ _ _ h => h) hS (Or.inl ⟨rfl, ?ysa4x1⟩) ?rsa4x1
          case ysa4x1 =>
            intro W hW
            obtain ⟨hW0, hW1, hW2⟩ := hW
            go_simp
            try with_reducible rfl
          try simp only [Act.put, List.getElem_toArray, List.getElem_cons_succ, List.getElem_cons_zero, List.setIfInBounds_toArray, List.set_cons_zero, List.set_cons_succ]
          refine wpAnyU_take 2 (v := ?vsa4x2) rfl (by kernel_rfl) (by kernel_rfl) (fun _ _ _ h => h) hS (Or.inl ⟨rfl, ?ysa4x2⟩) ?rsa4x2
          case ysa4x2 =>
            intro W hW
            obtain ⟨hW0, hW1, hW2⟩ := hW
            go_simp
            try with_reducible rfl
          try simp only [Act.put, List.getElem_toArray, List.getElem_cons_succ, List.getElem_cons_zero, List.setIfInBounds_toArray, List.set_cons_zero, List.set_cons_succ]
          refine wpAnyU_take 3 (v := ?vsa4x3) rfl (by kernel_rfl) (by kernel_rfl) (fun _ _ _ h => h) hS (Or.inl ⟨rfl, ?ysa4x3⟩) ?rsa4x3
          case ysa4x3 =>
            intro W hW
            obtain ⟨hW0, hW1, hW2⟩ := hW
            go_simp
            try with_reducible rfl
          try simp only [Act.put, List.getElem_toArray, List.getElem_cons_succ, List.getElem_cons_zero, List.setIfInBounds_toArray, List.set_cons_zero, List.set_cons_succ]
          refine wpAnyU_take 4 (v := ?vsa4x4) rfl (by kernel_rfl) (by kernel_rfl) (fun _ _ _ h => h) hS (Or.inl ⟨rfl, ?ysa4x4⟩) ?rsa4x4
          case ysa4x4 =>
            intro W hW
            obtain ⟨hW0, hW1, hW2⟩ := hW
            go_simp
            try with_reducible rfl
          try simp only [Act.put, List.getElem_toArray, List.getElem_cons_succ, List.getElem_cons_zero, List.setIfInBounds_toArray, List.set_cons_zero, List.set_cons_succ]
          refine wpAnyU_take 5 (v := ?vsa4x5) rfl (by kernel_rfl) (by kernel_rfl) (fun _ _ _ h => h) hS (Or.inl ⟨rfl, ?ysa4x5⟩) ?rsa4x5
          case ysa4x5 =>
            intro W hW
            obtain ⟨hW0, hW1, hW2⟩ := hW
            go_simp
            try with_reducible rfl
          try simp only [Act.put, List.getElem_toArray, List.getElem_cons_succ, List.getElem_cons_zero, List.setIfInBounds_toArray, List.set_cons_zero, List.set_cons_succ]
          refine wpAnyU_take 6 (v := ?vsa4x6) rfl (by kernel_rfl) (by kernel_rfl) (fun _ _ _ h => h) hS (Or.inl ⟨rfl, ?ysa4x6⟩) ?rsa4x6
          case ysa4x6 =>
            intro W hW
            obtain ⟨hW0, hW1, hW2⟩ := hW
            go_simp
            try with_reducible rfl
          try simp only [Act.put, List.getElem_toArray, List.getElem_cons_succ, List.getElem_cons_zero, List.setIfInBounds_toArray, List.set_cons_zero, List.set_cons_succ]
          refine wpAnyU_take 7 (v := .agg (cRO t).toArray) rfl (by kernel_rfl) (by kernel_rfl) (fun _ _ _ h => h) hS (Or.inl ⟨rfl, ?ysa4xz⟩) ?rsa4xz
          case ysa4xz =>
            intro W hW
            exact run_rng 41 _ rfl b (o + i * 6) rfl (cRO t) hW.2.2 row_O sz_O
          try simp only [Act.put, List.getElem_toArray, List.getElem_cons_succ, List.getElem_cons_zero, List.setIfInBounds_toArray, List.set_cons_zero, List.set_cons_succ]
          refine wpAnyU_two 8 9 (by kernel_rfl) rfl rfl (fun K hK => ?_) (fun K hK => ?_)
          · refine step_call rfl 44 Tryz.f44 Tryz.func44 (by kernel_rfl) (by kernel_rfl) _ _ rfl #[.agg (cRO t).toArray] (by simp [Act.eval]) ?_
            refine (copyObject_ok w0 _ _ hm3 t ⟨(Rf.readX hm3 m2 hi ht.out hA).2.2⟩ (by omega) (by omega)).mono ?_
            rintro e wk ⟨y, rfl, hy, hm4⟩
            refine ⟨_, rfl, ?_⟩
            replace hy := Fact.mk hy
            refine hK _ _ (fun _ => ⟨(Rf.readX hm4 m3 hi ht.out hA).1, hm4.cell m2 1 rfl, (Rf.readX hm4 m3 hi ht.out hA).2.1⟩) ?_
            clear hK K
            try simp only [Act.put, List.getElem_toArray, List.getElem_cons_succ, List.getElem_cons_zero, List.setIfInBounds_toArray, List.set_cons_zero, List.set_cons_succ]
            refine wpAnyU_one 9 (by kernel_rfl) rfl (fun K hK => ?_)
            go_simp
            have hm5 := hm4.alloc (.cells (obC 0 none 0 0 none 0 0 0 0 false).toArray 41)
            refine hK _ _ (fun _ => ⟨(Rf.readX hm5 m4 hi ht.out hA).1, hm5.cell m3 1 rfl, (Rf.readX hm5 m4 hi ht.out hA).2.1⟩) ?_
            clear hK K
            try simp only [Act.put, List.getElem_toArray, List.getElem_cons_succ, List.getElem_cons_zero, List.setIfInBounds_toArray, List.set_cons_zero, List.set_cons_succ]
            refine wpAnyU_one 10 (by kernel_rfl) rfl (fun K hK => ?_)
            refine step_setrow rfl 41 _ _ rfl _ rfl 41 _ (cRO y) rfl hm5 sz_O rfl (cRO_one y) ?_
            intro w9 hm9
            refine hK _ _ (fun h => absurd h (by decide)) ?_
            clear hK K
            try simp only [Act.put, List.getElem_toArray, List.getElem_cons_succ, List.getElem_cons_zero, List.setIfInBounds_toArray, List.set_cons_zero, List.set_cons_succ]
            refine wpAnyU_done (by kernel_rfl) ?_ _
            go_wp2
            try simp only [Act.put, List.getElem_toArray, List.getElem_cons_succ, List.getElem_cons_zero, List.setIfInBounds_toArray, List.set_cons_succ, List.set_cons_zero]
            go_meet
            case rel => exact ⟨_, y, rfl, hy.out, hm9⟩
          · go_simp
            have hm4 := hm3.alloc (.cells (obC 0 none 0 0 none 0 0 0 0 false).toArray 41)
            refine hK _ _ (fun _ => ⟨(Rf.readX hm4 m3 hi ht.out hA).1, hm4.cell m2 1 rfl, (Rf.readX hm4 m3 hi ht.out hA).2.1⟩) ?_
            clear hK K
            try simp only [Act.put, List.getElem_toArray, List.getElem_cons_succ, List.getElem_cons_zero, List.setIfInBounds_toArray, List.set_cons_zero, List.set_cons_succ]
            refine wpAnyU_one 8 (by kernel_rfl) rfl (fun K hK => ?_)
            refine step_call rfl 44 Tryz.f44 Tryz.func44 (by kernel_rfl) (by kernel_rfl) _ _ rfl #[.agg (cRO t).toArray] (by simp [Act.eval]) ?_
            refine (copyObject_ok w0 _ _ hm4 t ⟨(Rf.readX hm4 m3 hi ht.out hA).2.2⟩ (by omega) (by omega)).mono ?_
            rintro e wk ⟨y, rfl, hy, hm5⟩
            refine ⟨_, rfl, ?_⟩
            replace hy := Fact.mk hy
            refine hK _ _ (fun _ => ⟨(Rf.readX hm5 m4 hi ht.out hA).1, hm5.cell m3 1 rfl, (Rf.readX hm5 m4 hi ht.out hA).2.1⟩) ?_
            clear hK K
            try simp only [Act.put, List.getElem_toArray, List.getElem_cons_succ, List.getElem_cons_zero, List.setIfInBounds_toArray, List.set_cons_zero, List.set_cons_succ]
            refine wpAnyU_one 10 (by kernel_rfl) rfl (fun K hK => ?_)
            refine step_setrow rfl 41 _ _ rfl _ rfl 41 _ (cRO y) rfl hm5.swap sz_O rfl (cRO_one y) ?_
            intro w9 hm9
            refine hK _ _ (fun h => absurd h (by decide)) ?_
            clear hK K
            try simp only [Act.put, List.getElem_toArray, List.getElem_cons_succ, List.getElem_cons_zero, List.setIfInBounds_toArray, List.set_cons_zero, List.set_cons_succ]
            refine wpAnyU_done (by kernel_rfl) ?_ _
            go_wp2
            try simp only [Act.put, List.getElem_toArray, List.getElem_cons_succ, List.getElem_cons_zero, List.setIfInBounds_toArray, List.set_cons_succ, List.set_cons_zero]
            go_meet
            case rel => exact ⟨_, y, rfl, hy.out, hm9⟩
        case rest =>
          obtain ⟨g8, ⟨yA, yc, yK, ykc, yo⟩, rfl, hy, hmc⟩ := hcut
          obtain rfl : yo = t.ob := hy
          clear hm2 hA
          have s2 := hmc.cell m0 2 rfl
          simp only at s2
          have hks := (RoC.reads (hmc.ok _ m1)).2
          simp only at hks
          go_wp2_with fail
          refine (find_ok wc yK t.ob.keys.length ykc t.ob.keys ⟨hks⟩ (by omega) key).mono ?_
          rintro e wf ⟨rfl, rfl⟩
          rw [hfi.out]
          clear hks
          go_wp2_with fail
          refine (hspend.out wf _ hmc.pull4).mono ?_
          rintro e w5 ⟨rfl, r', hr1, hr2, hr3, hm5⟩
          clear hmc s2
          have hi' : i < r'.xs.length := by rw [← r'.abs_len, hr2]; exact hri
          replace hr1 := Fact.mk hr1
          replace hr2 := Fact.mk hr2
          replace hr3 := Fact.mk hr3
          have hmo : Mem w0 w5 (Own 2 (.slice yA t.ob.items.length yc) (fV t.ob.items) :: Own 1 (.slice yK t.ob.keys.length ykc) (nums .i64 t.ob.keys) :: RfC r' :: Blk g8 (.cells (obC t.ob.kind yA t.ob.items.length yc yK t.ob.keys.length ykc t.ob.fn t.ob.cap t.ob.shut).toArray 41) :: Blk (gb + 1) (.cells [.int .i64 X, .int .i64 Y].toArray 35) :: Blk gb (.cells [.int .i64 K, .int .i64 (i : Int)].toArray 35) :: L) := Mem.opn hm5.pull2
          clear hm5
          have s1 := hmo.cell m3 1 rfl
          have s2 := hmo.cell m3 2 rfl
          go_upto_region 14 with (first | (at_builtin; refine wp_app rfl _ _ _ rfl 2 iI _ 1 8 ty_Is hiI yz0 yz1 yz2 rfl yK t.ob.keys.length ykc _ rfl (hmo.alloc _).pull2 _ 1 1 [.int .i64 key] rfl (RdC.lit _ _ _ _ _ rfl (by simp [maxLen]) (One.nums .i64 [key])) (by unfold maxLen; omega) (by omega) ?_; intro K6 kc6 w6 HM6) | (refine wp_setat rfl 39 _ _ rfl g8 2 rfl 41 _ [.slice K6 (t.ob.keys.length + 1) kc6] (obC t.ob.kind yA t.ob.items.length yc K6 (t.ob.keys.length + 1) kc6 t.ob.fn t.ob.cap t.ob.shut) (.slice K6 (t.ob.keys.length + 1) kc6) rfl rfl HM6.drop2.pull3 sz_Is (by simp [obC]) (one_one rfl) rfl ?_; intro w7 hm7))
          clear HM6 hmo s1 s2
          have s1 := hm7.cell m0 1 rfl
          go_upto_region 15 with (first | (refine wp_rng rfl 35 _ rfl (gb + 1) 0 rfl [.int .i64 X, .int .i64 Y] (rng_blk hm7 m4) row_V sz_V ?_) | (at_builtin; refine wp_app rfl _ _ _ rfl 35 iV _ 2 16 ty_Vs hiV hz0 hz1 hz2 rfl yA t.ob.items.length yc _ rfl (hm7.alloc _).pull3 _ 1 1 [.int .i64 X, .int .i64 Y] rfl (RdC.lit _ _ _ _ _ rfl (by simp [maxLen]) (cV_one (X, Y))) (by unfold maxLen; omega) (by omega) ?_; intro A8 c8 w8 HM8) | (refine wp_setat rfl 36 _ _ rfl g8 1 rfl 41 _ [.slice A8 (t.ob.items.length + 1) c8] (obC t.ob.kind A8 (t.ob.items.length + 1) c8 K6 (t.ob.keys.length + 1) kc6 t.ob.fn t.ob.cap t.ob.shut) (.slice A8 (t.ob.items.length + 1) c8) rfl rfl HM8.drop2.swap sz_Vs (by simp [obC]) (one_one rfl) rfl ?_; intro w9 hm9))
          clear HM8 hm7 s1
          obtain ⟨y', hy'⟩ : ∃ y' : RO, y' = ⟨A8, c8, K6, kc6, { t.ob with items := its, keys := ks }⟩ := ⟨_, rfl⟩
          have hm10 : Mem w0 w9 (RfC r' :: RoC y' :: Blk g8 (.cells (cRO y').toArray 41) :: Blk (gb + 1) (.cells [.int .i64 X, .int .i64 Y].toArray 35) :: Blk gb (.cells [.int .i64 K, .int .i64 (i : Int)].toArray 35) :: L) := by
            have h1 : Mem w0 w9 (Own 2 (.slice A8 its.length c8) (fV its) :: Own 1 (.slice K6 ks.length kc6) (nums .i64 ks) :: Blk g8 (.cells (obC t.ob.kind A8 its.length c8 K6 ks.length kc6 t.ob.fn t.ob.cap t.ob.shut).toArray 41) :: RfC r' :: Blk (gb + 1) (.cells [.int .i64 X, .int .i64 Y].toArray 35) :: Blk gb (.cells [.int .i64 K, .int .i64 (i : Int)].toArray 35) :: L) := by rw [hpl.out, hpf.out, hkpl.out, hkpf.out]; exact hm9.back2
            have h2 := roC_mem ⟨A8, c8, K6, kc6, { t.ob with items := its, keys := ks }⟩ h1
            rw [← hy'] at h2
            rw [show (obC t.ob.kind A8 its.length c8 K6 ks.length kc6 t.ob.fn t.ob.cap t.ob.shut) = cRO y' by rw [hy']; rfl] at h2
            exact h2.pull2
          have hyo : y'.ob = { t.ob with items := its, keys := ks } := by rw [hy']
          have hysz : y'.ob.items.length ≤ 1048576 ∧ y'.ob.keys.length ≤ 1048576 := by rw [hyo]; simp only [hpl.out, hkpl.out]; have := hkl.out; omega
          replace hyo := Fact.mk hyo
          clear hm9 hy'
          go_upto_region 15 with (fail)
          have hm8 := Rf.opn (hm10.drew) i hi'
          clear hm10
          obtain ⟨b8, o8, hA8⟩ := OwnAt.addr (hm8.ok _ m1) (by have := OwnAt.cap (hm8.ok _ m1); omega)
          have c2 := hm8.cell m0 2 rfl
          rw [hA8] at c2
          rw [hr1.out] at c2
          have d1 := hm8.cell (.tail _ (.tail _ (.tail _ (List.mem_append_right _ (.tail _ (.tail _ (.tail _ (.head _)))))))) 1 rfl
          have ry := rng_blk hm8 (.tail _ (.tail _ (.tail _ (List.mem_append_right _ (.tail _ (.head _))))))
          refine wp_region_still_tail 7 (by kernel_rfl) (by kernel_rfl) ?_
          simp only [List.take_succ_cons, List.take_zero, List.drop_succ_cons, List.drop_zero]
          repeat (first | still_step | (refine still_rng rfl 41 _ rfl g8 0 rfl (cRO y') ry row_O sz_O ?_))
          refine wpStill_nil ?_
          have hm9 := hm8.swap
          rw [hA8] at hm9
          clear hm8 c2 d1 ry
          have hfs := flat_set r'.xs i hi' y' 0 (cRO y') (by rw [cRO_len]; omega) (by rw [cRO_len]; simp [cRO, obC])
          replace hfs := Fact.mk hfs
          go_upto_region 16 with (refine wp_ownat rfl 41 _ _ rfl (o8 + i * 6) (i * 6 + 0) (by omega) rfl (cRO y') _ rfl rfl hm9 sz_O (by rw [flat_len, cRO_len]; omega) (cRO_one y') ?_; intro w9 hm10)
          rw [← hA8] at hm10
          have hz := Rf.put_all i hi' _ y' _ hfs.out hm10
          go_wp2
          go_ret2
          exact ⟨rfl, r'.upd i y', hr1.out, by rw [Rf.upd_abs, hyo.out, hr2.out]; unfold Hs.spend; rw [hroom.out], Rf.upd_ok hr3.out i y' hysz, hz.drop2.drop2.drop2⟩
end Go.Proofs.YtpibchjkmaghnaaGreat
namespace Go.Proofs.YtpibchjkmaghnaaGreat
open Go.RowKit Go.Mm
set_option maxHeartbeats 1000000
set_option maxRecDepth 100000
set_option linter.unusedSimpArgs false
theorem erase_hit {α : Type} (l : List α) (j : Nat) (hj : j < l.length) : (l.take (j + 1)).eraseIdx j = (l.take j).eraseIdx j := by
  rw [List.eraseIdx_of_length_le (l := l.take j) (by rw [List.length_take]; omega), List.take_succ_eq_append_getElem hj, List.eraseIdx_append_of_length_le (by rw [List.length_take]; omega), List.length_take, show j - min j l.length = 0 by omega]
  simp
theorem erase_miss {α : Type} (l : List α) (j k : Nat) (hk : k < l.length) (hne : k ≠ j) (d : α) : (l.take (k + 1)).eraseIdx j = (l.take k).eraseIdx j ++ [l.getD k d] := by
  have e : l.take (k + 1) = l.take k ++ [l.getD k d] := by rw [List.take_succ_eq_append_getElem hk]; simp [hk]
  by_cases q : j < k
  · rw [e, List.eraseIdx_append_of_lt_length (by rw [List.length_take]; omega)]
  · rw [List.eraseIdx_of_length_le (l := l.take k) (by rw [List.length_take]; omega), List.eraseIdx_of_length_le (by rw [List.length_take]; omega), e]
theorem erase_drop {α : Type} (l : List α) (j : Nat) : l.eraseIdx j = l.take j ++ l.drop (j + 1) := List.eraseIdx_eq_take_drop_succ ..
theorem nodup_at {ks : List Int} {key : Int} {j k : Nat} (hd : ks.Nodup) (hj : ks.idxOf? key = some j) (hk : k < ks.length) : (ks.getD k 0 = key) ↔ k = j := by
  have hjl := idx_lt hj
  have hjv : ks.getD j 0 = key := by
    have := List.idxOf?_eq_some_iff.1 hj
    obtain ⟨h, e, _⟩ := this
    simp [hjl, e]
  constructor
  · intro h
    have e1 : ks[k] = ks[j] := by
      have h1 : ks[k] = key := by simpa [hk] using h
      have h2 : ks[j] = key := by simpa [hjl] using hjv
      rw [h1, h2]
    exact (List.getElem_inj hd).1 e1
  · rintro rfl
    exact hjv
theorem refDelete_ok (w0 w : World) (L : List Chunk) (r : Rf) (hm : Mem w0 w (RfC r :: L)) (hok : Fact r.Ok) (hg : Fact r.abs.Good) (K N key : Int) :
    Calls Tryz.prog 60 #[.pointer (some ⟨r.g, 0, none⟩), .agg #[.int .i64 K, .int .i64 N], .int .i64 key] w fun e w' => e = .returned (.int .i64 (delT r.abs (K, N) key)) ∧ RfQ w0 L r.g (delS r.abs (K, N) key) w' := by
  obtain ⟨iV, hiV, hz0, hz1, hz2⟩ := info_parts inf_V
  obtain ⟨iI, hiI, yz0, yz1, yz2⟩ := info_parts inf_I
  have hfield := fun (w1 : World) (L1 : List Chunk) (hm1 : Mem w0 w1 (RfC r :: L1)) => refField_ok w0 w1 L1 r hm1 hok hg K N key
  obtain ⟨fv, hfv⟩ : ∃ fv, fieldV r.abs (K, N) key = fv := ⟨_, rfl⟩
  rw [hfv] at hfield
  clear hfv
  have hcase : (fieldT r.abs (K, N) key ≠ 0 ∧ delT r.abs (K, N) key = fieldT r.abs (K, N) key ∧ delS r.abs (K, N) key = r.abs) ∨ (fieldT r.abs (K, N) key = 0 ∧ ∃ i j, r.abs.obAt (K, N) 7 = some i ∧ (r.abs.objs.getD i ob0).keys.idxOf? key = some j ∧ delT r.abs (K, N) key = 0 ∧ delS r.abs (K, N) key = r.abs.put i { r.abs.objs.getD i ob0 with items := dropV (r.abs.objs.getD i ob0).items j, keys := dropK (r.abs.objs.getD i ob0).keys j }) := by
    unfold fieldT delT delS
    cases r.abs.obAt (K, N) 7 with
    | none => exact .inl ⟨show (1 : Int) ≠ 0 by decide, rfl, rfl⟩
    | some i =>
      unfold fldT
      simp only
      cases hk : (r.abs.objs.getD i ob0).keys.idxOf? key with
      | none => exact .inl ⟨show (4 : Int) ≠ 0 by decide, rfl, rfl⟩
      | some j => exact .inr ⟨rfl, i, j, rfl, hk, rfl, rfl⟩
  rcases hcase with ⟨h1, h2, h3⟩ | ⟨h1, i, j, hob, hidx, h2, h3⟩
  · rw [h2, h3]
    clear h2 h3
    generalize fieldT r.abs (K, N) key = tr at h1 hfield ⊢
    have h1' : (tr == 0) = false := beq_eq_false_iff_ne.2 h1
    replace hfield := Fact.mk hfield
    go_enter Tryz.func60, Tryz.ntmps60
    go_upto_region 1 with (fail)
    have hm1 := (hm.alloc (.cells [.int .i64 K, .int .i64 N].toArray 35))
    generalize hgb : w.heap.size = gb at hm1 ⊢
    generalize hw1 : (w.alloc (.cells [.int .i64 K, .int .i64 N].toArray 35)) = w1 at hm1
    try refine wp_world hw1 ?_
    clear hw1 hgb
    go_wp2_with (refine wp_rng rfl 35 _ rfl gb 0 rfl (cV (K, N)) (rng_blk hm1 m0) row_V sz_V ?_)
    refine (hfield.out w1 _ hm1.swap).mono ?_
    rintro e w2 ⟨rfl, hm2⟩
    clear hm1
    go_upto_region 2 with (refine wp_setrow rfl 35 _ _ rfl w2.heap.size rfl 35 _ (cV fv) rfl (hm2.alloc _) sz_V rfl (cV_one fv) ?_; intro w5 hm5)
    have hmA := hm5.tail
    clear hm2 hm5
    go_wp2
    go_ret
    exact ⟨rfl, r, rfl, rfl, hok.out, hmA.drop2⟩
  · rw [h2, h3]
    rw [h1] at hfield
    replace hfield := Fact.mk hfield
    clear h1 h2 h3
    have hkd7 := (Hs.obAt_lt hob).2.2.2
    obtain ⟨hi, hN, hK, hkd⟩ := Hs.obAt_lt hob
    rw [r.abs_len] at hi
    simp only at hN hK
    subst hN
    clear hK hkd
    have hsz := hok.out.each (r.xs.getD i ro0) (by rw [List.getD_eq_getElem?_getD, List.getElem?_eq_getElem hi]; exact List.getElem_mem hi)
    obtain ⟨t, ht⟩ : ∃ t, r.xs.getD i ro0 = t := ⟨_, rfl⟩
    have hto : r.abs.objs.getD i ob0 = t.ob := by rw [r.at_abs hi, ht]
    rw [ht] at hsz
    rw [hto] at hkd7 hidx ⊢
    have hgo := hg.out t.ob (by rw [← hto, List.getD_eq_getElem?_getD, List.getElem?_eq_getElem (by rw [r.abs_len]; exact hi)]; exact List.getElem_mem _)
    have hkl := hgo.keys hkd7
    have hob' : ({ t.ob with items := dropV t.ob.items j, keys := dropK t.ob.keys j } : Ob) = ⟨7, t.ob.items.eraseIdx j, t.ob.keys.eraseIdx j, 0, 0, false⟩ := by
      have f1 := hgo.fn (by omega)
      have f2 := hgo.cap (by omega)
      rw [erase_drop, erase_drop]
      unfold dropV dropK
      show (⟨t.ob.kind, _, _, t.ob.fn, t.ob.cap, t.ob.shut⟩ : Ob) = _
      rw [hkd7, f1, f2.1, f2.2]
    have hat : ∀ k, k < t.ob.keys.length → ((t.ob.keys.getD k 0 = key) ↔ k = j) := fun k hk => nodup_at hgo.nodup hidx hk
    have hjl := idx_lt hidx
    rw [hob']
    replace ht := Fact.mk ht
    replace hto := Fact.mk hto
    replace hat := Fact.mk hat
    replace hkl := Fact.mk hkl
    clear hob' hidx hkd7
    go_enter Tryz.func60, Tryz.ntmps60
    go_upto_region 1 with (fail)
    have hm1 := (hm.alloc (.cells [.int .i64 K, .int .i64 (i : Int)].toArray 35))
    generalize hgb : w.heap.size = gb at hm1 ⊢
    generalize hw1 : (w.alloc (.cells [.int .i64 K, .int .i64 (i : Int)].toArray 35)) = w1 at hm1
    try refine wp_world hw1 ?_
    clear hw1 hgb
    go_wp2_with (refine wp_rng rfl 35 _ rfl gb 0 rfl (cV (K, (i : Int))) (rng_blk hm1 m0) row_V sz_V ?_)
    refine (hfield.out w1 _ hm1.swap).mono ?_
    rintro e w2 ⟨rfl, hm2⟩
    clear hm1
    go_upto_region 2 with (refine wp_setrow rfl 35 _ _ rfl w2.heap.size rfl 35 _ (cV fv) rfl (hm2.alloc _) sz_V rfl (cV_one fv) ?_; intro w5 hm5)
    have hmA := hm5.tail
    clear hm2 hm5
    go_upto_region 4 with (fail)
    obtain ⟨b, o, hA⟩ : ∃ b o, r.A = some ⟨b, o, none⟩ := by
      obtain ⟨_, _, _, hobs⟩ := Rf.read hmA m0
      obtain ⟨b, o, hA, _⟩ := hobs.at i hi
      exact ⟨b, o, hA⟩
    go_cut [9] (fun s8 W => ∃ (g8 : Nat), s8 = .pointer (some ⟨g8, 0, none⟩) ∧ Mem w0 W (Blk g8 (.cells (cRO t).toArray 41) :: RfC r :: Blk gb (.cells [.int .i64 K, .int .i64 (i : Int)].toArray 35) :: L))
    case first =>
      have hm3 := hmA.drew
      have hS : w5.drew.cell? ⟨r.g, 2, none⟩ = some (.slice (some ⟨b, o, none⟩) r.xs.length r.c) ∧ w5.drew.cell? ⟨gb, 1, none⟩ = some (.int .i64 (i : Int)) ∧ w5.drew.rangeAt b (o + i * 6) (cRO t) := ⟨(Rf.readX hm3 m0 hi ht.out hA).1, hm3.cell m1 1 rfl, (Rf.readX hm3 m0 hi ht.out hA).2.1⟩
      refine wp_region_until (S := fun W => W.cell? ⟨r.g, 2, none⟩ = some (.slice (some ⟨b, o, none⟩) r.xs.length r.c) ∧ W.cell? ⟨gb, 1, none⟩ = some (.int .i64 (i : Int)) ∧ W.rangeAt b (o + i * 6) (cRO t)) 9 (by kernel_rfl) ?_
      generalize w5.drew = w3 at hm3 hS ⊢
      refine wpAnyU_take 0 (v := ?vsa1x0) rfl (by kernel_rfl) (by kernel_rfl) (fun _ _ _ h => h) hS (Or.inl ⟨rfl, ?ysa1x0⟩) ?rsa1x0
      case ysa1x0 =>
        intro W hW
        obtain ⟨hW0, hW1, hW2⟩ := hW
        go_simp
        try with_reducible rfl
      try simp only [Act.put, List.getElem_toArray, List.getElem_cons_succ, List.getElem_cons_zero, List.setIfInBounds_toArray, List.set_cons_zero, List.set_cons_succ]
      refine wpAnyU_take 1 (v := ?vsa1x1) rfl (by kernel_rfl) (by kernel_rfl) (fun _ _ _ h => h) hS (Or.inl ⟨rfl, ?ysa1x1⟩) ?rsa1x1
      case ysa1x1 =>
        intro W hW
        obtain ⟨hW0, hW1, hW2⟩ := hW
        go_simp
        try with_reducible rfl
      try simp only [Act.put, List.getElem_toArray, List.getElem_cons_succ, List.getElem_cons_zero, List.setIfInBounds_toArray, List.set_cons_zero, List.set_cons_succ]
      refine wpAnyU_take 2 (v := ?vsa1x2) rfl (by kernel_rfl) (by kernel_rfl) (fun _ _ _ h => h) hS (Or.inl ⟨rfl, ?ysa1x2⟩) ?rsa1x2
      case ysa1x2 =>
        intro W hW
        obtain ⟨hW0, hW1, hW2⟩ := hW
        go_simp
        try with_reducible rfl
      try simp only [Act.put, List.getElem_toArray, List.getElem_cons_succ, List.getElem_cons_zero, List.setIfInBounds_toArray, List.set_cons_zero, List.set_cons_succ]
      refine wpAnyU_take 3 (v := ?vsa1x3) rfl (by kernel_rfl) (by kernel_rfl) (fun _ _ _ h => h) hS (Or.inl ⟨rfl, ?ysa1x3⟩) ?rsa1x3
      case ysa1x3 =>
        intro W hW
        obtain ⟨hW0, hW1, hW2⟩ := hW
        go_simp
        try with_reducible rfl
      try simp only [Act.put, List.getElem_toArray, List.getElem_cons_succ, List.getElem_cons_zero, List.setIfInBounds_toArray, List.set_cons_zero, List.set_cons_succ]
      refine wpAnyU_take 4 (v := ?vsa1x4) rfl (by kernel_rfl) (by kernel_rfl) (fun _ _ _ h => h) hS (Or.inl ⟨rfl, ?ysa1x4⟩) ?rsa1x4
      case ysa1x4 =>
        intro W hW
        obtain ⟨hW0, hW1, hW2⟩ := hW
        go_simp
        try with_reducible rfl
      try simp only [Act.put, List.getElem_toArray, List.getElem_cons_succ, List.getElem_cons_zero, List.setIfInBounds_toArray, List.set_cons_zero, List.set_cons_succ]
      refine wpAnyU_take 5 (v := ?vsa1x5) rfl (by kernel_rfl) (by kernel_rfl) (fun _ _ _ h => h) hS (Or.inl ⟨rfl, ?ysa1x5⟩) ?rsa1x5
      case ysa1x5 =>
        intro W hW
        obtain ⟨hW0, hW1, hW2⟩ := hW
        go_simp
        try with_reducible rfl
      try simp only [Act.put, List.getElem_toArray, List.getElem_cons_succ, List.getElem_cons_zero, List.setIfInBounds_toArray, List.set_cons_zero, List.set_cons_succ]
      refine wpAnyU_take 6 (v := ?vsa1x6) rfl (by kernel_rfl) (by kernel_rfl) (fun _ _ _ h => h) hS (Or.inl ⟨rfl, ?ysa1x6⟩) ?rsa1x6
      case ysa1x6 =>
        intro W hW
        obtain ⟨hW0, hW1, hW2⟩ := hW
        go_simp
        try with_reducible rfl
      try simp only [Act.put, List.getElem_toArray, List.getElem_cons_succ, List.getElem_cons_zero, List.setIfInBounds_toArray, List.set_cons_zero, List.set_cons_succ]
      refine wpAnyU_take 7 (v := .agg (cRO t).toArray) rfl (by kernel_rfl) (by kernel_rfl) (fun _ _ _ h => h) hS (Or.inl ⟨rfl, ?ysa1xz⟩) ?rsa1xz
      case ysa1xz =>
        intro W hW
        exact run_rng 41 _ rfl b (o + i * 6) rfl (cRO t) hW.2.2 row_O sz_O
      try simp only [Act.put, List.getElem_toArray, List.getElem_cons_succ, List.getElem_cons_zero, List.setIfInBounds_toArray, List.set_cons_zero, List.set_cons_succ]
      refine wpAnyU_one 8 (by kernel_rfl) rfl (fun K hK => ?_)
      go_simp
      have hm4 := hm3.alloc (.cells (obC 0 none 0 0 none 0 0 0 0 false).toArray 41)
      refine hK _ _ (fun _ => ⟨(Rf.readX hm4 m1 hi ht.out hA).1, hm4.cell m2 1 rfl, (Rf.readX hm4 m1 hi ht.out hA).2.1⟩) ?_
      clear hK K
      try simp only [Act.put, List.getElem_toArray, List.getElem_cons_succ, List.getElem_cons_zero, List.setIfInBounds_toArray, List.set_cons_zero, List.set_cons_succ]
      refine wpAnyU_one 9 (by kernel_rfl) rfl (fun K hK => ?_)
      refine step_setrow rfl 41 _ _ rfl _ rfl 41 _ (cRO t) rfl hm4 sz_O rfl (cRO_one t) ?_
      intro w9 hm9
      refine hK _ _ (fun h => absurd h (by decide)) ?_
      clear hK K
      try simp only [Act.put, List.getElem_toArray, List.getElem_cons_succ, List.getElem_cons_zero, List.setIfInBounds_toArray, List.set_cons_zero, List.set_cons_succ]
      refine wpAnyU_done (by kernel_rfl) ?_ _
      go_wp2
      try simp only [Act.put, List.getElem_toArray, List.getElem_cons_succ, List.getElem_cons_zero, List.setIfInBounds_toArray, List.set_cons_succ, List.set_cons_zero]
      go_meet
      case rel => exact ⟨_, rfl, hm9⟩
    case rest =>
      obtain ⟨g8, rfl, hmc⟩ := hcut
      clear hmA hA
      obtain ⟨b0, o0, hA0⟩ : ∃ b o, r.A = some ⟨b, o, none⟩ := by
        obtain ⟨_, _, _, hobs⟩ := Rf.read hmc m1
        obtain ⟨b, o, hA, _⟩ := hobs.at i hi
        exact ⟨b, o, hA⟩
      replace hA0 := Fact.mk hA0
      go_upto_region 6 with (refine wp_setrow rfl 41 _ _ rfl wc.heap.size rfl 41 _ (obC 7 none 0 0 none 0 0 0 0 false) rfl (hmc.alloc _) sz_O rfl (obC_one _ _ _ _ _ _ _ _ _ _) ?_; intro w6 hm6)
      generalize wc.heap.size = g10 at hm6 ⊢
      clear hmc
      go_wp2
      go_loopw [11] (fun s11 W => ∃ (k m : Nat) (A : Option Addr) (c : Nat) (KA : Option Addr) (kc : Nat), s11 = .int .i64 k ∧ k ≤ t.ob.keys.length ∧ Fact (((t.ob.keys.take k).eraseIdx j).length = m ∧ ((t.ob.items.take k).eraseIdx j).length = m ∧ m ≤ k) ∧ Mem w0 W (Blk g10 (.cells (obC 7 A m c KA m kc 0 0 false).toArray 41) :: Own 2 (.slice A m c) (fV ((t.ob.items.take k).eraseIdx j)) :: Own 1 (.slice KA m kc) (nums .i64 ((t.ob.keys.take k).eraseIdx j)) :: Blk g8 (.cells (cRO t).toArray 41) :: RfC r :: Blk gb (.cells [.int .i64 K, .int .i64 (i : Int)].toArray 35) :: L)) (fun s11 _ => t.ob.keys.length - (intOf s11).toNat)
      case atStart => exact ⟨0, 0, none, 0, none, 0, rfl, by omega, ⟨by simp, by simp, by omega⟩, (Mem.nil (Mem.nil hm6 1 none) 2 none).pull2⟩
      case round =>
        obtain ⟨k, m, A, c, KA, kc, rfl, hk, hlen, hmr⟩ := hrel
        clear hm6
        by_cases hlt : k < t.ob.keys.length
        · skip
          have hki : k < t.ob.items.length := by rw [← hkl.out]; exact hlt
          have hrd := (Rf.readX hmr m4 hi ht.out hA0.out).2.2
          obtain ⟨b2, o2, hKA, gk, _⟩ := hrd.2.num k hlt
          obtain ⟨b3, o3, hIA, g1, g2, _, _⟩ := rdV_at hrd.1 k hki
          clear hrd
          obtain ⟨x, hx⟩ : ∃ x, t.ob.keys.getD k 0 = x := ⟨_, rfl⟩
          obtain ⟨y, hy⟩ : ∃ y, t.ob.items.getD k (0, 0) = y := ⟨_, rfl⟩
          rw [hx] at gk
          rw [hy] at g1 g2
          replace hKA := Fact.mk hKA
          replace hIA := Fact.mk hIA
          have hcell : Fact (∀ (W : World) (L1 : List Chunk), Mem w0 W L1 → RfC r ∈ L1 → W.cell? ⟨b2, o2 + k, none⟩ = some (.int .i64 x) ∧ W.rangeAt b3 (o3 + k * 2) (cV y)) := ⟨fun W L1 h1 hh => by
            have hrd := (Rf.readX h1 hh hi ht.out hA0.out).2.2
            obtain ⟨b2', o2', hKA', gk', _⟩ := hrd.2.num k hlt
            obtain ⟨b3', o3', hIA', g1', g2', _, _⟩ := rdV_at hrd.1 k hki
            rw [hKA.out] at hKA'
            rw [hIA.out] at hIA'
            cases hKA'
            cases hIA'
            rw [hx] at gk'
            rw [hy] at g1' g2'
            exact ⟨gk', rng2 g1' g2'⟩⟩
          have s2 := hmr.cell m3 2 rfl
          rw [hKA.out] at s2
          clear g1 g2
          by_cases q : k = j
          · have hxk : x = key := hx.symm.trans ((hat.out k hlt).2 q)
            subst hxk
            replace hx := Fact.mk hx
            replace hy := Fact.mk hy
            replace q := Fact.mk q
            go_wp2
            go_roundw
            case rel => exact ⟨k + 1, m, A, c, KA, kc, by go_num, by omega, ⟨by have e := q.out; subst e; rw [erase_hit _ _ hlt, erase_hit _ _ hki]; exact ⟨hlen.out.1, hlen.out.2.1, by have := hlen.out.2.2; omega⟩⟩, by have e := q.out; subst e; rw [erase_hit _ _ hlt, erase_hit _ _ hki]; exact hmr⟩
            case measure => exact measP_lt hlt
          · have hxk : x ≠ key := fun h => q ((hat.out k hlt).1 (hx.trans h))
            have q1 : (x == key) = false := beq_eq_false_iff_ne.2 hxk
            have q2 : (x != key) = true := by simp [hxk]
            have q3 : decide (x ≠ key) = true := decide_eq_true hxk
            have ek : nums .i64 ((t.ob.keys.take (k + 1)).eraseIdx j) = nums .i64 ((t.ob.keys.take k).eraseIdx j) ++ [.int .i64 x] := by rw [erase_miss _ _ _ hlt q 0, hx, nums_append]; rfl
            have ei : fV ((t.ob.items.take (k + 1)).eraseIdx j) = fV ((t.ob.items.take k).eraseIdx j) ++ [.int .i64 y.1, .int .i64 y.2] := by rw [erase_miss _ _ _ hki q (0, 0), hy, fV_app]; rfl
            have hlen2 : Fact (((t.ob.keys.take (k + 1)).eraseIdx j).length = m + 1 ∧ ((t.ob.items.take (k + 1)).eraseIdx j).length = m + 1 ∧ m + 1 ≤ k + 1) := ⟨by rw [erase_miss _ _ _ hlt q 0, erase_miss _ _ _ hki q (0, 0)]; simp only [List.length_append, List.length_singleton]; have := hlen.out; omega⟩
            have hmk := hlen.out.2.2
            replace hx := Fact.mk hx
            replace hy := Fact.mk hy
            replace ek := Fact.mk ek
            replace ei := Fact.mk ei
            replace hxk := Fact.mk hxk
            go_upto_region 10 with (fail)
            clear s2 gk
            have hm7 := hmr.drew
            clear hmr
            have hS := And.intro (hm7.cell m0 2 rfl) (And.intro ((hm7.cell m3 2 rfl).trans (congrArg (fun z => some (Value.slice z t.ob.keys.length t.kc)) hKA.out)) (hcell.out _ _ hm7 m4).1)
            refine wp_region_until (S := fun W => W.cell? ⟨g10, 2, none⟩ = some (.slice KA m kc) ∧ W.cell? ⟨g8, 2, none⟩ = some (.slice (some ⟨b2, o2, none⟩) t.ob.keys.length t.kc) ∧ W.cell? ⟨b2, o2 + k, none⟩ = some (.int .i64 x)) 9 (by kernel_rfl) ?_
            generalize wr.drew = w7 at hm7 hS ⊢
            refine wpAnyU_take 0 (v := ?vsk0) rfl (by kernel_rfl) (by kernel_rfl) (fun _ _ _ h => h) hS (Or.inl ⟨rfl, ?ysk0⟩) ?rsk0
            case ysk0 =>
              intro W hW
              obtain ⟨hW0, hW1, hW2⟩ := hW
              go_simp
              try with_reducible rfl
            try simp only [Act.put, List.getElem_toArray, List.getElem_cons_succ, List.getElem_cons_zero, List.setIfInBounds_toArray, List.set_cons_zero, List.set_cons_succ]
            refine wpAnyU_take 1 (v := ?vsk1) rfl (by kernel_rfl) (by kernel_rfl) (fun _ _ _ h => h) hS (Or.inl ⟨rfl, ?ysk1⟩) ?rsk1
            case ysk1 =>
              intro W hW
              obtain ⟨hW0, hW1, hW2⟩ := hW
              go_simp
              try with_reducible rfl
            try simp only [Act.put, List.getElem_toArray, List.getElem_cons_succ, List.getElem_cons_zero, List.setIfInBounds_toArray, List.set_cons_zero, List.set_cons_succ]
            refine wpAnyU_take 2 (v := ?vsk2) rfl (by kernel_rfl) (by kernel_rfl) (fun _ _ _ h => h) hS (Or.inl ⟨rfl, ?ysk2⟩) ?rsk2
            case ysk2 =>
              intro W hW
              obtain ⟨hW0, hW1, hW2⟩ := hW
              go_simp
              try with_reducible rfl
            try simp only [Act.put, List.getElem_toArray, List.getElem_cons_succ, List.getElem_cons_zero, List.setIfInBounds_toArray, List.set_cons_zero, List.set_cons_succ]
            refine wpAnyU_take 3 (v := ?vsk3) rfl (by kernel_rfl) (by kernel_rfl) (fun _ _ _ h => h) hS (Or.inl ⟨rfl, ?ysk3⟩) ?rsk3
            case ysk3 =>
              intro W hW
              obtain ⟨hW0, hW1, hW2⟩ := hW
              go_simp
              try with_reducible rfl
            try simp only [Act.put, List.getElem_toArray, List.getElem_cons_succ, List.getElem_cons_zero, List.setIfInBounds_toArray, List.set_cons_zero, List.set_cons_succ]
            refine wpAnyU_take 4 (v := ?vsk4) rfl (by kernel_rfl) (by kernel_rfl) (fun _ _ _ h => h) hS (Or.inl ⟨rfl, ?ysk4⟩) ?rsk4
            case ysk4 =>
              intro W hW
              obtain ⟨hW0, hW1, hW2⟩ := hW
              go_simp
              try with_reducible rfl
            try simp only [Act.put, List.getElem_toArray, List.getElem_cons_succ, List.getElem_cons_zero, List.setIfInBounds_toArray, List.set_cons_zero, List.set_cons_succ]
            refine wpAnyU_take 5 (v := ?vsk5) rfl (by kernel_rfl) (by kernel_rfl) (fun _ _ _ h => h) hS (Or.inl ⟨rfl, ?ysk5⟩) ?rsk5
            case ysk5 =>
              intro W hW
              obtain ⟨hW0, hW1, hW2⟩ := hW
              go_simp
              try with_reducible rfl
            try simp only [Act.put, List.getElem_toArray, List.getElem_cons_succ, List.getElem_cons_zero, List.setIfInBounds_toArray, List.set_cons_zero, List.set_cons_succ]
            refine wpAnyU_take 6 (v := ?vsk6) rfl (by kernel_rfl) (by kernel_rfl) (fun _ _ _ h => h) hS (Or.inl ⟨rfl, ?ysk6⟩) ?rsk6
            case ysk6 =>
              intro W hW
              obtain ⟨hW0, hW1, hW2⟩ := hW
              go_simp
              try with_reducible rfl
            try simp only [Act.put, List.getElem_toArray, List.getElem_cons_succ, List.getElem_cons_zero, List.setIfInBounds_toArray, List.set_cons_zero, List.set_cons_succ]
            refine wpAnyU_one 7 (by kernel_rfl) rfl (fun K hK => ?_)
            go_simp
            have hm8 := hm7.alloc (.cells [.int .i64 x].toArray 2)
            refine hK _ _ (fun _ => ?_) ?_
            · have hS := And.intro (hm8.cell m1 2 rfl) (And.intro ((hm8.cell m4 2 rfl).trans (congrArg (fun z => some (Value.slice z t.ob.keys.length t.kc)) hKA.out)) (hcell.out _ _ hm8 m5).1)
              exact hS
            clear hK K
            try simp only [Act.put, List.getElem_toArray, List.getElem_cons_succ, List.getElem_cons_zero, List.setIfInBounds_toArray, List.set_cons_zero, List.set_cons_succ]
            refine wpAnyU_one 8 (by kernel_rfl) rfl (fun K hK => ?_)
            refine step_app rfl _ _ _ rfl 2 iI _ 1 8 ty_Is hiI yz0 yz1 yz2 rfl KA m kc _ rfl hm8.pull3 _ 1 1 [.int .i64 x] rfl (RdC.lit _ _ _ _ _ rfl (by simp [maxLen]) (One.nums .i64 [x])) (by unfold maxLen; omega) (by omega) ?_
            intro K9 kc9 w9 HM9
            have hm9 := HM9.drop2
            clear HM9 hm8
            refine hK _ _ (fun _ => ?_) ?_
            · have hS := And.intro (hm9.cell m1 2 rfl) (And.intro ((hm9.cell m3 2 rfl).trans (congrArg (fun z => some (Value.slice z t.ob.keys.length t.kc)) hKA.out)) (hcell.out _ _ hm9 m4).1)
              exact hS
            clear hK K
            try simp only [Act.put, List.getElem_toArray, List.getElem_cons_succ, List.getElem_cons_zero, List.setIfInBounds_toArray, List.set_cons_zero, List.set_cons_succ]
            refine wpAnyU_one 9 (by kernel_rfl) rfl (fun K hK => ?_)
            go_simp
            refine hK _ _ (fun h => absurd h (by decide)) ?_
            clear hK K
            try simp only [Act.put, List.getElem_toArray, List.getElem_cons_succ, List.getElem_cons_zero, List.setIfInBounds_toArray, List.set_cons_zero, List.set_cons_succ]
            refine wpAnyU_one 10 (by kernel_rfl) rfl (fun K hK => ?_)
            refine step_setat rfl 39 _ _ rfl g10 2 rfl 41 _ [.slice K9 (m + 1) kc9] (obC 7 A m c K9 (m + 1) kc9 0 0 false) (.slice K9 (m + 1) kc9) rfl rfl hm9.swap sz_Is (by simp [obC]) (one_one rfl) rfl ?_
            intro w10 hm10
            refine hK _ _ (fun h => absurd h (by decide)) ?_
            clear hK K hS hm9 hm7
            try simp only [Act.put, List.getElem_toArray, List.getElem_cons_succ, List.getElem_cons_zero, List.setIfInBounds_toArray, List.set_cons_zero, List.set_cons_succ]
            refine wpAnyU_done (by kernel_rfl) ?_ _
            rw [← ek.out] at hm10
            go_upto_region 11 with (fail)
            have hm11 := hm10.drew
            clear hm10
            have hS := And.intro (hm11.cell m0 1 rfl) (And.intro ((hm11.cell m3 1 rfl).trans (congrArg (fun z => some (Value.slice z t.ob.items.length t.c)) hIA.out)) (hcell.out _ _ hm11 m4).2)
            refine wp_region_until (S := fun W => W.cell? ⟨g10, 1, none⟩ = some (.slice A m c) ∧ W.cell? ⟨g8, 1, none⟩ = some (.slice (some ⟨b3, o3, none⟩) t.ob.items.length t.c) ∧ W.rangeAt b3 (o3 + k * 2) (cV y)) 9 (by kernel_rfl) ?_
            generalize w10.drew = w11 at hm11 hS ⊢
            refine wpAnyU_take 0 (v := ?vsj0) rfl (by kernel_rfl) (by kernel_rfl) (fun _ _ _ h => h) hS (Or.inl ⟨rfl, ?ysj0⟩) ?rsj0
            case ysj0 =>
              intro W hW
              obtain ⟨hW0, hW1, hW2⟩ := hW
              go_simp
              try with_reducible rfl
            try simp only [Act.put, List.getElem_toArray, List.getElem_cons_succ, List.getElem_cons_zero, List.setIfInBounds_toArray, List.set_cons_zero, List.set_cons_succ]
            refine wpAnyU_take 1 (v := ?vsj1) rfl (by kernel_rfl) (by kernel_rfl) (fun _ _ _ h => h) hS (Or.inl ⟨rfl, ?ysj1⟩) ?rsj1
            case ysj1 =>
              intro W hW
              obtain ⟨hW0, hW1, hW2⟩ := hW
              go_simp
              try with_reducible rfl
            try simp only [Act.put, List.getElem_toArray, List.getElem_cons_succ, List.getElem_cons_zero, List.setIfInBounds_toArray, List.set_cons_zero, List.set_cons_succ]
            refine wpAnyU_take 2 (v := ?vsj2) rfl (by kernel_rfl) (by kernel_rfl) (fun _ _ _ h => h) hS (Or.inl ⟨rfl, ?ysj2⟩) ?rsj2
            case ysj2 =>
              intro W hW
              obtain ⟨hW0, hW1, hW2⟩ := hW
              go_simp
              try with_reducible rfl
            try simp only [Act.put, List.getElem_toArray, List.getElem_cons_succ, List.getElem_cons_zero, List.setIfInBounds_toArray, List.set_cons_zero, List.set_cons_succ]
            refine wpAnyU_take 3 (v := ?vsj3) rfl (by kernel_rfl) (by kernel_rfl) (fun _ _ _ h => h) hS (Or.inl ⟨rfl, ?ysj3⟩) ?rsj3
            case ysj3 =>
              intro W hW
              obtain ⟨hW0, hW1, hW2⟩ := hW
              go_simp
              try with_reducible rfl
            try simp only [Act.put, List.getElem_toArray, List.getElem_cons_succ, List.getElem_cons_zero, List.setIfInBounds_toArray, List.set_cons_zero, List.set_cons_succ]
            refine wpAnyU_take 4 (v := ?vsj4) rfl (by kernel_rfl) (by kernel_rfl) (fun _ _ _ h => h) hS (Or.inl ⟨rfl, ?ysj4⟩) ?rsj4
            case ysj4 =>
              intro W hW
              obtain ⟨hW0, hW1, hW2⟩ := hW
              go_simp
              try with_reducible rfl
            try simp only [Act.put, List.getElem_toArray, List.getElem_cons_succ, List.getElem_cons_zero, List.setIfInBounds_toArray, List.set_cons_zero, List.set_cons_succ]
            refine wpAnyU_take 5 (v := ?vsj5) rfl (by kernel_rfl) (by kernel_rfl) (fun _ _ _ h => h) hS (Or.inl ⟨rfl, ?ysj5⟩) ?rsj5
            case ysj5 =>
              intro W hW
              obtain ⟨hW0, hW1, hW2⟩ := hW
              go_simp
              try with_reducible rfl
            try simp only [Act.put, List.getElem_toArray, List.getElem_cons_succ, List.getElem_cons_zero, List.setIfInBounds_toArray, List.set_cons_zero, List.set_cons_succ]
            refine wpAnyU_take 6 (v := .agg (cV y).toArray) rfl (by kernel_rfl) (by kernel_rfl) (fun _ _ _ h => h) hS (Or.inl ⟨rfl, ?ysjz⟩) ?rsjz
            case ysjz =>
              intro W hW
              exact run_rng 35 _ rfl b3 (o3 + k * 2) rfl (cV y) hW.2.2 row_V sz_V
            try simp only [Act.put, List.getElem_toArray, List.getElem_cons_succ, List.getElem_cons_zero, List.setIfInBounds_toArray, List.set_cons_zero, List.set_cons_succ]
            refine wpAnyU_one 7 (by kernel_rfl) rfl (fun K hK => ?_)
            go_simp
            have hm12 := hm11.alloc (.cells [.int .i64 y.1, .int .i64 y.2].toArray 35)
            refine hK _ _ (fun _ => ?_) ?_
            · have hS := And.intro (hm12.cell m1 1 rfl) (And.intro ((hm12.cell m4 1 rfl).trans (congrArg (fun z => some (Value.slice z t.ob.items.length t.c)) hIA.out)) (hcell.out _ _ hm12 m5).2)
              exact hS
            clear hK K
            try simp only [Act.put, List.getElem_toArray, List.getElem_cons_succ, List.getElem_cons_zero, List.setIfInBounds_toArray, List.set_cons_zero, List.set_cons_succ]
            refine wpAnyU_one 8 (by kernel_rfl) rfl (fun K hK => ?_)
            refine step_app rfl _ _ _ rfl 35 iV _ 2 16 ty_Vs hiV hz0 hz1 hz2 rfl A m c _ rfl hm12.pull3 _ 1 1 [.int .i64 y.1, .int .i64 y.2] rfl (RdC.lit _ _ _ _ _ rfl (by simp [maxLen]) (cV_one y)) (by unfold maxLen; omega) (by omega) ?_
            intro A9 c9 w13 HM13
            have hm13 := HM13.drop2
            clear HM13 hm12
            refine hK _ _ (fun _ => ?_) ?_
            · have hS := And.intro (hm13.cell m1 1 rfl) (And.intro ((hm13.cell m3 1 rfl).trans (congrArg (fun z => some (Value.slice z t.ob.items.length t.c)) hIA.out)) (hcell.out _ _ hm13 m4).2)
              exact hS
            clear hK K
            try simp only [Act.put, List.getElem_toArray, List.getElem_cons_succ, List.getElem_cons_zero, List.setIfInBounds_toArray, List.set_cons_zero, List.set_cons_succ]
            refine wpAnyU_one 9 (by kernel_rfl) rfl (fun K hK => ?_)
            go_simp
            refine hK _ _ (fun h => absurd h (by decide)) ?_
            clear hK K
            try simp only [Act.put, List.getElem_toArray, List.getElem_cons_succ, List.getElem_cons_zero, List.setIfInBounds_toArray, List.set_cons_zero, List.set_cons_succ]
            refine wpAnyU_one 10 (by kernel_rfl) rfl (fun K hK => ?_)
            refine step_setat rfl 36 _ _ rfl g10 1 rfl 41 _ [.slice A9 (m + 1) c9] (obC 7 A9 (m + 1) c9 K9 (m + 1) kc9 0 0 false) (.slice A9 (m + 1) c9) rfl rfl hm13.swap sz_Vs (by simp [obC]) (one_one rfl) rfl ?_
            intro w14 hm14
            refine hK _ _ (fun h => absurd h (by decide)) ?_
            clear hK K hS hm13 hm11
            try simp only [Act.put, List.getElem_toArray, List.getElem_cons_succ, List.getElem_cons_zero, List.setIfInBounds_toArray, List.set_cons_zero, List.set_cons_succ]
            refine wpAnyU_done (by kernel_rfl) ?_ _
            rw [← ei.out] at hm14
            go_wp2
            go_roundw
            case rel => exact ⟨k + 1, m + 1, A9, c9, K9, kc9, by go_num, by omega, hlen2, hm14⟩
            case measure => exact measP_lt hlt
        · obtain rfl : k = t.ob.keys.length := by omega
          have s2 := hmr.cell m3 2 rfl
          have e1 : (t.ob.keys.take t.ob.keys.length).eraseIdx j = t.ob.keys.eraseIdx j := by rw [List.take_of_length_le (by omega)]
          have e2 : (t.ob.items.take t.ob.keys.length).eraseIdx j = t.ob.items.eraseIdx j := by rw [List.take_of_length_le (by rw [hkl.out]; omega)]
          rw [e1, e2] at hlen hmr
          obtain ⟨l1, l2, l3⟩ := hlen.out
          replace l1 := Fact.mk l1
          replace l2 := Fact.mk l2
          obtain ⟨y', hy'⟩ : ∃ y' : RO, y' = ⟨A, c, KA, kc, ⟨7, t.ob.items.eraseIdx j, t.ob.keys.eraseIdx j, 0, 0, false⟩⟩ := ⟨_, rfl⟩
          have hm15 : Mem w0 wr (RfC r :: RoC y' :: Blk g10 (.cells (cRO y').toArray 41) :: Blk g8 (.cells (cRO t).toArray 41) :: Blk gb (.cells [.int .i64 K, .int .i64 (i : Int)].toArray 35) :: L) := by
            have hc : cRO y' = obC 7 A m c KA m kc 0 0 false := by rw [hy']; unfold cRO; simp only [l1.out, l2.out]
            have h1 := roC_mem (w0 := w0) (w := wr) ⟨A, c, KA, kc, ⟨7, t.ob.items.eraseIdx j, t.ob.keys.eraseIdx j, 0, 0, false⟩⟩ (by simp only [l1.out, l2.out]; exact hmr.back2)
            rw [← hy'] at h1
            rw [hc]
            exact h1.pull3
          have hyo : y'.ob = ⟨7, t.ob.items.eraseIdx j, t.ob.keys.eraseIdx j, 0, 0, false⟩ := by rw [hy']
          have hysz : y'.ob.items.length ≤ 1048576 ∧ y'.ob.keys.length ≤ 1048576 := by rw [hyo]; simp only [l1.out, l2.out]; omega
          replace hyo := Fact.mk hyo
          clear hmr hy' e1 e2 hlen
          go_upto_region 12 with (fail)
          have hm8 := Rf.opn (hm15.drew) i hi
          clear hm15
          obtain ⟨b8, o8, hA8⟩ := OwnAt.addr (hm8.ok _ m1) (by have := OwnAt.cap (hm8.ok _ m1); omega)
          have c2 := hm8.cell m0 2 rfl
          rw [hA8] at c2
          have d1 := hm8.cell (.tail _ (.tail _ (.tail _ (List.mem_append_right _ (.tail _ (.tail _ (.tail _ (.head _)))))))) 1 rfl
          have ry := rng_blk hm8 (.tail _ (.tail _ (.tail _ (List.mem_append_right _ (.tail _ (.head _))))))
          refine wp_region_still_tail 7 (by kernel_rfl) (by kernel_rfl) ?_
          simp only [List.take_succ_cons, List.take_zero, List.drop_succ_cons, List.drop_zero]
          repeat (first | still_step | (refine still_rng rfl 41 _ rfl g10 0 rfl (cRO y') ry row_O sz_O ?_))
          refine wpStill_nil ?_
          have hm9 := hm8.swap
          rw [hA8] at hm9
          clear hm8 c2 d1 ry
          have hfs := flat_set r.xs i hi y' 0 (cRO y') (by rw [cRO_len]; omega) (by rw [cRO_len]; simp [cRO, obC])
          replace hfs := Fact.mk hfs
          go_upto_region 13 with (refine wp_ownat rfl 41 _ _ rfl (o8 + i * 6) (i * 6 + 0) (by omega) rfl (cRO y') _ rfl rfl hm9 sz_O (by rw [flat_len, cRO_len]; omega) (cRO_one y') ?_; intro w9 hm10)
          rw [← hA8] at hm10
          have hz := Rf.put_all i hi _ y' _ hfs.out hm10
          go_wp2
          go_ret
          exact ⟨rfl, r.upd i y', rfl, by rw [Rf.upd_abs, hyo.out], Rf.upd_ok hok.out i y' hysz, hz.drop2.drop2.drop2⟩
end Go.Proofs.YtpibchjkmaghnaaGreat
namespace Go.Proofs.YtpibchjkmaghnaaGreat
open Go.RowKit Go.Mm
set_option maxHeartbeats 1000000
set_option maxRecDepth 100000
set_option linter.unusedSimpArgs false
/-- Keys as texts. -/
def texts (ks : List Int) : List V2 := ks.map fun k => (4, k)
def keysS (s : Hs) (v : V2) : Hs := match s.obAt v 7 with | none => s | some i => s.make true (2 + ((s.objs.getD i ob0).keys.length : Int)) ⟨6, texts (s.objs.getD i ob0).keys, [], 0, 0, false⟩
def keysW (s : Hs) (v : V2) : Sd := match s.obAt v 7 with | none => sdV (0, 0) 0 1 true | some i => s.makeV true (2 + ((s.objs.getD i ob0).keys.length : Int)) 6
theorem texts_snoc (ks : List Int) (k : Nat) (h : k < ks.length) : fV (texts (ks.take (k + 1))) = fV (texts (ks.take k)) ++ [.int .i64 4, .int .i64 (ks.getD k 0)] := by
  rw [take_snoc' ks k h]
  unfold texts
  rw [List.map_append, fV_app]
  rfl
theorem refKeys_ok (w0 w : World) (L : List Chunk) (r : Rf) (hm : Mem w0 w (RfC r :: L)) (hok : Fact r.Ok) (hg : Fact r.abs.Good) (K N : Int) (hl : r.xs.length < 16777216) :
    Calls Tryz.prog 61 #[.pointer (some ⟨r.g, 0, none⟩), .agg #[.int .i64 K, .int .i64 N]] w fun e w' => e = .returned (.tuple #[.agg #[.int .i64 (keysW r.abs (K, N)).v.1, .int .i64 (keysW r.abs (K, N)).v.2], .int .i64 (keysW r.abs (K, N)).trap, .bool (keysW r.abs (K, N)).ok]) ∧ RfQ w0 L r.g (keysS r.abs (K, N)) w' := by
  obtain ⟨iV, hiV, hz0, hz1, hz2⟩ := info_parts inf_V
  have his := fun (w1 : World) (L1 : List Chunk) (hm1 : Mem w0 w1 L1) (hh : RfC r ∈ L1) => refIs_ok w0 w1 L1 r hm1 hh hok hg K N 7
  unfold keysW keysS
  cases hob : r.abs.obAt (K, N) 7 with
  | none =>
    rw [hob] at his
    simp only [Option.isSome] at his
    replace his := Fact.mk his
    go_enter Tryz.func61, Tryz.ntmps61
    go_upto_region 1 with (fail)
    have hm1 := ((hm.alloc (.cells [.int .i64 K, .int .i64 N].toArray 35)).alloc (.cells [.int .i64 0, .int .i64 0].toArray 35))
    simp only [World.size_alloc] at hm1
    generalize hgb : w.heap.size = gb at hm1 ⊢
    generalize hw1 : ((w.alloc (.cells [.int .i64 K, .int .i64 N].toArray 35)).alloc (.cells [.int .i64 0, .int .i64 0].toArray 35)) = w1 at hm1
    try refine wp_world hw1 ?_
    clear hw1 hgb
    go_wp2_with (refine wp_rng rfl 35 _ rfl gb 0 rfl (cV (K, N)) (rng_blk hm1 m1) row_V sz_V ?_)
    refine (his.out w1 _ hm1 m2).mono ?_
    rintro e w2 ⟨rfl, hg2⟩
    have hm2 := hm1.gr hg2
    clear hm1 hg2
    go_wp2_with (refine wp_setrow rfl 35 _ _ rfl (gb + 1) rfl 35 _ [.int .i64 0, .int .i64 0] rfl hm2 sz_V rfl (cV_one (0, 0)) ?_; intro w3 hm3)
    exact bodyPost_ret (Mm.res_cell_tmp2 rfl _ (gb + 1) 35 [.int .i64 0, .int .i64 0] (0, 0) rfl hm3 m0 row_V sz_V) rfl ⟨rfl, r, rfl, rfl, hok.out, hm3.tail.tail⟩
  | some i =>
    rw [hob] at his
    simp only [Option.isSome] at his
    replace his := Fact.mk his
    have hkd7 := (Hs.obAt_lt hob).2.2.2
    obtain ⟨hi, hN, hK, hkd⟩ := Hs.obAt_lt hob
    rw [r.abs_len] at hi
    simp only at hN hK
    subst hN
    clear hK hkd
    simp only [r.at_abs hi]
    have hsz := hok.out.each (r.xs.getD i ro0) (by rw [List.getD_eq_getElem?_getD, List.getElem?_eq_getElem hi]; exact List.getElem_mem hi)
    obtain ⟨t, ht⟩ : ∃ t, r.xs.getD i ro0 = t := ⟨_, rfl⟩
    have hto : r.abs.objs.getD i ob0 = t.ob := by rw [r.at_abs hi, ht]
    rw [ht] at hsz ⊢
    rw [hto] at hkd7
    have hgo := hg.out t.ob (by rw [← hto, List.getD_eq_getElem?_getD, List.getElem?_eq_getElem (by rw [r.abs_len]; exact hi)]; exact List.getElem_mem _)
    have hkl := hgo.keys hkd7
    replace ht := Fact.mk ht
    replace hto := Fact.mk hto
    replace hgo := Fact.mk hgo
    replace hkd7 := Fact.mk hkd7
    replace hkl := Fact.mk hkl
    have hfew := hgo.out.few.2 hkd7.out
    try rw [hto.out]
    obtain ⟨va, vb, vd, hr, hr2⟩ := makeR_parts r.abs true (2 + (t.ob.keys.length : Int)) 6
    rw [hr2]
    have harr := fun (w1 : World) (L1 : List Chunk) (hm1 : Mem w0 w1 (RfC r :: L1)) (A : Option Addr) (c : Nat) (hx : RdC w1 2 (.slice A t.ob.keys.length c) (fV (texts t.ob.keys))) => refArray_ok w0 w1 L1 r hm1 hok A t.ob.keys.length c (texts t.ob.keys) ⟨hx⟩ (by omega) hl
    rw [decide_eq_true (show t.ob.keys.length ≤ 4096 by omega), hr] at harr
    replace harr := Fact.mk harr
    clear hr hr2
    go_enter Tryz.func61, Tryz.ntmps61
    go_upto_region 1 with (fail)
    have hm1 := ((hm.alloc (.cells [.int .i64 K, .int .i64 (i : Int)].toArray 35)).alloc (.cells [.int .i64 0, .int .i64 0].toArray 35))
    simp only [World.size_alloc] at hm1
    generalize hgb : w.heap.size = gb at hm1 ⊢
    generalize hw1 : ((w.alloc (.cells [.int .i64 K, .int .i64 (i : Int)].toArray 35)).alloc (.cells [.int .i64 0, .int .i64 0].toArray 35)) = w1 at hm1
    try refine wp_world hw1 ?_
    clear hw1 hgb
    go_wp2_with (refine wp_rng rfl 35 _ rfl gb 0 rfl (cV (K, (i : Int))) (rng_blk hm1 m1) row_V sz_V ?_)
    refine (his.out w1 _ hm1 m2).mono ?_
    rintro e w2 ⟨rfl, hg2⟩
    have hm2 := hm1.gr hg2
    clear hm1 hg2
    go_upto_region 4 with (fail)
    obtain ⟨_, _, c2, hobs⟩ := Rf.read hm2 m2
    obtain ⟨b, o, hA, hc, _, hrd⟩ := hobs.at i hi
    rw [hA] at c2
    have f2 : w2.cell? ⟨b, o + i * 6 + 2, none⟩ = some (.slice (r.xs.getD i ro0).KA (r.xs.getD i ro0).ob.keys.length (r.xs.getD i ro0).kc) := hc 2 _ rfl
    rw [ht.out] at f2
    have d1 := hm2.cell m1 1 rfl
    clear hc hobs hrd
    replace hA := Fact.mk hA
    go_quiet (fail)
    have hm3 := hm2.drewN nq
    clear hm2 c2 f2 d1
    generalize w2.drewN nq = w3 at hm3 ⊢
    go_wp2
    go_loopw [7, 9] (fun s7 s9 W => ∃ (k : Nat) (A : Option Addr) (c : Nat), s9 = .int .i64 k ∧ k ≤ t.ob.keys.length ∧ s7 = .slice A k c ∧ Mem w0 W (Own 2 (.slice A k c) (fV (texts (t.ob.keys.take k))) :: Blk (gb + 1) (.cells [.int .i64 0, .int .i64 0].toArray 35) :: Blk gb (.cells [.int .i64 K, .int .i64 (i : Int)].toArray 35) :: RfC r :: L)) (fun _ s9 _ => t.ob.keys.length - (intOf s9).toNat)
    case atStart => exact ⟨0, none, 0, rfl, by omega, rfl, Mem.nil hm3 2 none⟩
    case round =>
      obtain ⟨k, A, c, rfl, hk, rfl, hmr⟩ := hrel
      clear hm3
      by_cases hlt : k < t.ob.keys.length
      · skip
        have hrd := (Rf.readX hmr m3 hi ht.out hA.out).2.2
        obtain ⟨b2, o2, hKA, gk, _⟩ := hrd.2.num k hlt
        have hsn := texts_snoc t.ob.keys k hlt
        generalize t.ob.keys.getD k 0 = x at gk hsn
        replace hsn := Fact.mk hsn
        rw [hKA]
        clear hrd
        go_wp2_with (at_builtin; refine wp_app rfl _ _ _ rfl 35 iV _ 2 16 ty_Vs hiV hz0 hz1 hz2 rfl A k c _ rfl (hmr.alloc _).swap _ 1 1 [.int .i64 4, .int .i64 x] rfl (RdC.lit _ _ _ _ _ rfl (by simp [maxLen]) (cV_one (4, x))) (by unfold maxLen; omega) (by omega) ?_; intro A5 c5 w5 HM5)
        rw [← hsn.out] at HM5
        go_roundw
        case rel => exact ⟨k + 1, A5, c5, by go_num, by omega, rfl, HM5.drop2⟩
        case measure => exact measP_lt hlt
      · obtain rfl : k = t.ob.keys.length := by omega
        rw [List.take_of_length_le (Nat.le_refl _)] at hmr
        go_wp2_with fail
        refine (harr.out wr _ hmr.pull3 A c (hmr.rd m0)).mono ?_
        rintro e w6 ⟨rfl, hq⟩
        obtain ⟨r', hr1, hr2, hr3, hm6⟩ := hq
        replace hr1 := Fact.mk hr1
        replace hr2 := Fact.mk hr2
        replace hr3 := Fact.mk hr3
        clear hmr
        go_wp2_with (first | (refine wp_setrow rfl 35 _ _ rfl w6.heap.size rfl 35 _ [.int .i64 va, .int .i64 vb] rfl (hm6.alloc _) sz_V rfl (cV_one (va, vb)) ?_; intro w7 hm7) | (refine wp_rng rfl 35 _ rfl w6.heap.size 0 rfl [.int .i64 va, .int .i64 vb] (rng_blk hm7 m0) row_V sz_V ?_) | (refine wp_setrow rfl 35 _ _ rfl (gb + 1) rfl 35 _ [.int .i64 va, .int .i64 vb] rfl hm7.pull3 sz_V rfl (cV_one (va, vb)) ?_; intro w8 hm8))
        exact bodyPost_ret (Mm.res_cell_tmp2 rfl _ (gb + 1) 35 [.int .i64 va, .int .i64 vb] (0, 0) rfl hm8 m0 row_V sz_V) rfl ⟨rfl, r', hr1.out, hr2.out, hr3.out, hm8.tail.tail.drop2.drop2⟩
end Go.Proofs.YtpibchjkmaghnaaGreat
namespace Go.Proofs.YtpibchjkmaghnaaGreat
open Go.RowKit Go.Mm
set_option maxHeartbeats 1000000
set_option maxRecDepth 100000
set_option linter.unusedSimpArgs false
theorem texts_fill (ks : List Int) (k : Nat) (h : k < ks.length) : (texts (ks.take k) ++ List.replicate (ks.length - k) ((0, 0) : V2)).set k (4, ks.getD k 0) = texts (ks.take (k + 1)) ++ List.replicate (ks.length - (k + 1)) (0, 0) := by
  have hl : (texts (ks.take k)).length = k := by unfold texts; rw [List.length_map, List.length_take]; omega
  rw [List.set_append_right _ _ (by omega), hl, Nat.sub_self, show ks.length - k = (ks.length - (k + 1)) + 1 by omega, List.replicate_succ, List.set_cons_zero, take_snoc' ks k h]
  unfold texts
  rw [List.map_append]
  simp
theorem keys_any (w0 w : World) (L : List Chunk) (h : Hp) (hm : Mem w0 w (HpC h :: L)) (hok : Fact h.Ok) (hf : h.abs.Few) (K N : Int) (hl : h.ths.length < 16777216) :
    Calls Tryz.prog 90 #[.pointer (some ⟨h.g, 0, none⟩), .agg #[.int .i64 K, .int .i64 N]] w fun e w' => e = .returned (.tuple #[.agg #[.int .i64 (keysW h.abs (K, N)).v.1, .int .i64 (keysW h.abs (K, N)).v.2], .int .i64 (keysW h.abs (K, N)).trap, .bool (keysW h.abs (K, N)).ok]) ∧ HpQ w0 L h.g (keysS h.abs (K, N)) w' := by
  obtain ⟨iV, hiV, hz0, hz1, hz2⟩ := info_parts inf_V
  unfold keysW keysS
  rcases asK_of (h := h) (v := (K, N)) (k := 7) with ⟨has, hob⟩ | ⟨i, hil, hn, hk, hob, has⟩
  · rw [hob]
    replace has := Fact.mk has
    clear hob
    go_enter Tryz.func90, Tryz.ntmps90
    go_upto_region 1 with (fail)
    have hm1 := ((hm.alloc (.cells [.int .i64 K, .int .i64 N].toArray 35)).alloc (.cells [.int .i64 0, .int .i64 0].toArray 35))
    simp only [World.size_alloc] at hm1
    generalize hgb : w.heap.size = gb at hm1 ⊢
    generalize hw1 : ((w.alloc (.cells [.int .i64 K, .int .i64 N].toArray 35)).alloc (.cells [.int .i64 0, .int .i64 0].toArray 35)) = w1 at hm1
    try refine wp_world hw1 ?_
    clear hw1 hgb
    go_wp2_with (refine wp_rng rfl 35 _ rfl gb 0 rfl (cV (K, N)) (rng_blk hm1 m1) row_V sz_V ?_)
    refine (record_at w0 w1 _ h hm1 m2 hok K N).mono ?_
    rintro e w2 ⟨rfl, hg2⟩
    rw [has.out]
    simp only [trapK]
    have hm2 := hm1.gr hg2
    clear hm1 hg2
    go_wp2_with (refine wp_setrow rfl 35 _ _ rfl (gb + 1) rfl 35 _ [.int .i64 0, .int .i64 0] rfl hm2 sz_V rfl (cV_one (0, 0)) ?_; intro w3 hm3)
    exact bodyPost_ret (Mm.res_cell_tmp2 rfl _ (gb + 1) 35 [.int .i64 0, .int .i64 0] (0, 0) rfl hm3 m0 row_V sz_V) rfl ⟨rfl, h, rfl, rfl, hok.out, hm3.tail.tail⟩
  · obtain ⟨t, ht⟩ : ∃ t, h.ths.getD i th0 = t := ⟨_, rfl⟩
    rw [hob]
    simp only [show h.abs.objs = h.objs from rfl, ob_at hil, ht]
    have htk := th_ok hok.out hil
    rw [ht] at hk has htk
    have hfew : t.ob.keys.length ≤ 256 := (hf t.ob (by rw [← ht, ← ob_at hil]; show h.objs.getD i ob0 ∈ h.objs; rw [List.getD_eq_getElem?_getD, List.getElem?_eq_getElem (by rw [h.abs_len]; exact hil)]; exact List.getElem_mem _)).2 hk
    obtain ⟨va, vb, vd, hr, hr2⟩ := makeR_parts h.abs true (2 + (t.ob.keys.length : Int)) 6
    rw [hr2]
    replace ht := Fact.mk ht
    replace hk := Fact.mk hk
    replace has := Fact.mk has
    have htl : (texts t.ob.keys).length = t.ob.keys.length := by unfold texts; rw [List.length_map]
    have e1 : IntKind.i64.wrap (2 + (t.ob.keys.length : Int)) = 2 + t.ob.keys.length := IntWalk.i64_in _ (by omega)
    replace htl := Fact.mk htl
    replace hr := Fact.mk hr
    clear hr2 htk hn hob
    go_enter Tryz.func90, Tryz.ntmps90
    go_upto_region 1 with (fail)
    have hm1 := ((hm.alloc (.cells [.int .i64 K, .int .i64 N].toArray 35)).alloc (.cells [.int .i64 0, .int .i64 0].toArray 35))
    simp only [World.size_alloc] at hm1
    generalize hgb : w.heap.size = gb at hm1 ⊢
    generalize hw1 : ((w.alloc (.cells [.int .i64 K, .int .i64 N].toArray 35)).alloc (.cells [.int .i64 0, .int .i64 0].toArray 35)) = w1 at hm1
    try refine wp_world hw1 ?_
    clear hw1 hgb
    go_wp2_with (refine wp_rng rfl 35 _ rfl gb 0 rfl (cV (K, N)) (rng_blk hm1 m1) row_V sz_V ?_)
    refine (record_at w0 w1 _ h hm1 m2 hok K N).mono ?_
    rintro e w2 ⟨rfl, hg2⟩
    rw [has.out]
    simp only [trapK]
    have hm2 := hm1.gr hg2
    clear hm1 hg2
    obtain ⟨c0, _⟩ := Hp.readR (hm2.pull2) i hil t ht.out hk.out
    go_upto_region 5 with (at_make; refine wp_make cV (0, 0) 2 16 (by omega) cV_len cV_one rfl _ _ _ 35 rfl ty_Vs iV _ hiV hz0 hz1 hz2 rfl _ t.ob.keys.length rfl rfl rfl (by omega) (by unfold maxLen; omega) hm2 ?_; intro g5 w4 hm4)
    clear c0 hm2
    obtain ⟨c0, _⟩ := Hp.readR (hm4.pull3) i hil t ht.out hk.out
    have hm4 : Mem w0 w4 (Own 2 (.slice (some ⟨g5, 0, none⟩) t.ob.keys.length t.ob.keys.length) (fV (texts (t.ob.keys.take 0) ++ List.replicate (t.ob.keys.length - 0) ((0, 0) : V2))) :: Blk (gb + 1) (.cells [.int .i64 0, .int .i64 0].toArray 35) :: Blk gb (.cells [.int .i64 K, .int .i64 N].toArray 35) :: HpC h :: L) := hm4
    go_wp2
    go_loopw [35] (fun s35 W => ∃ (k : Nat), s35 = .int .i64 k ∧ k ≤ t.ob.keys.length ∧ Mem w0 W (Own 2 (.slice (some ⟨g5, 0, none⟩) t.ob.keys.length t.ob.keys.length) (fV (texts (t.ob.keys.take k) ++ List.replicate (t.ob.keys.length - k) ((0, 0) : V2))) :: Blk (gb + 1) (.cells [.int .i64 0, .int .i64 0].toArray 35) :: Blk gb (.cells [.int .i64 K, .int .i64 N].toArray 35) :: HpC h :: L)) (fun s35 _ => t.ob.keys.length - (intOf s35).toNat)
    case atStart => exact ⟨0, rfl, by omega, hm4⟩
    case round =>
      obtain ⟨k, rfl, hkk, hmr⟩ := hrel
      clear hm4 c0
      by_cases hlt : k < t.ob.keys.length
      · skip
        obtain ⟨_, _, _, _, hrd, _⟩ := Hp.readR (hmr.pull3) i hil t ht.out hk.out
        obtain ⟨b2, o2, hKA, gk, _⟩ := hrd.num k hlt
        have hfl := texts_fill t.ob.keys k hlt
        generalize t.ob.keys.getD k 0 = x at gk hfl
        have hsl : (texts (t.ob.keys.take k) ++ List.replicate (t.ob.keys.length - k) ((0, 0) : V2)).length = t.ob.keys.length := by unfold texts; rw [List.length_append, List.length_map, List.length_take, List.length_replicate]; omega
        obtain ⟨C, hC⟩ : ∃ C, texts (t.ob.keys.take k) ++ List.replicate (t.ob.keys.length - k) ((0, 0) : V2) = C := ⟨_, rfl⟩
        rw [hC] at hfl hsl hmr
        have hset := fV_set C k (4, x) (by omega)
        rw [hfl] at hset
        replace hset : (fV C).take (k * 2) ++ [(.int .i64 4 : Value), .int .i64 x] ++ (fV C).drop (k * 2 + 2) = _ := hset
        replace hset := Fact.mk hset
        replace hsl := Fact.mk hsl
        rw [hKA]
        clear hrd hC hfl
        go_wp2_with (refine wp_ownrow rfl 35 _ _ rfl (k * 2) (k * 2) (by omega) rfl [.int .i64 4, .int .i64 x] rfl hmr sz_V (by rw [fV_len, hsl.out]; simp; omega) (cV_one (4, x)) ?_; intro w5 hm5)
        go_roundw
        case rel => exact ⟨k + 1, by go_num, by omega, by rw [← hset.out]; exact hm5⟩
        case measure => exact measP_lt hlt
      · obtain rfl : k = t.ob.keys.length := by omega
        rw [Nat.sub_self, List.replicate_zero, List.append_nil, List.take_of_length_le (Nat.le_refl _)] at hmr
        go_wp2_with fail
        have hm6 := mkT_mem wr.heap.size (some ⟨g5, 0, none⟩) t.ob.keys.length t.ob.keys.length 6 (texts t.ob.keys) 0 0 [.slice (some ⟨g5, 0, none⟩) t.ob.keys.length t.ob.keys.length] 116 rfl rfl (hmr.alloc (.cells [.slice (some ⟨g5, 0, none⟩) t.ob.keys.length t.ob.keys.length].toArray 116))
        have hput := put_ok w0 _ _ h (mkT wr.heap.size (some ⟨g5, 0, none⟩) t.ob.keys.length t.ob.keys.length 6 (texts t.ob.keys) 0 0) (hm6.pull3.perm ((List.Perm.refl _))) hok (2 + (t.ob.keys.length : Int)) hl ⟨mkT_ok _ _ _ _ (.inl rfl) (by rw [htl.out]; omega) (fun _ => rfl) (fun _ => rfl)⟩
        rw [show (mkT wr.heap.size (some ⟨g5, 0, none⟩) t.ob.keys.length t.ob.keys.length 6 (texts t.ob.keys) 0 0).ob.kind = 6 from rfl, hr.out] at hput
        refine hput.mono ?_
        rintro e w7 ⟨rfl, hq⟩
        obtain ⟨h', hg', ha', hok', hm7⟩ := hq
        replace hg' := Fact.mk hg'
        replace ha' := Fact.mk ha'
        replace hok' := Fact.mk hok'
        clear hput hm6 hmr
        go_wp2_with (first | (refine wp_setrow rfl 35 _ _ rfl w7.heap.size rfl 35 _ [.int .i64 va, .int .i64 vb] rfl (hm7.alloc _) sz_V rfl (cV_one (va, vb)) ?_; intro w8 hm8) | (refine wp_rng rfl 35 _ rfl w7.heap.size 0 rfl [.int .i64 va, .int .i64 vb] (rng_blk hm8 m0) row_V sz_V ?_) | (refine wp_setrow rfl 35 _ _ rfl (gb + 1) rfl 35 _ [.int .i64 va, .int .i64 vb] rfl hm8.pull2 sz_V rfl (cV_one (va, vb)) ?_; intro w9 hm9))
        exact bodyPost_ret (Mm.res_cell_tmp2 rfl _ (gb + 1) 35 [.int .i64 va, .int .i64 vb] (0, 0) rfl hm9 m0 row_V sz_V) rfl ⟨rfl, h', hg'.out, ha'.out, hok'.out, hm9.tail.tail.drop2⟩
end Go.Proofs.YtpibchjkmaghnaaGreat
namespace Go.Proofs.YtpibchjkmaghnaaGreat
open Go.RowKit Go.Mm
set_option maxHeartbeats 4000000
set_option maxRecDepth 100000
set_option linter.unusedSimpArgs false
theorem askM_field (w0 w : World) (L : List Chunk) (h : Hp) (hm : Mem w0 w (HpC h :: L)) (hok : Fact h.Ok) (o : HOp) (hw : Fact ((Lit.int .i64 o.I).wf = true)) :
    Calls Tryz.prog 77 #[.pointer (some ⟨h.g, 0, none⟩), .int .i64 11, .agg (cHO o).toArray] w fun e w' => ∃ v, e = .returned v ∧ AskQ w0 L h.g (h.abs) (sdV (fieldV h.abs o.v o.I) 0 (fieldT h.abs o.v o.I) false) v w' := by
  go_enter Tryz.func77, Tryz.ntmps77
  go_upto_region 2 with (fail)
  have hm1 := ((hm.alloc (.cells (cHO o).toArray 38)).alloc (.cells (sC 0 0 0 0 false 0 none 0 0 none 0 0 0 0 false none 0 0).toArray 43)).alloc (.cells (sC 0 0 0 0 false 0 none 0 0 none 0 0 0 0 false none 0 0).toArray 43)
  simp only [World.size_alloc] at hm1
  generalize hgb : w.heap.size = g at hm1 ⊢
  generalize hw1 : ((w.alloc (.cells (cHO o).toArray 38)).alloc (.cells (sC 0 0 0 0 false 0 none 0 0 none 0 0 0 0 false none 0 0).toArray 43)).alloc (.cells (sC 0 0 0 0 false 0 none 0 0 none 0 0 0 0 false none 0 0).toArray 43) = w1 at hm1
  try refine wp_world hw1 ?_
  clear hw1 hgb
  replace hm1 := hm1.pull3
  have x2 := hm1.cell m3 2 rfl
  have x3 := hm1.cell m3 3 rfl
  have x6 := hm1.cell m3 6 rfl
  go_wp2_with (first | (refine wp_rng rfl 35 _ rfl g 2 rfl (cV o.v) (rng2 x2 x3) row_V sz_V ?_))
  refine (field_any w0 w1 (Blk (g + 1 + 1) (.cells (sC 0 0 0 0 false 0 none 0 0 none 0 0 0 0 false none 0 0).toArray 43) :: Blk (g + 1) (.cells (sC 0 0 0 0 false 0 none 0 0 none 0 0 0 0 false none 0 0).toArray 43) :: Blk g (.cells (cHO o).toArray 38) :: L) h hm1 hok o.v.1 o.v.2 o.I hw).mono ?_
  rintro e w2 ⟨rfl, hm2⟩
  rw [show ((o.v.1, o.v.2) : V2) = o.v from rfl]
  obtain ⟨gv, hgv⟩ : ∃ z, z = fieldV h.abs o.v o.I := ⟨_, rfl⟩
  rw [← hgv]
  replace hgv := Fact.mk hgv
  obtain ⟨gt, hgt⟩ : ∃ z, z = fieldT h.abs o.v o.I := ⟨_, rfl⟩
  rw [← hgt]
  replace hgt := Fact.mk hgt
  go_wp2_with (first | (refine wp_setat rfl 35 _ _ rfl (g + 1 + 1) 0 rfl 43 _ [.int .i64 gv.1, .int .i64 gv.2] (sC gv.1 gv.2 0 0 false 0 none 0 0 none 0 0 0 0 false none 0 0) (.agg #[.int .i64 gv.1, .int .i64 gv.2]) rfl rfl hm2.swap sz_V (by simp [sC, obC]) (cV_one gv) rfl ?_; intro w3 hs3) | (refine wp_setat rfl 3 _ _ rfl (g + 1 + 1) 3 rfl 43 _ [.int .i64 gt] (sC gv.1 gv.2 0 gt false 0 none 0 0 none 0 0 0 0 false none 0 0) (.int .i64 gt) rfl rfl hs3 sz_int (by simp [sC, obC]) (one_one rfl) rfl ?_; intro w4 hs4) | (refine wp_rng rfl 43 _ rfl (g + 1 + 1) 0 rfl (sC gv.1 gv.2 0 gt false 0 none 0 0 none 0 0 0 0 false none 0 0) (rng_blk hs4 m0) row_S sz_S ?_) | (refine wp_setrow rfl 43 _ _ rfl (g + 1) rfl 43 _ (sC gv.1 gv.2 0 gt false 0 none 0 0 none 0 0 0 0 false none 0 0) rfl hs4.pull2 sz_S rfl (sC_one _ _ _ _ _ _ _ _ _ _ _ _ _ _ _ _ _ _) ?_; intro w5 hs5))
  have hz := hs5.tail.tail.drop2
  refine bodyPost_ret (Mm.res_cell rfl _ (g + 1) 43 (sC gv.1 gv.2 0 gt false 0 none 0 0 none 0 0 0 0 false none 0 0) (0, 0) rfl hs5 m0 row_S sz_S) rfl ?_
  rw [← hgv.out]
  rw [← hgt.out]
  exact ⟨_, rfl, h, rfl, rfl, hok.out, SdQ.plain gv.1 gv.2 0 gt false hz⟩
theorem askM_setf (w0 w : World) (L : List Chunk) (h : Hp) (hm : Mem w0 w (HpC h :: L)) (hok : Fact h.Ok) (o : HOp) (hw : Fact ((Lit.int .i64 o.I).wf = true)) :
    Calls Tryz.prog 77 #[.pointer (some ⟨h.g, 0, none⟩), .int .i64 12, .agg (cHO o).toArray] w fun e w' => ∃ v, e = .returned v ∧ AskQ w0 L h.g (setFS h.abs o.v o.I o.x) (sdV (0, 0) 0 (setFT h.abs o.v o.I) (setFB h.abs o.v o.I)) v w' := by
  go_enter Tryz.func77, Tryz.ntmps77
  go_upto_region 2 with (fail)
  have hm1 := ((hm.alloc (.cells (cHO o).toArray 38)).alloc (.cells (sC 0 0 0 0 false 0 none 0 0 none 0 0 0 0 false none 0 0).toArray 43)).alloc (.cells (sC 0 0 0 0 false 0 none 0 0 none 0 0 0 0 false none 0 0).toArray 43)
  simp only [World.size_alloc] at hm1
  generalize hgb : w.heap.size = g at hm1 ⊢
  generalize hw1 : ((w.alloc (.cells (cHO o).toArray 38)).alloc (.cells (sC 0 0 0 0 false 0 none 0 0 none 0 0 0 0 false none 0 0).toArray 43)).alloc (.cells (sC 0 0 0 0 false 0 none 0 0 none 0 0 0 0 false none 0 0).toArray 43) = w1 at hm1
  try refine wp_world hw1 ?_
  clear hw1 hgb
  replace hm1 := hm1.pull3
  have x2 := hm1.cell m3 2 rfl
  have x3 := hm1.cell m3 3 rfl
  have x6 := hm1.cell m3 6 rfl
  have x4 := hm1.cell m3 4 rfl
  have x5 := hm1.cell m3 5 rfl
  go_wp2_with (first | (refine wp_rng rfl 35 _ rfl g 2 rfl (cV o.v) (rng2 x2 x3) row_V sz_V ?_) | (refine wp_rng rfl 35 _ rfl g 4 rfl (cV o.x) (rng2 x4 x5) row_V sz_V ?_))
  refine (setF_any w0 w1 (Blk (g + 1 + 1) (.cells (sC 0 0 0 0 false 0 none 0 0 none 0 0 0 0 false none 0 0).toArray 43) :: Blk (g + 1) (.cells (sC 0 0 0 0 false 0 none 0 0 none 0 0 0 0 false none 0 0).toArray 43) :: Blk g (.cells (cHO o).toArray 38) :: L) h hm1 hok o.v.1 o.v.2 o.I hw o.x.1 o.x.2).mono ?_
  rintro e w2 ⟨rfl, h', hg', ha', hok', hm2⟩
  rw [show ((o.v.1, o.v.2) : V2) = o.v from rfl]
  obtain ⟨gt, hgt⟩ : ∃ z, z = setFT h.abs o.v o.I := ⟨_, rfl⟩
  rw [← hgt]
  replace hgt := Fact.mk hgt
  obtain ⟨gb, hgb⟩ : ∃ z, z = setFB h.abs o.v o.I := ⟨_, rfl⟩
  rw [← hgb]
  replace hgb := Fact.mk hgb
  go_wp2_with (first | (refine wp_setat rfl 3 _ _ rfl (g + 1 + 1) 3 rfl 43 _ [.int .i64 gt] (sC 0 0 0 gt false 0 none 0 0 none 0 0 0 0 false none 0 0) (.int .i64 gt) rfl rfl hm2.swap sz_int (by simp [sC, obC]) (one_one rfl) rfl ?_; intro w3 hs3) | (refine wp_setat rfl 4 _ _ rfl (g + 1 + 1) 4 rfl 43 _ [.bool gb] (sC 0 0 0 gt gb 0 none 0 0 none 0 0 0 0 false none 0 0) (.bool gb) rfl rfl hs3 sz_bool (by simp [sC, obC]) (one_one rfl) rfl ?_; intro w4 hs4) | (refine wp_rng rfl 43 _ rfl (g + 1 + 1) 0 rfl (sC 0 0 0 gt gb 0 none 0 0 none 0 0 0 0 false none 0 0) (rng_blk hs4 m0) row_S sz_S ?_) | (refine wp_setrow rfl 43 _ _ rfl (g + 1) rfl 43 _ (sC 0 0 0 gt gb 0 none 0 0 none 0 0 0 0 false none 0 0) rfl hs4.pull2 sz_S rfl (sC_one _ _ _ _ _ _ _ _ _ _ _ _ _ _ _ _ _ _) ?_; intro w5 hs5))
  have hz := hs5.tail.tail.drop2
  refine bodyPost_ret (Mm.res_cell rfl _ (g + 1) 43 (sC 0 0 0 gt gb 0 none 0 0 none 0 0 0 0 false none 0 0) (0, 0) rfl hs5 m0 row_S sz_S) rfl ?_
  rw [← hgt.out]
  rw [← hgb.out]
  exact ⟨_, rfl, h', hg', ha', hok', SdQ.plain 0 0 0 gt gb hz⟩
theorem askM_has (w0 w : World) (L : List Chunk) (h : Hp) (hm : Mem w0 w (HpC h :: L)) (hok : Fact h.Ok) (o : HOp) (hw : Fact ((Lit.int .i64 o.I).wf = true)) :
    Calls Tryz.prog 77 #[.pointer (some ⟨h.g, 0, none⟩), .int .i64 13, .agg (cHO o).toArray] w fun e w' => ∃ v, e = .returned v ∧ AskQ w0 L h.g (h.abs) (sdV (0, 0) 0 (hasT h.abs o.v) (hasB h.abs o.v o.I)) v w' := by
  go_enter Tryz.func77, Tryz.ntmps77
  go_upto_region 2 with (fail)
  have hm1 := ((hm.alloc (.cells (cHO o).toArray 38)).alloc (.cells (sC 0 0 0 0 false 0 none 0 0 none 0 0 0 0 false none 0 0).toArray 43)).alloc (.cells (sC 0 0 0 0 false 0 none 0 0 none 0 0 0 0 false none 0 0).toArray 43)
  simp only [World.size_alloc] at hm1
  generalize hgb : w.heap.size = g at hm1 ⊢
  generalize hw1 : ((w.alloc (.cells (cHO o).toArray 38)).alloc (.cells (sC 0 0 0 0 false 0 none 0 0 none 0 0 0 0 false none 0 0).toArray 43)).alloc (.cells (sC 0 0 0 0 false 0 none 0 0 none 0 0 0 0 false none 0 0).toArray 43) = w1 at hm1
  try refine wp_world hw1 ?_
  clear hw1 hgb
  replace hm1 := hm1.pull3
  have x2 := hm1.cell m3 2 rfl
  have x3 := hm1.cell m3 3 rfl
  have x6 := hm1.cell m3 6 rfl
  go_wp2_with (first | (refine wp_rng rfl 35 _ rfl g 2 rfl (cV o.v) (rng2 x2 x3) row_V sz_V ?_))
  refine (has_any w0 w1 (Blk (g + 1 + 1) (.cells (sC 0 0 0 0 false 0 none 0 0 none 0 0 0 0 false none 0 0).toArray 43) :: Blk (g + 1) (.cells (sC 0 0 0 0 false 0 none 0 0 none 0 0 0 0 false none 0 0).toArray 43) :: Blk g (.cells (cHO o).toArray 38) :: L) h hm1 hok o.v.1 o.v.2 o.I hw).mono ?_
  rintro e w2 ⟨rfl, hm2⟩
  rw [show ((o.v.1, o.v.2) : V2) = o.v from rfl]
  obtain ⟨gb, hgb⟩ : ∃ z, z = hasB h.abs o.v o.I := ⟨_, rfl⟩
  rw [← hgb]
  replace hgb := Fact.mk hgb
  obtain ⟨gt, hgt⟩ : ∃ z, z = hasT h.abs o.v := ⟨_, rfl⟩
  rw [← hgt]
  replace hgt := Fact.mk hgt
  go_wp2_with (first | (refine wp_setat rfl 4 _ _ rfl (g + 1 + 1) 4 rfl 43 _ [.bool gb] (sC 0 0 0 0 gb 0 none 0 0 none 0 0 0 0 false none 0 0) (.bool gb) rfl rfl hm2.swap sz_bool (by simp [sC, obC]) (one_one rfl) rfl ?_; intro w3 hs3) | (refine wp_setat rfl 3 _ _ rfl (g + 1 + 1) 3 rfl 43 _ [.int .i64 gt] (sC 0 0 0 gt gb 0 none 0 0 none 0 0 0 0 false none 0 0) (.int .i64 gt) rfl rfl hs3 sz_int (by simp [sC, obC]) (one_one rfl) rfl ?_; intro w4 hs4) | (refine wp_rng rfl 43 _ rfl (g + 1 + 1) 0 rfl (sC 0 0 0 gt gb 0 none 0 0 none 0 0 0 0 false none 0 0) (rng_blk hs4 m0) row_S sz_S ?_) | (refine wp_setrow rfl 43 _ _ rfl (g + 1) rfl 43 _ (sC 0 0 0 gt gb 0 none 0 0 none 0 0 0 0 false none 0 0) rfl hs4.pull2 sz_S rfl (sC_one _ _ _ _ _ _ _ _ _ _ _ _ _ _ _ _ _ _) ?_; intro w5 hs5))
  have hz := hs5.tail.tail.drop2
  refine bodyPost_ret (Mm.res_cell rfl _ (g + 1) 43 (sC 0 0 0 gt gb 0 none 0 0 none 0 0 0 0 false none 0 0) (0, 0) rfl hs5 m0 row_S sz_S) rfl ?_
  rw [← hgb.out]
  rw [← hgt.out]
  exact ⟨_, rfl, h, rfl, rfl, hok.out, SdQ.plain 0 0 0 gt gb hz⟩
theorem askM_delete (w0 w : World) (L : List Chunk) (h : Hp) (hm : Mem w0 w (HpC h :: L)) (hok : Fact h.Ok) (o : HOp) (hw : Fact ((Lit.int .i64 o.I).wf = true)) :
    Calls Tryz.prog 77 #[.pointer (some ⟨h.g, 0, none⟩), .int .i64 14, .agg (cHO o).toArray] w fun e w' => ∃ v, e = .returned v ∧ AskQ w0 L h.g (delS h.abs o.v o.I) (sdV (0, 0) 0 (delT h.abs o.v o.I) false) v w' := by
  go_enter Tryz.func77, Tryz.ntmps77
  go_upto_region 2 with (fail)
  have hm1 := ((hm.alloc (.cells (cHO o).toArray 38)).alloc (.cells (sC 0 0 0 0 false 0 none 0 0 none 0 0 0 0 false none 0 0).toArray 43)).alloc (.cells (sC 0 0 0 0 false 0 none 0 0 none 0 0 0 0 false none 0 0).toArray 43)
  simp only [World.size_alloc] at hm1
  generalize hgb : w.heap.size = g at hm1 ⊢
  generalize hw1 : ((w.alloc (.cells (cHO o).toArray 38)).alloc (.cells (sC 0 0 0 0 false 0 none 0 0 none 0 0 0 0 false none 0 0).toArray 43)).alloc (.cells (sC 0 0 0 0 false 0 none 0 0 none 0 0 0 0 false none 0 0).toArray 43) = w1 at hm1
  try refine wp_world hw1 ?_
  clear hw1 hgb
  replace hm1 := hm1.pull3
  have x2 := hm1.cell m3 2 rfl
  have x3 := hm1.cell m3 3 rfl
  have x6 := hm1.cell m3 6 rfl
  go_wp2_with (first | (refine wp_rng rfl 35 _ rfl g 2 rfl (cV o.v) (rng2 x2 x3) row_V sz_V ?_))
  refine (delete_any w0 w1 (Blk (g + 1 + 1) (.cells (sC 0 0 0 0 false 0 none 0 0 none 0 0 0 0 false none 0 0).toArray 43) :: Blk (g + 1) (.cells (sC 0 0 0 0 false 0 none 0 0 none 0 0 0 0 false none 0 0).toArray 43) :: Blk g (.cells (cHO o).toArray 38) :: L) h hm1 hok o.v.1 o.v.2 o.I hw).mono ?_
  rintro e w2 ⟨rfl, h', hg', ha', hok', hm2⟩
  rw [show ((o.v.1, o.v.2) : V2) = o.v from rfl]
  obtain ⟨gt, hgt⟩ : ∃ z, z = delT h.abs o.v o.I := ⟨_, rfl⟩
  rw [← hgt]
  replace hgt := Fact.mk hgt
  go_wp2_with (first | (refine wp_setat rfl 3 _ _ rfl (g + 1 + 1) 3 rfl 43 _ [.int .i64 gt] (sC 0 0 0 gt false 0 none 0 0 none 0 0 0 0 false none 0 0) (.int .i64 gt) rfl rfl hm2.swap sz_int (by simp [sC, obC]) (one_one rfl) rfl ?_; intro w3 hs3) | (refine wp_rng rfl 43 _ rfl (g + 1 + 1) 0 rfl (sC 0 0 0 gt false 0 none 0 0 none 0 0 0 0 false none 0 0) (rng_blk hs3 m0) row_S sz_S ?_) | (refine wp_setrow rfl 43 _ _ rfl (g + 1) rfl 43 _ (sC 0 0 0 gt false 0 none 0 0 none 0 0 0 0 false none 0 0) rfl hs3.pull2 sz_S rfl (sC_one _ _ _ _ _ _ _ _ _ _ _ _ _ _ _ _ _ _) ?_; intro w4 hs4))
  have hz := hs4.tail.tail.drop2
  refine bodyPost_ret (Mm.res_cell rfl _ (g + 1) 43 (sC 0 0 0 gt false 0 none 0 0 none 0 0 0 0 false none 0 0) (0, 0) rfl hs4 m0 row_S sz_S) rfl ?_
  rw [← hgt.out]
  exact ⟨_, rfl, h', hg', ha', hok', SdQ.plain 0 0 0 gt false hz⟩
theorem askM_keys (w0 w : World) (L : List Chunk) (h : Hp) (hm : Mem w0 w (HpC h :: L)) (hok : Fact h.Ok) (o : HOp) (hf : h.abs.Few) (hl : h.ths.length < 16777216) :
    Calls Tryz.prog 77 #[.pointer (some ⟨h.g, 0, none⟩), .int .i64 15, .agg (cHO o).toArray] w fun e w' => ∃ v, e = .returned v ∧ AskQ w0 L h.g (keysS h.abs o.v) (sdV ((keysW h.abs o.v).v) 0 ((keysW h.abs o.v).trap) ((keysW h.abs o.v).ok)) v w' := by
  go_enter Tryz.func77, Tryz.ntmps77
  go_upto_region 2 with (fail)
  have hm1 := ((hm.alloc (.cells (cHO o).toArray 38)).alloc (.cells (sC 0 0 0 0 false 0 none 0 0 none 0 0 0 0 false none 0 0).toArray 43)).alloc (.cells (sC 0 0 0 0 false 0 none 0 0 none 0 0 0 0 false none 0 0).toArray 43)
  simp only [World.size_alloc] at hm1
  generalize hgb : w.heap.size = g at hm1 ⊢
  generalize hw1 : ((w.alloc (.cells (cHO o).toArray 38)).alloc (.cells (sC 0 0 0 0 false 0 none 0 0 none 0 0 0 0 false none 0 0).toArray 43)).alloc (.cells (sC 0 0 0 0 false 0 none 0 0 none 0 0 0 0 false none 0 0).toArray 43) = w1 at hm1
  try refine wp_world hw1 ?_
  clear hw1 hgb
  replace hm1 := hm1.pull3
  have x2 := hm1.cell m3 2 rfl
  have x3 := hm1.cell m3 3 rfl
  go_wp2_with (first | (refine wp_rng rfl 35 _ rfl g 2 rfl (cV o.v) (rng2 x2 x3) row_V sz_V ?_))
  refine (keys_any w0 w1 (Blk (g + 1 + 1) (.cells (sC 0 0 0 0 false 0 none 0 0 none 0 0 0 0 false none 0 0).toArray 43) :: Blk (g + 1) (.cells (sC 0 0 0 0 false 0 none 0 0 none 0 0 0 0 false none 0 0).toArray 43) :: Blk g (.cells (cHO o).toArray 38) :: L) h hm1 hok hf o.v.1 o.v.2 hl).mono ?_
  rintro e w2 ⟨rfl, h', hg', ha', hok', hm2⟩
  rw [show ((o.v.1, o.v.2) : V2) = o.v from rfl]
  obtain ⟨gv, hgv⟩ : ∃ z, z = (keysW h.abs o.v).v := ⟨_, rfl⟩
  rw [← hgv]
  replace hgv := Fact.mk hgv
  obtain ⟨gt, hgt⟩ : ∃ z, z = (keysW h.abs o.v).trap := ⟨_, rfl⟩
  rw [← hgt]
  replace hgt := Fact.mk hgt
  obtain ⟨gb, hgb⟩ : ∃ z, z = (keysW h.abs o.v).ok := ⟨_, rfl⟩
  rw [← hgb]
  replace hgb := Fact.mk hgb
  go_wp2_with (first | (refine wp_setat rfl 35 _ _ rfl (g + 1 + 1) 0 rfl 43 _ [.int .i64 gv.1, .int .i64 gv.2] (sC gv.1 gv.2 0 0 false 0 none 0 0 none 0 0 0 0 false none 0 0) (.agg #[.int .i64 gv.1, .int .i64 gv.2]) rfl rfl hm2.swap sz_V (by simp [sC, obC]) (cV_one gv) rfl ?_; intro w3 hs3) | (refine wp_setat rfl 3 _ _ rfl (g + 1 + 1) 3 rfl 43 _ [.int .i64 gt] (sC gv.1 gv.2 0 gt false 0 none 0 0 none 0 0 0 0 false none 0 0) (.int .i64 gt) rfl rfl hs3 sz_int (by simp [sC, obC]) (one_one rfl) rfl ?_; intro w4 hs4) | (refine wp_setat rfl 4 _ _ rfl (g + 1 + 1) 4 rfl 43 _ [.bool gb] (sC gv.1 gv.2 0 gt gb 0 none 0 0 none 0 0 0 0 false none 0 0) (.bool gb) rfl rfl hs4 sz_bool (by simp [sC, obC]) (one_one rfl) rfl ?_; intro w5 hs5) | (refine wp_rng rfl 43 _ rfl (g + 1 + 1) 0 rfl (sC gv.1 gv.2 0 gt gb 0 none 0 0 none 0 0 0 0 false none 0 0) (rng_blk hs5 m0) row_S sz_S ?_) | (refine wp_setrow rfl 43 _ _ rfl (g + 1) rfl 43 _ (sC gv.1 gv.2 0 gt gb 0 none 0 0 none 0 0 0 0 false none 0 0) rfl hs5.pull2 sz_S rfl (sC_one _ _ _ _ _ _ _ _ _ _ _ _ _ _ _ _ _ _) ?_; intro w6 hs6))
  have hz := hs6.tail.tail.drop2
  refine bodyPost_ret (Mm.res_cell rfl _ (g + 1) 43 (sC gv.1 gv.2 0 gt gb 0 none 0 0 none 0 0 0 0 false none 0 0) (0, 0) rfl hs6 m0 row_S sz_S) rfl ?_
  rw [← hgv.out]
  rw [← hgt.out]
  rw [← hgb.out]
  exact ⟨_, rfl, h', hg', ha', hok', SdQ.plain gv.1 gv.2 0 gt gb hz⟩
theorem askM_send (w0 w : World) (L : List Chunk) (h : Hp) (hm : Mem w0 w (HpC h :: L)) (hok : Fact h.Ok) (o : HOp) (hf : h.abs.Few) :
    Calls Tryz.prog 77 #[.pointer (some ⟨h.g, 0, none⟩), .int .i64 16, .agg (cHO o).toArray] w fun e w' => ∃ v, e = .returned v ∧ AskQ w0 L h.g (sendS h.abs o.v o.x) (sdV (0, 0) 0 (sendT h.abs o.v) (sendB h.abs o.v)) v w' := by
  go_enter Tryz.func77, Tryz.ntmps77
  go_upto_region 2 with (fail)
  have hm1 := ((hm.alloc (.cells (cHO o).toArray 38)).alloc (.cells (sC 0 0 0 0 false 0 none 0 0 none 0 0 0 0 false none 0 0).toArray 43)).alloc (.cells (sC 0 0 0 0 false 0 none 0 0 none 0 0 0 0 false none 0 0).toArray 43)
  simp only [World.size_alloc] at hm1
  generalize hgb : w.heap.size = g at hm1 ⊢
  generalize hw1 : ((w.alloc (.cells (cHO o).toArray 38)).alloc (.cells (sC 0 0 0 0 false 0 none 0 0 none 0 0 0 0 false none 0 0).toArray 43)).alloc (.cells (sC 0 0 0 0 false 0 none 0 0 none 0 0 0 0 false none 0 0).toArray 43) = w1 at hm1
  try refine wp_world hw1 ?_
  clear hw1 hgb
  replace hm1 := hm1.pull3
  have x2 := hm1.cell m3 2 rfl
  have x3 := hm1.cell m3 3 rfl
  have x4 := hm1.cell m3 4 rfl
  have x5 := hm1.cell m3 5 rfl
  go_wp2_with (first | (refine wp_rng rfl 35 _ rfl g 2 rfl (cV o.v) (rng2 x2 x3) row_V sz_V ?_) | (refine wp_rng rfl 35 _ rfl g 4 rfl (cV o.x) (rng2 x4 x5) row_V sz_V ?_))
  refine (send_any w0 w1 (Blk (g + 1 + 1) (.cells (sC 0 0 0 0 false 0 none 0 0 none 0 0 0 0 false none 0 0).toArray 43) :: Blk (g + 1) (.cells (sC 0 0 0 0 false 0 none 0 0 none 0 0 0 0 false none 0 0).toArray 43) :: Blk g (.cells (cHO o).toArray 38) :: L) h hm1 hok hf o.v.1 o.v.2 o.x.1 o.x.2).mono ?_
  rintro e w2 ⟨rfl, h', hg', ha', hok', hm2⟩
  rw [show ((o.v.1, o.v.2) : V2) = o.v from rfl]
  obtain ⟨gb, hgb⟩ : ∃ z, z = sendB h.abs o.v := ⟨_, rfl⟩
  rw [← hgb]
  replace hgb := Fact.mk hgb
  obtain ⟨gt, hgt⟩ : ∃ z, z = sendT h.abs o.v := ⟨_, rfl⟩
  rw [← hgt]
  replace hgt := Fact.mk hgt
  go_wp2_with (first | (refine wp_setat rfl 4 _ _ rfl (g + 1 + 1) 4 rfl 43 _ [.bool gb] (sC 0 0 0 0 gb 0 none 0 0 none 0 0 0 0 false none 0 0) (.bool gb) rfl rfl hm2.swap sz_bool (by simp [sC, obC]) (one_one rfl) rfl ?_; intro w3 hs3) | (refine wp_setat rfl 3 _ _ rfl (g + 1 + 1) 3 rfl 43 _ [.int .i64 gt] (sC 0 0 0 gt gb 0 none 0 0 none 0 0 0 0 false none 0 0) (.int .i64 gt) rfl rfl hs3 sz_int (by simp [sC, obC]) (one_one rfl) rfl ?_; intro w4 hs4) | (refine wp_rng rfl 43 _ rfl (g + 1 + 1) 0 rfl (sC 0 0 0 gt gb 0 none 0 0 none 0 0 0 0 false none 0 0) (rng_blk hs4 m0) row_S sz_S ?_) | (refine wp_setrow rfl 43 _ _ rfl (g + 1) rfl 43 _ (sC 0 0 0 gt gb 0 none 0 0 none 0 0 0 0 false none 0 0) rfl hs4.pull2 sz_S rfl (sC_one _ _ _ _ _ _ _ _ _ _ _ _ _ _ _ _ _ _) ?_; intro w5 hs5))
  have hz := hs5.tail.tail.drop2
  refine bodyPost_ret (Mm.res_cell rfl _ (g + 1) 43 (sC 0 0 0 gt gb 0 none 0 0 none 0 0 0 0 false none 0 0) (0, 0) rfl hs5 m0 row_S sz_S) rfl ?_
  rw [← hgb.out]
  rw [← hgt.out]
  exact ⟨_, rfl, h', hg', ha', hok', SdQ.plain 0 0 0 gt gb hz⟩
theorem askM_recv (w0 w : World) (L : List Chunk) (h : Hp) (hm : Mem w0 w (HpC h :: L)) (hok : Fact h.Ok) (o : HOp) :
    Calls Tryz.prog 77 #[.pointer (some ⟨h.g, 0, none⟩), .int .i64 17, .agg (cHO o).toArray] w fun e w' => ∃ v, e = .returned v ∧ AskQ w0 L h.g (recvS h.abs o.v) (sdV (recvV h.abs o.v) 0 (recvT h.abs o.v) (recvB h.abs o.v)) v w' := by
  go_enter Tryz.func77, Tryz.ntmps77
  go_upto_region 2 with (fail)
  have hm1 := ((hm.alloc (.cells (cHO o).toArray 38)).alloc (.cells (sC 0 0 0 0 false 0 none 0 0 none 0 0 0 0 false none 0 0).toArray 43)).alloc (.cells (sC 0 0 0 0 false 0 none 0 0 none 0 0 0 0 false none 0 0).toArray 43)
  simp only [World.size_alloc] at hm1
  generalize hgb : w.heap.size = g at hm1 ⊢
  generalize hw1 : ((w.alloc (.cells (cHO o).toArray 38)).alloc (.cells (sC 0 0 0 0 false 0 none 0 0 none 0 0 0 0 false none 0 0).toArray 43)).alloc (.cells (sC 0 0 0 0 false 0 none 0 0 none 0 0 0 0 false none 0 0).toArray 43) = w1 at hm1
  try refine wp_world hw1 ?_
  clear hw1 hgb
  replace hm1 := hm1.pull3
  have x2 := hm1.cell m3 2 rfl
  have x3 := hm1.cell m3 3 rfl
  go_wp2_with (first | (refine wp_rng rfl 35 _ rfl g 2 rfl (cV o.v) (rng2 x2 x3) row_V sz_V ?_))
  refine (recv_any w0 w1 (Blk (g + 1 + 1) (.cells (sC 0 0 0 0 false 0 none 0 0 none 0 0 0 0 false none 0 0).toArray 43) :: Blk (g + 1) (.cells (sC 0 0 0 0 false 0 none 0 0 none 0 0 0 0 false none 0 0).toArray 43) :: Blk g (.cells (cHO o).toArray 38) :: L) h hm1 hok o.v.1 o.v.2).mono ?_
  rintro e w2 ⟨rfl, h', hg', ha', hok', hm2⟩
  rw [show ((o.v.1, o.v.2) : V2) = o.v from rfl]
  obtain ⟨gv, hgv⟩ : ∃ z, z = recvV h.abs o.v := ⟨_, rfl⟩
  rw [← hgv]
  replace hgv := Fact.mk hgv
  obtain ⟨gb, hgb⟩ : ∃ z, z = recvB h.abs o.v := ⟨_, rfl⟩
  rw [← hgb]
  replace hgb := Fact.mk hgb
  obtain ⟨gt, hgt⟩ : ∃ z, z = recvT h.abs o.v := ⟨_, rfl⟩
  rw [← hgt]
  replace hgt := Fact.mk hgt
  go_wp2_with (first | (refine wp_setat rfl 35 _ _ rfl (g + 1 + 1) 0 rfl 43 _ [.int .i64 gv.1, .int .i64 gv.2] (sC gv.1 gv.2 0 0 false 0 none 0 0 none 0 0 0 0 false none 0 0) (.agg #[.int .i64 gv.1, .int .i64 gv.2]) rfl rfl hm2.swap sz_V (by simp [sC, obC]) (cV_one gv) rfl ?_; intro w3 hs3) | (refine wp_setat rfl 4 _ _ rfl (g + 1 + 1) 4 rfl 43 _ [.bool gb] (sC gv.1 gv.2 0 0 gb 0 none 0 0 none 0 0 0 0 false none 0 0) (.bool gb) rfl rfl hs3 sz_bool (by simp [sC, obC]) (one_one rfl) rfl ?_; intro w4 hs4) | (refine wp_setat rfl 3 _ _ rfl (g + 1 + 1) 3 rfl 43 _ [.int .i64 gt] (sC gv.1 gv.2 0 gt gb 0 none 0 0 none 0 0 0 0 false none 0 0) (.int .i64 gt) rfl rfl hs4 sz_int (by simp [sC, obC]) (one_one rfl) rfl ?_; intro w5 hs5) | (refine wp_rng rfl 43 _ rfl (g + 1 + 1) 0 rfl (sC gv.1 gv.2 0 gt gb 0 none 0 0 none 0 0 0 0 false none 0 0) (rng_blk hs5 m0) row_S sz_S ?_) | (refine wp_setrow rfl 43 _ _ rfl (g + 1) rfl 43 _ (sC gv.1 gv.2 0 gt gb 0 none 0 0 none 0 0 0 0 false none 0 0) rfl hs5.pull2 sz_S rfl (sC_one _ _ _ _ _ _ _ _ _ _ _ _ _ _ _ _ _ _) ?_; intro w6 hs6))
  have hz := hs6.tail.tail.drop2
  refine bodyPost_ret (Mm.res_cell rfl _ (g + 1) 43 (sC gv.1 gv.2 0 gt gb 0 none 0 0 none 0 0 0 0 false none 0 0) (0, 0) rfl hs6 m0 row_S sz_S) rfl ?_
  rw [← hgv.out]
  rw [← hgb.out]
  rw [← hgt.out]
  exact ⟨_, rfl, h', hg', ha', hok', SdQ.plain gv.1 gv.2 0 gt gb hz⟩
theorem askM_shut (w0 w : World) (L : List Chunk) (h : Hp) (hm : Mem w0 w (HpC h :: L)) (hok : Fact h.Ok) (o : HOp) :
    Calls Tryz.prog 77 #[.pointer (some ⟨h.g, 0, none⟩), .int .i64 18, .agg (cHO o).toArray] w fun e w' => ∃ v, e = .returned v ∧ AskQ w0 L h.g (shutS h.abs o.v) (sdV (0, 0) 0 (shutT h.abs o.v) false) v w' := by
  go_enter Tryz.func77, Tryz.ntmps77
  go_upto_region 2 with (fail)
  have hm1 := ((hm.alloc (.cells (cHO o).toArray 38)).alloc (.cells (sC 0 0 0 0 false 0 none 0 0 none 0 0 0 0 false none 0 0).toArray 43)).alloc (.cells (sC 0 0 0 0 false 0 none 0 0 none 0 0 0 0 false none 0 0).toArray 43)
  simp only [World.size_alloc] at hm1
  generalize hgb : w.heap.size = g at hm1 ⊢
  generalize hw1 : ((w.alloc (.cells (cHO o).toArray 38)).alloc (.cells (sC 0 0 0 0 false 0 none 0 0 none 0 0 0 0 false none 0 0).toArray 43)).alloc (.cells (sC 0 0 0 0 false 0 none 0 0 none 0 0 0 0 false none 0 0).toArray 43) = w1 at hm1
  try refine wp_world hw1 ?_
  clear hw1 hgb
  replace hm1 := hm1.pull3
  have x2 := hm1.cell m3 2 rfl
  have x3 := hm1.cell m3 3 rfl
  go_wp2_with (first | (refine wp_rng rfl 35 _ rfl g 2 rfl (cV o.v) (rng2 x2 x3) row_V sz_V ?_))
  refine (shut_any w0 w1 (Blk (g + 1 + 1) (.cells (sC 0 0 0 0 false 0 none 0 0 none 0 0 0 0 false none 0 0).toArray 43) :: Blk (g + 1) (.cells (sC 0 0 0 0 false 0 none 0 0 none 0 0 0 0 false none 0 0).toArray 43) :: Blk g (.cells (cHO o).toArray 38) :: L) h hm1 hok o.v.1 o.v.2).mono ?_
  rintro e w2 ⟨rfl, h', hg', ha', hok', hm2⟩
  rw [show ((o.v.1, o.v.2) : V2) = o.v from rfl]
  obtain ⟨gt, hgt⟩ : ∃ z, z = shutT h.abs o.v := ⟨_, rfl⟩
  rw [← hgt]
  replace hgt := Fact.mk hgt
  go_wp2_with (first | (refine wp_setat rfl 3 _ _ rfl (g + 1 + 1) 3 rfl 43 _ [.int .i64 gt] (sC 0 0 0 gt false 0 none 0 0 none 0 0 0 0 false none 0 0) (.int .i64 gt) rfl rfl hm2.swap sz_int (by simp [sC, obC]) (one_one rfl) rfl ?_; intro w3 hs3) | (refine wp_rng rfl 43 _ rfl (g + 1 + 1) 0 rfl (sC 0 0 0 gt false 0 none 0 0 none 0 0 0 0 false none 0 0) (rng_blk hs3 m0) row_S sz_S ?_) | (refine wp_setrow rfl 43 _ _ rfl (g + 1) rfl 43 _ (sC 0 0 0 gt false 0 none 0 0 none 0 0 0 0 false none 0 0) rfl hs3.pull2 sz_S rfl (sC_one _ _ _ _ _ _ _ _ _ _ _ _ _ _ _ _ _ _) ?_; intro w4 hs4))
  have hz := hs4.tail.tail.drop2
  refine bodyPost_ret (Mm.res_cell rfl _ (g + 1) 43 (sC 0 0 0 gt false 0 none 0 0 none 0 0 0 0 false none 0 0) (0, 0) rfl hs4 m0 row_S sz_S) rfl ?_
  rw [← hgt.out]
  exact ⟨_, rfl, h', hg', ha', hok', SdQ.plain 0 0 0 gt false hz⟩
theorem askPlain_more (w0 w : World) (L : List Chunk) (h : Hp) (hm : Mem w0 w (HpC h :: L)) (c : Nat) (hc0 : 11 ≤ c) (hc1 : c ≤ 18) (S : Hs) (R : Sd) (o : HOp) (hp : Fact (∀ (w1 : World) (L1 : List Chunk), Mem w0 w1 (HpC h :: L1) → Calls Tryz.prog 77 #[.pointer (some ⟨h.g, 0, none⟩), .int .i64 c, .agg (cHO o).toArray] w1 fun e w' => ∃ v, e = .returned v ∧ AskQ w0 L1 h.g S R v w')) :
    Calls Tryz.prog 38 #[.pointer (some ⟨h.g, 0, none⟩), .int .i64 c, .agg (cHO o).toArray] w fun e w' => ∃ v, e = .returned v ∧ AskQ w0 L h.g S R v w' := by
  have q0 : decide ((c : Int) = 0) = false := decide_eq_false (by omega)
  have p0 : ((c : Int) == 0) = false := beq_eq_false_iff_ne.2 (by omega)
  have q1 : decide ((c : Int) = 1) = false := decide_eq_false (by omega)
  have p1 : ((c : Int) == 1) = false := beq_eq_false_iff_ne.2 (by omega)
  have q2 : decide ((c : Int) = 2) = false := decide_eq_false (by omega)
  have p2 : ((c : Int) == 2) = false := beq_eq_false_iff_ne.2 (by omega)
  have q3 : decide ((c : Int) = 3) = false := decide_eq_false (by omega)
  have p3 : ((c : Int) == 3) = false := beq_eq_false_iff_ne.2 (by omega)
  have q4 : decide ((c : Int) = 4) = false := decide_eq_false (by omega)
  have p4 : ((c : Int) == 4) = false := beq_eq_false_iff_ne.2 (by omega)
  have q5 : decide ((c : Int) = 5) = false := decide_eq_false (by omega)
  have p5 : ((c : Int) == 5) = false := beq_eq_false_iff_ne.2 (by omega)
  have q6 : decide ((c : Int) = 6) = false := decide_eq_false (by omega)
  have p6 : ((c : Int) == 6) = false := beq_eq_false_iff_ne.2 (by omega)
  have q7 : decide ((c : Int) = 7) = false := decide_eq_false (by omega)
  have p7 : ((c : Int) == 7) = false := beq_eq_false_iff_ne.2 (by omega)
  have q8 : decide ((c : Int) = 8) = false := decide_eq_false (by omega)
  have p8 : ((c : Int) == 8) = false := beq_eq_false_iff_ne.2 (by omega)
  have q9 : decide ((c : Int) = 9) = false := decide_eq_false (by omega)
  have p9 : ((c : Int) == 9) = false := beq_eq_false_iff_ne.2 (by omega)
  have q10 : decide ((c : Int) = 10) = false := decide_eq_false (by omega)
  have p10 : ((c : Int) == 10) = false := beq_eq_false_iff_ne.2 (by omega)
  go_enter Tryz.func38, Tryz.ntmps38
  go_upto_region 2 with (fail)
  have hm1 := ((hm.alloc (.cells (cHO o).toArray 38)).alloc (.cells (sC 0 0 0 0 false 0 none 0 0 none 0 0 0 0 false none 0 0).toArray 43)).alloc (.cells (sC 0 0 0 0 false 0 none 0 0 none 0 0 0 0 false none 0 0).toArray 43)
  simp only [World.size_alloc] at hm1
  generalize hgb : w.heap.size = g at hm1 ⊢
  generalize hw1 : ((w.alloc (.cells (cHO o).toArray 38)).alloc (.cells (sC 0 0 0 0 false 0 none 0 0 none 0 0 0 0 false none 0 0).toArray 43)).alloc (.cells (sC 0 0 0 0 false 0 none 0 0 none 0 0 0 0 false none 0 0).toArray 43) = w1 at hm1
  try refine wp_world hw1 ?_
  clear hw1 hgb
  replace hm1 := hm1.pull3
  go_wp2_with (refine wp_rng rfl 38 _ rfl g 0 rfl (cHO o) (rng_blk hm1 m3) row_HO sz_HO ?_)
  refine (hp.out w1 _ hm1).mono ?_
  rintro e w4 ⟨v, rfl, h', hg', ha', hok', A, c1, K, k1, LA, lc, rfl, hm5⟩
  clear hm1
  go_wp2_with (first | (refine wp_setrow rfl 43 _ _ rfl (g + 1 + 1) rfl 43 _ (sdC R A c1 K k1 LA lc) rfl hm5.pull4 sz_S rfl (sC_one _ _ _ _ _ _ _ _ _ _ _ _ _ _ _ _ _ _) ?_; intro w6 hm6) | (refine wp_rng rfl 43 _ rfl (g + 1 + 1) 0 rfl (sdC R A c1 K k1 LA lc) (rng_blk hm6 m0) row_S sz_S ?_) | (refine wp_setrow rfl 43 _ _ rfl (g + 1) rfl 43 _ (sdC R A c1 K k1 LA lc) rfl hm6.pull5 sz_S rfl (sC_one _ _ _ _ _ _ _ _ _ _ _ _ _ _ _ _ _ _) ?_; intro w7 hm7))
  have hz := (hm7.tail.tail).sub (List.Sublist.cons_cons _ (List.Sublist.cons_cons _ (List.Sublist.cons_cons _ (List.Sublist.cons_cons _ (List.sublist_cons_self _ _)))))
  refine bodyPost_ret (Mm.res_cell rfl _ (g + 1) 43 (sdC R A c1 K k1 LA lc) (0, 0) rfl hm7 m0 row_S sz_S) rfl ⟨_, rfl, h', hg', ha', hok', ?_⟩
  exact ⟨A, c1, K, k1, LA, lc, rfl, hz⟩
end Go.Proofs.YtpibchjkmaghnaaGreat
