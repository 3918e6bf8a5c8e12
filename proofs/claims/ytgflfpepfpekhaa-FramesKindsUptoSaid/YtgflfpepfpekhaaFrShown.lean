import Derived.Test.YtgflfpepfpekhaaFrInts
import Derived.Test.YtgflfpepfpekhaaFrRefE
namespace Go.Proofs.Ytgflfpepfpekhaa
open Go.RowKit Go.Mm
set_option maxHeartbeats 4000000
set_option maxRecDepth 100000
set_option linter.unusedSimpArgs false
theorem frs2 {N : Nat} {w : World} {A : Option Addr} {c : Nat} {x y : Fr} (h : RdC w 3 (.slice A 2 c) (fR [x, y])) (hx : FrOk N w x) (hy : FrOk N w y) : FrsOk N w A 2 c [x, y] := ⟨h, fun f hf => by
  rcases List.mem_cons.1 hf with rfl | hf
  · exact hx
  · rcases List.mem_cons.1 hf with rfl | hf
    · exact hy
    · cases hf⟩
theorem wr4 : wrap64 (3 + 1) = 4 := by unfold wrap64; omega
theorem frs1 {N : Nat} {w : World} {A : Option Addr} {c : Nat} {x : Fr} (h : RdC w 3 (.slice A 1 c) (fR [x])) (hx : FrOk N w x) : FrsOk N w A 1 c [x] := ⟨h, fun f hf => by
  rcases List.mem_cons.1 hf with rfl | hf
  · exact hx
  · cases hf⟩
theorem frs_of {N : Nat} {w0 w : World} {A : Option Addr} {n c : Nat} {zs : List Fr} (h : Mem w0 w (Own 3 (.slice A n c) (fR zs) :: slots zs)) (hz : ∀ z, z ∈ zs → z.n ≤ N) : FrsOk N w A n c zs := ⟨h.rd m0, fun f hf => ⟨h.rd (.tail _ (slots_mem hf)), hz f hf⟩⟩
theorem shown_ok (w : World) : Calls Try.prog 46 #[] w fun e w' => e = .returned (.bool true) ∧ Gr w w' := by
  go_enter Try.func46, Try.ntmps46
  go_wp2_with fail
  refine (known_ok w).mono ?_
  rintro e wB ⟨gh, gf, rfl, hg0, hpg⟩
  have hpg := Fact.mk hpg
  simp only [kP, vP]
  go_upto_region 2 with (fail)
  have hm := ((Mem.start wB).alloc (.cells [.slice none 0 0, .slice (some ⟨gf, 0, none⟩) 2 2].toArray 25))
  generalize hgX : wB.heap.size = g1 at hm ⊢
  generalize hwX : (wB.alloc (.cells [.slice none 0 0, .slice (some ⟨gf, 0, none⟩) 2 2].toArray 25)) = w1 at hm
  try refine wp_world hwX ?_
  clear hwX hgX
  have hgB := hm.below
  have hB1 := Fact.mk hm.below
  have hk1 : Fact (w1.cell? ⟨g1, 0, none⟩ = some (.slice none 0 0)) := ⟨hm.cell m0 0 rfl⟩
  have hk2 : Fact (w1.cell? ⟨g1, 1, none⟩ = some (.slice (some ⟨gf, 0, none⟩) 2 2)) := ⟨hm.cell m0 1 rfl⟩
  have c1 := hm.cell m0 0 rfl
  have c2 := hm.cell m0 1 rfl
  go_cut [2, 3] (fun s2 s3 W => ∃ (g2 : Nat) (y : Fr), s2 = .pointer (some ⟨g2, 0, none⟩) ∧ s3 = .bool true ∧ Mem w1 W [Blk g2 (.cells (cR y).toArray 30), slot y] ∧ y.data = enterD (fnAt (kP gh gf) 1) 1 (iv [8, 9]))
  case first =>
    have hmS := (Mem.start w1).drew
    refine wp_region_until (S := fun W => W.cell? ⟨g1, 0, none⟩ = some (.slice none 0 0) ∧ W.cell? ⟨g1, 1, none⟩ = some (.slice (some ⟨gf, 0, none⟩) 2 2)) 9 (by kernel_rfl) ?_
    generalize w1.drew = wd at hmS ⊢
    refine wpAnyU_take 0 (v := ?vv21) rfl (by kernel_rfl) (by kernel_rfl) (fun _ _ _ h => h) ⟨Gr.cell hmS.below c1, Gr.cell hmS.below c2⟩ (Or.inl ⟨rfl, ?yv21⟩) ?rv21
    case yv21 =>
      intro W hW
      obtain ⟨hW0, hW1⟩ := hW
      go_simp
      try with_reducible rfl
    try simp only [Act.put, List.setIfInBounds_toArray, List.set_cons_zero, List.set_cons_succ]
    refine wpAnyU_two 1 7 (by kernel_rfl) rfl rfl (fun K hK => ?_) (fun K hK => ?_)
    · go_simp
      have g5 := Gr.alloc (Gr.refl wd) (.cells [.int .i64 8, .int .i64 9].toArray 2)
      have r3 : RdC (wd.alloc (.cells [.int .i64 8, .int .i64 9].toArray 2)) 1 (.slice (some ⟨wd.heap.size, 0, none⟩) 2 2) (nums .i64 [8, 9]) := RdC.lit _ (nums .i64 [8, 9]) _ 2 1 rfl (by simp [maxLen]) (One.nums _ _)
      have hm4 := hmS.gr g5
      generalize wd.heap.size = a2 at r3 ⊢
      generalize wd.alloc (.cells [.int .i64 8, .int .i64 9].toArray 2) = u1 at g5 r3 hm4 ⊢
      refine hK _ _ (fun _ => ⟨Gr.cell hm4.below c1, Gr.cell hm4.below c2⟩) ?_
      clear hK K
      try simp only [Act.put, List.setIfInBounds_toArray, List.set_cons_zero, List.set_cons_succ]
      refine wpAnyU_two 2 7 (by kernel_rfl) rfl rfl (fun K hK => ?_) (fun K hK => ?_)
      · refine step_call rfl 56 Try.f56 Try.func56 (by kernel_rfl) (by kernel_rfl) _ _ rfl #[.slice (some ⟨a2, 0, none⟩) 2 2] (by simp [Act.eval]) ?_
        refine (ints_ok u1 (some ⟨a2, 0, none⟩) 2 2 [8, 9] ⟨r3⟩ (by omega)).mono ?_
        rintro e u6 ⟨A7, c8, rfl, hn9⟩
        have g12 := hn9.gr
        have r10 : RdC u6 2 (.slice A7 2 c8) (fV (iv [8, 9])) := hn9.ok.rd
        have hm11 := hm4.gr g12
        have r13 := r3.gr g12
        refine ⟨_, rfl, hK _ _ (fun _ => ⟨Gr.cell hm11.below c1, Gr.cell hm11.below c2⟩) ?_⟩
        clear hK K
        try simp only [Act.put, List.setIfInBounds_toArray, List.set_cons_zero, List.set_cons_succ]
        refine wpAnyU_two 3 7 (by kernel_rfl) rfl rfl (fun K hK => ?_) (fun K hK => ?_)
        · refine step_call rfl 16 Try.f16 Try.func16 (by kernel_rfl) (by kernel_rfl) _ _ rfl #[.agg #[.slice none 0 0, .slice (some ⟨gf, 0, none⟩) 2 2], .int .i64 1, .slice A7 2 c8] (by simp [Act.eval]) ?_
          refine (enter_ok u6 (kP gh gf) ⟨hpg.out.gr (Gr.trans hgB hm11.below)⟩ 1 A7 2 c8 (iv [8, 9]) ⟨r10⟩ (by omega)).mono ?_
          rintro e u14 ⟨⟨y15f, y15p, y15A, y15n, y15c, y15s⟩, rfl, hd16, hn17⟩
          simp only [cR]
          have g19 := hn17.gr
          have hm18 := hm11.new hn17
          have r20 := r13.gr g19
          have r21 := r10.gr g19
          refine ⟨_, rfl, hK _ _ (fun _ => ⟨Gr.cell hm18.below c1, Gr.cell hm18.below c2⟩) ?_⟩
          clear hK K
          try simp only [Act.put, List.setIfInBounds_toArray, List.set_cons_zero, List.set_cons_succ]
          refine wpAnyU_take 4 (v := ?vv22) rfl (by kernel_rfl) (by kernel_rfl) (fun _ _ _ h => h) ⟨Gr.cell hm18.below c1, Gr.cell hm18.below c2⟩ (Or.inl ⟨rfl, ?yv22⟩) ?rv22
          case yv22 =>
            intro W hW
            obtain ⟨hW0, hW1⟩ := hW
            go_simp
            try with_reducible rfl
          try simp only [Act.put, List.setIfInBounds_toArray, List.set_cons_zero, List.set_cons_succ]
          refine wpAnyU_take 5 (v := ?vv23) rfl (by kernel_rfl) (by kernel_rfl) (fun _ _ _ h => h) ⟨Gr.cell hm18.below c1, Gr.cell hm18.below c2⟩ (Or.inl ⟨rfl, ?yv23⟩) ?rv23
          case yv23 =>
            intro W hW
            obtain ⟨hW0, hW1⟩ := hW
            go_simp
            try with_reducible rfl
          try simp only [Act.put, List.setIfInBounds_toArray, List.set_cons_zero, List.set_cons_succ]
          refine wpAnyU_take 6 (v := ?vv24) rfl (by kernel_rfl) (by kernel_rfl) (fun _ _ _ h => h) ⟨Gr.cell hm18.below c1, Gr.cell hm18.below c2⟩ (Or.inl ⟨rfl, ?yv24⟩) ?rv24
          case yv24 =>
            intro W hW
            obtain ⟨hW0, hW1⟩ := hW
            go_simp
            try with_reducible rfl
          try simp only [Act.put, List.setIfInBounds_toArray, List.set_cons_zero, List.set_cons_succ]
          refine wpAnyU_one 7 (by kernel_rfl) rfl (fun K hK => ?_)
          go_simp
          have g25 := Gr.alloc (Gr.refl u14) (.cells [.int .i64 0, .int .i64 0, .slice none 0 0].toArray 30)
          have r26 := r20.gr g25
          have r27 := r21.gr g25
          have hm24 := hm18.alloc (.cells [.int .i64 0, .int .i64 0, .slice none 0 0].toArray 30)
          generalize u14.heap.size = b23 at hm24 ⊢
          generalize u14.alloc (.cells [.int .i64 0, .int .i64 0, .slice none 0 0].toArray 30) = u22 at g25 hm24 r26 r27 ⊢
          refine hK _ _ (fun _ => ⟨Gr.cell hm24.below c1, Gr.cell hm24.below c2⟩) ?_
          clear hK K
          try simp only [Act.put, List.setIfInBounds_toArray, List.set_cons_zero, List.set_cons_succ]
          refine wpAnyU_one 8 (by kernel_rfl) rfl (fun K hK => ?_)
          have qb230 := hm24.cell m0 0 rfl
          have fb230 := hm24.free m0 0
          have qb231 := hm24.cell m0 1 rfl
          have fb231 := hm24.free m0 1
          have qb232 := hm24.cell m0 2 rfl
          have fb232 := hm24.free m0 2
          have hm28 := ((hm24.set 0 (.int .i64 y15f)).set 1 (.int .i64 y15p)).set 2 (.slice y15A y15n y15c)
          go_simp
          refine hK _ _ (fun _ => ⟨Gr.cell hm28.below c1, Gr.cell hm28.below c2⟩) ?_
          clear hK K
          try simp only [Act.put, List.setIfInBounds_toArray, List.set_cons_zero, List.set_cons_succ]
          refine wpAnyU_one 9 (by kernel_rfl) rfl (fun K hK => ?_)
          go_simp
          refine hK _ _ (fun h => absurd h (by decide)) ?_
          clear hK K
          refine wpAnyU_done (by kernel_rfl) ?_ _
          go_wp2
          try simp only [Act.put, List.getElem_toArray, List.getElem_cons_succ, List.getElem_cons_zero, List.setIfInBounds_toArray, List.set_cons_succ, List.set_cons_zero]
          go_meet
          case rel => exact ⟨_, ⟨y15f, y15p, y15A, y15n, y15c, y15s⟩, rfl, rfl, hm28, hd16⟩
        · go_simp
          have g32 := Gr.alloc (Gr.refl u6) (.cells [.int .i64 0, .int .i64 0, .slice none 0 0].toArray 30)
          have r33 := r13.gr g32
          have r34 := r10.gr g32
          have hm31 := hm11.alloc (.cells [.int .i64 0, .int .i64 0, .slice none 0 0].toArray 30)
          generalize u6.heap.size = b30 at hm31 ⊢
          generalize u6.alloc (.cells [.int .i64 0, .int .i64 0, .slice none 0 0].toArray 30) = u29 at g32 hm31 r33 r34 ⊢
          refine hK _ _ (fun _ => ⟨Gr.cell hm31.below c1, Gr.cell hm31.below c2⟩) ?_
          clear hK K
          try simp only [Act.put, List.setIfInBounds_toArray, List.set_cons_zero, List.set_cons_succ]
          refine wpAnyU_one 3 (by kernel_rfl) rfl (fun K hK => ?_)
          refine step_call rfl 16 Try.f16 Try.func16 (by kernel_rfl) (by kernel_rfl) _ _ rfl #[.agg #[.slice none 0 0, .slice (some ⟨gf, 0, none⟩) 2 2], .int .i64 1, .slice A7 2 c8] (by simp [Act.eval]) ?_
          refine (enter_ok u29 (kP gh gf) ⟨hpg.out.gr (Gr.trans hgB hm31.below)⟩ 1 A7 2 c8 (iv [8, 9]) ⟨r34⟩ (by omega)).mono ?_
          rintro e u35 ⟨⟨y36f, y36p, y36A, y36n, y36c, y36s⟩, rfl, hd37, hn38⟩
          simp only [cR]
          have g40 := hn38.gr
          have hm39 := hm31.new hn38
          have r41 := r33.gr g40
          have r42 := r34.gr g40
          refine ⟨_, rfl, hK _ _ (fun _ => ⟨Gr.cell hm39.below c1, Gr.cell hm39.below c2⟩) ?_⟩
          clear hK K
          try simp only [Act.put, List.setIfInBounds_toArray, List.set_cons_zero, List.set_cons_succ]
          refine wpAnyU_take 4 (v := ?vv25) rfl (by kernel_rfl) (by kernel_rfl) (fun _ _ _ h => h) ⟨Gr.cell hm39.below c1, Gr.cell hm39.below c2⟩ (Or.inl ⟨rfl, ?yv25⟩) ?rv25
          case yv25 =>
            intro W hW
            obtain ⟨hW0, hW1⟩ := hW
            go_simp
            try with_reducible rfl
          try simp only [Act.put, List.setIfInBounds_toArray, List.set_cons_zero, List.set_cons_succ]
          refine wpAnyU_take 5 (v := ?vv26) rfl (by kernel_rfl) (by kernel_rfl) (fun _ _ _ h => h) ⟨Gr.cell hm39.below c1, Gr.cell hm39.below c2⟩ (Or.inl ⟨rfl, ?yv26⟩) ?rv26
          case yv26 =>
            intro W hW
            obtain ⟨hW0, hW1⟩ := hW
            go_simp
            try with_reducible rfl
          try simp only [Act.put, List.setIfInBounds_toArray, List.set_cons_zero, List.set_cons_succ]
          refine wpAnyU_take 6 (v := ?vv27) rfl (by kernel_rfl) (by kernel_rfl) (fun _ _ _ h => h) ⟨Gr.cell hm39.below c1, Gr.cell hm39.below c2⟩ (Or.inl ⟨rfl, ?yv27⟩) ?rv27
          case yv27 =>
            intro W hW
            obtain ⟨hW0, hW1⟩ := hW
            go_simp
            try with_reducible rfl
          try simp only [Act.put, List.setIfInBounds_toArray, List.set_cons_zero, List.set_cons_succ]
          refine wpAnyU_one 8 (by kernel_rfl) rfl (fun K hK => ?_)
          have hm43 := hm39.swap
          have qb300 := hm43.cell m0 0 rfl
          have fb300 := hm43.free m0 0
          have qb301 := hm43.cell m0 1 rfl
          have fb301 := hm43.free m0 1
          have qb302 := hm43.cell m0 2 rfl
          have fb302 := hm43.free m0 2
          have hm44 := ((hm43.set 0 (.int .i64 y36f)).set 1 (.int .i64 y36p)).set 2 (.slice y36A y36n y36c)
          go_simp
          refine hK _ _ (fun _ => ⟨Gr.cell hm44.below c1, Gr.cell hm44.below c2⟩) ?_
          clear hK K
          try simp only [Act.put, List.setIfInBounds_toArray, List.set_cons_zero, List.set_cons_succ]
          refine wpAnyU_one 9 (by kernel_rfl) rfl (fun K hK => ?_)
          go_simp
          refine hK _ _ (fun h => absurd h (by decide)) ?_
          clear hK K
          refine wpAnyU_done (by kernel_rfl) ?_ _
          go_wp2
          try simp only [Act.put, List.getElem_toArray, List.getElem_cons_succ, List.getElem_cons_zero, List.setIfInBounds_toArray, List.set_cons_succ, List.set_cons_zero]
          go_meet
          case rel => exact ⟨_, ⟨y36f, y36p, y36A, y36n, y36c, y36s⟩, rfl, rfl, hm44, hd37⟩
      · go_simp
        have g48 := Gr.alloc (Gr.refl u1) (.cells [.int .i64 0, .int .i64 0, .slice none 0 0].toArray 30)
        have r49 := r3.gr g48
        have hm47 := hm4.alloc (.cells [.int .i64 0, .int .i64 0, .slice none 0 0].toArray 30)
        generalize u1.heap.size = b46 at hm47 ⊢
        generalize u1.alloc (.cells [.int .i64 0, .int .i64 0, .slice none 0 0].toArray 30) = u45 at g48 hm47 r49 ⊢
        refine hK _ _ (fun _ => ⟨Gr.cell hm47.below c1, Gr.cell hm47.below c2⟩) ?_
        clear hK K
        try simp only [Act.put, List.setIfInBounds_toArray, List.set_cons_zero, List.set_cons_succ]
        refine wpAnyU_one 2 (by kernel_rfl) rfl (fun K hK => ?_)
        refine step_call rfl 56 Try.f56 Try.func56 (by kernel_rfl) (by kernel_rfl) _ _ rfl #[.slice (some ⟨a2, 0, none⟩) 2 2] (by simp [Act.eval]) ?_
        refine (ints_ok u45 (some ⟨a2, 0, none⟩) 2 2 [8, 9] ⟨r49⟩ (by omega)).mono ?_
        rintro e u50 ⟨A51, c52, rfl, hn53⟩
        have g56 := hn53.gr
        have r54 : RdC u50 2 (.slice A51 2 c52) (fV (iv [8, 9])) := hn53.ok.rd
        have hm55 := hm47.gr g56
        have r57 := r49.gr g56
        refine ⟨_, rfl, hK _ _ (fun _ => ⟨Gr.cell hm55.below c1, Gr.cell hm55.below c2⟩) ?_⟩
        clear hK K
        try simp only [Act.put, List.setIfInBounds_toArray, List.set_cons_zero, List.set_cons_succ]
        refine wpAnyU_one 3 (by kernel_rfl) rfl (fun K hK => ?_)
        refine step_call rfl 16 Try.f16 Try.func16 (by kernel_rfl) (by kernel_rfl) _ _ rfl #[.agg #[.slice none 0 0, .slice (some ⟨gf, 0, none⟩) 2 2], .int .i64 1, .slice A51 2 c52] (by simp [Act.eval]) ?_
        refine (enter_ok u50 (kP gh gf) ⟨hpg.out.gr (Gr.trans hgB hm55.below)⟩ 1 A51 2 c52 (iv [8, 9]) ⟨r54⟩ (by omega)).mono ?_
        rintro e u58 ⟨⟨y59f, y59p, y59A, y59n, y59c, y59s⟩, rfl, hd60, hn61⟩
        simp only [cR]
        have g63 := hn61.gr
        have hm62 := hm55.new hn61
        have r64 := r57.gr g63
        have r65 := r54.gr g63
        refine ⟨_, rfl, hK _ _ (fun _ => ⟨Gr.cell hm62.below c1, Gr.cell hm62.below c2⟩) ?_⟩
        clear hK K
        try simp only [Act.put, List.setIfInBounds_toArray, List.set_cons_zero, List.set_cons_succ]
        refine wpAnyU_take 4 (v := ?vv28) rfl (by kernel_rfl) (by kernel_rfl) (fun _ _ _ h => h) ⟨Gr.cell hm62.below c1, Gr.cell hm62.below c2⟩ (Or.inl ⟨rfl, ?yv28⟩) ?rv28
        case yv28 =>
          intro W hW
          obtain ⟨hW0, hW1⟩ := hW
          go_simp
          try with_reducible rfl
        try simp only [Act.put, List.setIfInBounds_toArray, List.set_cons_zero, List.set_cons_succ]
        refine wpAnyU_take 5 (v := ?vv29) rfl (by kernel_rfl) (by kernel_rfl) (fun _ _ _ h => h) ⟨Gr.cell hm62.below c1, Gr.cell hm62.below c2⟩ (Or.inl ⟨rfl, ?yv29⟩) ?rv29
        case yv29 =>
          intro W hW
          obtain ⟨hW0, hW1⟩ := hW
          go_simp
          try with_reducible rfl
        try simp only [Act.put, List.setIfInBounds_toArray, List.set_cons_zero, List.set_cons_succ]
        refine wpAnyU_take 6 (v := ?vv210) rfl (by kernel_rfl) (by kernel_rfl) (fun _ _ _ h => h) ⟨Gr.cell hm62.below c1, Gr.cell hm62.below c2⟩ (Or.inl ⟨rfl, ?yv210⟩) ?rv210
        case yv210 =>
          intro W hW
          obtain ⟨hW0, hW1⟩ := hW
          go_simp
          try with_reducible rfl
        try simp only [Act.put, List.setIfInBounds_toArray, List.set_cons_zero, List.set_cons_succ]
        refine wpAnyU_one 8 (by kernel_rfl) rfl (fun K hK => ?_)
        have hm66 := hm62.swap
        have qb460 := hm66.cell m0 0 rfl
        have fb460 := hm66.free m0 0
        have qb461 := hm66.cell m0 1 rfl
        have fb461 := hm66.free m0 1
        have qb462 := hm66.cell m0 2 rfl
        have fb462 := hm66.free m0 2
        have hm67 := ((hm66.set 0 (.int .i64 y59f)).set 1 (.int .i64 y59p)).set 2 (.slice y59A y59n y59c)
        go_simp
        refine hK _ _ (fun _ => ⟨Gr.cell hm67.below c1, Gr.cell hm67.below c2⟩) ?_
        clear hK K
        try simp only [Act.put, List.setIfInBounds_toArray, List.set_cons_zero, List.set_cons_succ]
        refine wpAnyU_one 9 (by kernel_rfl) rfl (fun K hK => ?_)
        go_simp
        refine hK _ _ (fun h => absurd h (by decide)) ?_
        clear hK K
        refine wpAnyU_done (by kernel_rfl) ?_ _
        go_wp2
        try simp only [Act.put, List.getElem_toArray, List.getElem_cons_succ, List.getElem_cons_zero, List.setIfInBounds_toArray, List.set_cons_succ, List.set_cons_zero]
        go_meet
        case rel => exact ⟨_, ⟨y59f, y59p, y59A, y59n, y59c, y59s⟩, rfl, rfl, hm67, hd60⟩
    · go_simp
      have g71 := Gr.alloc (Gr.refl wd) (.cells [.int .i64 0, .int .i64 0, .slice none 0 0].toArray 30)
      have hm70 := hmS.alloc (.cells [.int .i64 0, .int .i64 0, .slice none 0 0].toArray 30)
      generalize wd.heap.size = b69 at hm70 ⊢
      generalize wd.alloc (.cells [.int .i64 0, .int .i64 0, .slice none 0 0].toArray 30) = u68 at g71 hm70 ⊢
      refine hK _ _ (fun _ => ⟨Gr.cell hm70.below c1, Gr.cell hm70.below c2⟩) ?_
      clear hK K
      try simp only [Act.put, List.setIfInBounds_toArray, List.set_cons_zero, List.set_cons_succ]
      refine wpAnyU_one 1 (by kernel_rfl) rfl (fun K hK => ?_)
      go_simp
      have g76 := Gr.alloc (Gr.refl u68) (.cells [.int .i64 8, .int .i64 9].toArray 2)
      have r74 : RdC (u68.alloc (.cells [.int .i64 8, .int .i64 9].toArray 2)) 1 (.slice (some ⟨u68.heap.size, 0, none⟩) 2 2) (nums .i64 [8, 9]) := RdC.lit _ (nums .i64 [8, 9]) _ 2 1 rfl (by simp [maxLen]) (One.nums _ _)
      have hm75 := hm70.gr g76
      generalize u68.heap.size = a73 at r74 ⊢
      generalize u68.alloc (.cells [.int .i64 8, .int .i64 9].toArray 2) = u72 at g76 r74 hm75 ⊢
      refine hK _ _ (fun _ => ⟨Gr.cell hm75.below c1, Gr.cell hm75.below c2⟩) ?_
      clear hK K
      try simp only [Act.put, List.setIfInBounds_toArray, List.set_cons_zero, List.set_cons_succ]
      refine wpAnyU_one 2 (by kernel_rfl) rfl (fun K hK => ?_)
      refine step_call rfl 56 Try.f56 Try.func56 (by kernel_rfl) (by kernel_rfl) _ _ rfl #[.slice (some ⟨a73, 0, none⟩) 2 2] (by simp [Act.eval]) ?_
      refine (ints_ok u72 (some ⟨a73, 0, none⟩) 2 2 [8, 9] ⟨r74⟩ (by omega)).mono ?_
      rintro e u77 ⟨A78, c79, rfl, hn80⟩
      have g83 := hn80.gr
      have r81 : RdC u77 2 (.slice A78 2 c79) (fV (iv [8, 9])) := hn80.ok.rd
      have hm82 := hm75.gr g83
      have r84 := r74.gr g83
      refine ⟨_, rfl, hK _ _ (fun _ => ⟨Gr.cell hm82.below c1, Gr.cell hm82.below c2⟩) ?_⟩
      clear hK K
      try simp only [Act.put, List.setIfInBounds_toArray, List.set_cons_zero, List.set_cons_succ]
      refine wpAnyU_one 3 (by kernel_rfl) rfl (fun K hK => ?_)
      refine step_call rfl 16 Try.f16 Try.func16 (by kernel_rfl) (by kernel_rfl) _ _ rfl #[.agg #[.slice none 0 0, .slice (some ⟨gf, 0, none⟩) 2 2], .int .i64 1, .slice A78 2 c79] (by simp [Act.eval]) ?_
      refine (enter_ok u77 (kP gh gf) ⟨hpg.out.gr (Gr.trans hgB hm82.below)⟩ 1 A78 2 c79 (iv [8, 9]) ⟨r81⟩ (by omega)).mono ?_
      rintro e u85 ⟨⟨y86f, y86p, y86A, y86n, y86c, y86s⟩, rfl, hd87, hn88⟩
      simp only [cR]
      have g90 := hn88.gr
      have hm89 := hm82.new hn88
      have r91 := r84.gr g90
      have r92 := r81.gr g90
      refine ⟨_, rfl, hK _ _ (fun _ => ⟨Gr.cell hm89.below c1, Gr.cell hm89.below c2⟩) ?_⟩
      clear hK K
      try simp only [Act.put, List.setIfInBounds_toArray, List.set_cons_zero, List.set_cons_succ]
      refine wpAnyU_take 4 (v := ?vv211) rfl (by kernel_rfl) (by kernel_rfl) (fun _ _ _ h => h) ⟨Gr.cell hm89.below c1, Gr.cell hm89.below c2⟩ (Or.inl ⟨rfl, ?yv211⟩) ?rv211
      case yv211 =>
        intro W hW
        obtain ⟨hW0, hW1⟩ := hW
        go_simp
        try with_reducible rfl
      try simp only [Act.put, List.setIfInBounds_toArray, List.set_cons_zero, List.set_cons_succ]
      refine wpAnyU_take 5 (v := ?vv212) rfl (by kernel_rfl) (by kernel_rfl) (fun _ _ _ h => h) ⟨Gr.cell hm89.below c1, Gr.cell hm89.below c2⟩ (Or.inl ⟨rfl, ?yv212⟩) ?rv212
      case yv212 =>
        intro W hW
        obtain ⟨hW0, hW1⟩ := hW
        go_simp
        try with_reducible rfl
      try simp only [Act.put, List.setIfInBounds_toArray, List.set_cons_zero, List.set_cons_succ]
      refine wpAnyU_take 6 (v := ?vv213) rfl (by kernel_rfl) (by kernel_rfl) (fun _ _ _ h => h) ⟨Gr.cell hm89.below c1, Gr.cell hm89.below c2⟩ (Or.inl ⟨rfl, ?yv213⟩) ?rv213
      case yv213 =>
        intro W hW
        obtain ⟨hW0, hW1⟩ := hW
        go_simp
        try with_reducible rfl
      try simp only [Act.put, List.setIfInBounds_toArray, List.set_cons_zero, List.set_cons_succ]
      refine wpAnyU_one 8 (by kernel_rfl) rfl (fun K hK => ?_)
      have hm93 := hm89.swap
      have qb690 := hm93.cell m0 0 rfl
      have fb690 := hm93.free m0 0
      have qb691 := hm93.cell m0 1 rfl
      have fb691 := hm93.free m0 1
      have qb692 := hm93.cell m0 2 rfl
      have fb692 := hm93.free m0 2
      have hm94 := ((hm93.set 0 (.int .i64 y86f)).set 1 (.int .i64 y86p)).set 2 (.slice y86A y86n y86c)
      go_simp
      refine hK _ _ (fun _ => ⟨Gr.cell hm94.below c1, Gr.cell hm94.below c2⟩) ?_
      clear hK K
      try simp only [Act.put, List.setIfInBounds_toArray, List.set_cons_zero, List.set_cons_succ]
      refine wpAnyU_one 9 (by kernel_rfl) rfl (fun K hK => ?_)
      go_simp
      refine hK _ _ (fun h => absurd h (by decide)) ?_
      clear hK K
      refine wpAnyU_done (by kernel_rfl) ?_ _
      go_wp2
      try simp only [Act.put, List.getElem_toArray, List.getElem_cons_succ, List.getElem_cons_zero, List.setIfInBounds_toArray, List.set_cons_succ, List.set_cons_zero]
      go_meet
      case rel => exact ⟨_, ⟨y86f, y86p, y86A, y86n, y86c, y86s⟩, rfl, rfl, hm94, hd87⟩
  case rest =>
    obtain ⟨wp, rfl⟩ : ∃ wp : World, wp = wc := ⟨_, rfl⟩
    obtain ⟨g2, ⟨yf, yp, yA, yn, yc, ys⟩, rfl, rfl, hm2, hd⟩ := hcut
    have hd : ((yf, yp, ys) : FrD) = (1, 0, [(2, 8), (2, 9), (0, 0)]) := hd.trans (by rfl)
    simp only [Prod.mk.injEq] at hd
    obtain ⟨rfl, rfl, rfl⟩ := hd
    obtain rfl : 3 = yn := rdV_len (hm2.rd m1)
    have hg1 := hm2.below
    have hgB := Gr.trans hgB hg1
    have c1 := Gr.cell hg1 c1
    have c2 := Gr.cell hg1 c2
    go_upto_region 3 with (fail)
    go_cut [5] (fun s5 W => s5 = .bool false ∧ Gr wp W)
    case first =>
      clear hm hm2
      have hmS := (Mem.start wp).drew
      refine wp_region_until (S := fun W => W.cell? ⟨g1, 0, none⟩ = some (.slice none 0 0) ∧ W.cell? ⟨g1, 1, none⟩ = some (.slice (some ⟨gf, 0, none⟩) 2 2)) 9 (by kernel_rfl) ?_
      generalize wp.drew = wd at hmS ⊢
      refine wpAnyU_take 0 (v := ?vv31) rfl (by kernel_rfl) (by kernel_rfl) (fun _ _ _ h => h) ⟨Gr.cell hmS.below c1, Gr.cell hmS.below c2⟩ (Or.inl ⟨rfl, ?yv31⟩) ?rv31
      case yv31 =>
        intro W hW
        obtain ⟨hW0, hW1⟩ := hW
        go_simp
        try with_reducible rfl
      try simp only [Act.put, List.setIfInBounds_toArray, List.set_cons_zero, List.set_cons_succ]
      refine wpAnyU_two 1 7 (by kernel_rfl) rfl rfl (fun K hK => ?_) (fun K hK => ?_)
      · go_simp
        have g99 := Gr.alloc (Gr.refl wd) (.cells [.int .i64 8].toArray 2)
        have r97 : RdC (wd.alloc (.cells [.int .i64 8].toArray 2)) 1 (.slice (some ⟨wd.heap.size, 0, none⟩) 1 1) (nums .i64 [8]) := RdC.lit _ (nums .i64 [8]) _ 1 1 rfl (by simp [maxLen]) (One.nums _ _)
        have hm98 := hmS.gr g99
        generalize wd.heap.size = a96 at r97 ⊢
        generalize wd.alloc (.cells [.int .i64 8].toArray 2) = u95 at g99 r97 hm98 ⊢
        refine hK _ _ (fun _ => ⟨Gr.cell hm98.below c1, Gr.cell hm98.below c2⟩) ?_
        clear hK K
        try simp only [Act.put, List.setIfInBounds_toArray, List.set_cons_zero, List.set_cons_succ]
        refine wpAnyU_two 2 7 (by kernel_rfl) rfl rfl (fun K hK => ?_) (fun K hK => ?_)
        · refine step_call rfl 56 Try.f56 Try.func56 (by kernel_rfl) (by kernel_rfl) _ _ rfl #[.slice (some ⟨a96, 0, none⟩) 1 1] (by simp [Act.eval]) ?_
          refine (ints_ok u95 (some ⟨a96, 0, none⟩) 1 1 [8] ⟨r97⟩ (by omega)).mono ?_
          rintro e u100 ⟨A101, c102, rfl, hn103⟩
          have g106 := hn103.gr
          have r104 : RdC u100 2 (.slice A101 1 c102) (fV (iv [8])) := hn103.ok.rd
          have hm105 := hm98.gr g106
          have r107 := r97.gr g106
          refine ⟨_, rfl, hK _ _ (fun _ => ⟨Gr.cell hm105.below c1, Gr.cell hm105.below c2⟩) ?_⟩
          clear hK K
          try simp only [Act.put, List.setIfInBounds_toArray, List.set_cons_zero, List.set_cons_succ]
          refine wpAnyU_two 3 7 (by kernel_rfl) rfl rfl (fun K hK => ?_) (fun K hK => ?_)
          · refine step_call rfl 16 Try.f16 Try.func16 (by kernel_rfl) (by kernel_rfl) _ _ rfl #[.agg #[.slice none 0 0, .slice (some ⟨gf, 0, none⟩) 2 2], .int .i64 1, .slice A101 1 c102] (by simp [Act.eval]) ?_
            refine (enter_ok u100 (kP gh gf) ⟨hpg.out.gr (Gr.trans hgB hm105.below)⟩ 1 A101 1 c102 (iv [8]) ⟨r104⟩ (by omega)).mono ?_
            rintro e u108 ⟨⟨y109f, y109p, y109A, y109n, y109c, y109s⟩, rfl, hd110, hn111⟩
            simp only [cR]
            have g113 := hn111.gr
            have hm112 := hm105.new hn111
            have r114 := r107.gr g113
            have r115 := r104.gr g113
            refine ⟨_, rfl, hK _ _ (fun _ => ⟨Gr.cell hm112.below c1, Gr.cell hm112.below c2⟩) ?_⟩
            clear hK K
            try simp only [Act.put, List.setIfInBounds_toArray, List.set_cons_zero, List.set_cons_succ]
            refine wpAnyU_take 4 (v := ?vv32) rfl (by kernel_rfl) (by kernel_rfl) (fun _ _ _ h => h) ⟨Gr.cell hm112.below c1, Gr.cell hm112.below c2⟩ (Or.inl ⟨rfl, ?yv32⟩) ?rv32
            case yv32 =>
              intro W hW
              obtain ⟨hW0, hW1⟩ := hW
              go_simp
              try with_reducible rfl
            try simp only [Act.put, List.setIfInBounds_toArray, List.set_cons_zero, List.set_cons_succ]
            refine wpAnyU_take 5 (v := ?vv33) rfl (by kernel_rfl) (by kernel_rfl) (fun _ _ _ h => h) ⟨Gr.cell hm112.below c1, Gr.cell hm112.below c2⟩ (Or.inl ⟨rfl, ?yv33⟩) ?rv33
            case yv33 =>
              intro W hW
              obtain ⟨hW0, hW1⟩ := hW
              go_simp
              try with_reducible rfl
            try simp only [Act.put, List.setIfInBounds_toArray, List.set_cons_zero, List.set_cons_succ]
            refine wpAnyU_take 6 (v := ?vv34) rfl (by kernel_rfl) (by kernel_rfl) (fun _ _ _ h => h) ⟨Gr.cell hm112.below c1, Gr.cell hm112.below c2⟩ (Or.inl ⟨rfl, ?yv34⟩) ?rv34
            case yv34 =>
              intro W hW
              obtain ⟨hW0, hW1⟩ := hW
              go_simp
              try with_reducible rfl
            try simp only [Act.put, List.setIfInBounds_toArray, List.set_cons_zero, List.set_cons_succ]
            refine wpAnyU_one 7 (by kernel_rfl) rfl (fun K hK => ?_)
            go_simp
            have g119 := Gr.alloc (Gr.refl u108) (.cells [.int .i64 0, .int .i64 0, .slice none 0 0].toArray 30)
            have r120 := r114.gr g119
            have r121 := r115.gr g119
            have hm118 := hm112.alloc (.cells [.int .i64 0, .int .i64 0, .slice none 0 0].toArray 30)
            generalize u108.heap.size = b117 at hm118 ⊢
            generalize u108.alloc (.cells [.int .i64 0, .int .i64 0, .slice none 0 0].toArray 30) = u116 at g119 hm118 r120 r121 ⊢
            refine hK _ _ (fun _ => ⟨Gr.cell hm118.below c1, Gr.cell hm118.below c2⟩) ?_
            clear hK K
            try simp only [Act.put, List.setIfInBounds_toArray, List.set_cons_zero, List.set_cons_succ]
            refine wpAnyU_one 8 (by kernel_rfl) rfl (fun K hK => ?_)
            have qb1170 := hm118.cell m0 0 rfl
            have fb1170 := hm118.free m0 0
            have qb1171 := hm118.cell m0 1 rfl
            have fb1171 := hm118.free m0 1
            have qb1172 := hm118.cell m0 2 rfl
            have fb1172 := hm118.free m0 2
            have hm122 := ((hm118.set 0 (.int .i64 y109f)).set 1 (.int .i64 y109p)).set 2 (.slice y109A y109n y109c)
            go_simp
            refine hK _ _ (fun _ => ⟨Gr.cell hm122.below c1, Gr.cell hm122.below c2⟩) ?_
            clear hK K
            try simp only [Act.put, List.setIfInBounds_toArray, List.set_cons_zero, List.set_cons_succ]
            refine wpAnyU_one 9 (by kernel_rfl) rfl (fun K hK => ?_)
            go_simp
            refine hK _ _ (fun h => absurd h (by decide)) ?_
            clear hK K
            refine wpAnyU_done (by kernel_rfl) ?_ _
            go_wp2
            try simp only [Act.put, List.getElem_toArray, List.getElem_cons_succ, List.getElem_cons_zero, List.setIfInBounds_toArray, List.set_cons_succ, List.set_cons_zero]
            go_meet
            case rel => exact ⟨rfl, hm122.below⟩
          · go_simp
            have g126 := Gr.alloc (Gr.refl u100) (.cells [.int .i64 0, .int .i64 0, .slice none 0 0].toArray 30)
            have r127 := r107.gr g126
            have r128 := r104.gr g126
            have hm125 := hm105.alloc (.cells [.int .i64 0, .int .i64 0, .slice none 0 0].toArray 30)
            generalize u100.heap.size = b124 at hm125 ⊢
            generalize u100.alloc (.cells [.int .i64 0, .int .i64 0, .slice none 0 0].toArray 30) = u123 at g126 hm125 r127 r128 ⊢
            refine hK _ _ (fun _ => ⟨Gr.cell hm125.below c1, Gr.cell hm125.below c2⟩) ?_
            clear hK K
            try simp only [Act.put, List.setIfInBounds_toArray, List.set_cons_zero, List.set_cons_succ]
            refine wpAnyU_one 3 (by kernel_rfl) rfl (fun K hK => ?_)
            refine step_call rfl 16 Try.f16 Try.func16 (by kernel_rfl) (by kernel_rfl) _ _ rfl #[.agg #[.slice none 0 0, .slice (some ⟨gf, 0, none⟩) 2 2], .int .i64 1, .slice A101 1 c102] (by simp [Act.eval]) ?_
            refine (enter_ok u123 (kP gh gf) ⟨hpg.out.gr (Gr.trans hgB hm125.below)⟩ 1 A101 1 c102 (iv [8]) ⟨r128⟩ (by omega)).mono ?_
            rintro e u129 ⟨⟨y130f, y130p, y130A, y130n, y130c, y130s⟩, rfl, hd131, hn132⟩
            simp only [cR]
            have g134 := hn132.gr
            have hm133 := hm125.new hn132
            have r135 := r127.gr g134
            have r136 := r128.gr g134
            refine ⟨_, rfl, hK _ _ (fun _ => ⟨Gr.cell hm133.below c1, Gr.cell hm133.below c2⟩) ?_⟩
            clear hK K
            try simp only [Act.put, List.setIfInBounds_toArray, List.set_cons_zero, List.set_cons_succ]
            refine wpAnyU_take 4 (v := ?vv35) rfl (by kernel_rfl) (by kernel_rfl) (fun _ _ _ h => h) ⟨Gr.cell hm133.below c1, Gr.cell hm133.below c2⟩ (Or.inl ⟨rfl, ?yv35⟩) ?rv35
            case yv35 =>
              intro W hW
              obtain ⟨hW0, hW1⟩ := hW
              go_simp
              try with_reducible rfl
            try simp only [Act.put, List.setIfInBounds_toArray, List.set_cons_zero, List.set_cons_succ]
            refine wpAnyU_take 5 (v := ?vv36) rfl (by kernel_rfl) (by kernel_rfl) (fun _ _ _ h => h) ⟨Gr.cell hm133.below c1, Gr.cell hm133.below c2⟩ (Or.inl ⟨rfl, ?yv36⟩) ?rv36
            case yv36 =>
              intro W hW
              obtain ⟨hW0, hW1⟩ := hW
              go_simp
              try with_reducible rfl
            try simp only [Act.put, List.setIfInBounds_toArray, List.set_cons_zero, List.set_cons_succ]
            refine wpAnyU_take 6 (v := ?vv37) rfl (by kernel_rfl) (by kernel_rfl) (fun _ _ _ h => h) ⟨Gr.cell hm133.below c1, Gr.cell hm133.below c2⟩ (Or.inl ⟨rfl, ?yv37⟩) ?rv37
            case yv37 =>
              intro W hW
              obtain ⟨hW0, hW1⟩ := hW
              go_simp
              try with_reducible rfl
            try simp only [Act.put, List.setIfInBounds_toArray, List.set_cons_zero, List.set_cons_succ]
            refine wpAnyU_one 8 (by kernel_rfl) rfl (fun K hK => ?_)
            have hm137 := hm133.swap
            have qb1240 := hm137.cell m0 0 rfl
            have fb1240 := hm137.free m0 0
            have qb1241 := hm137.cell m0 1 rfl
            have fb1241 := hm137.free m0 1
            have qb1242 := hm137.cell m0 2 rfl
            have fb1242 := hm137.free m0 2
            have hm138 := ((hm137.set 0 (.int .i64 y130f)).set 1 (.int .i64 y130p)).set 2 (.slice y130A y130n y130c)
            go_simp
            refine hK _ _ (fun _ => ⟨Gr.cell hm138.below c1, Gr.cell hm138.below c2⟩) ?_
            clear hK K
            try simp only [Act.put, List.setIfInBounds_toArray, List.set_cons_zero, List.set_cons_succ]
            refine wpAnyU_one 9 (by kernel_rfl) rfl (fun K hK => ?_)
            go_simp
            refine hK _ _ (fun h => absurd h (by decide)) ?_
            clear hK K
            refine wpAnyU_done (by kernel_rfl) ?_ _
            go_wp2
            try simp only [Act.put, List.getElem_toArray, List.getElem_cons_succ, List.getElem_cons_zero, List.setIfInBounds_toArray, List.set_cons_succ, List.set_cons_zero]
            go_meet
            case rel => exact ⟨rfl, hm138.below⟩
        · go_simp
          have g142 := Gr.alloc (Gr.refl u95) (.cells [.int .i64 0, .int .i64 0, .slice none 0 0].toArray 30)
          have r143 := r97.gr g142
          have hm141 := hm98.alloc (.cells [.int .i64 0, .int .i64 0, .slice none 0 0].toArray 30)
          generalize u95.heap.size = b140 at hm141 ⊢
          generalize u95.alloc (.cells [.int .i64 0, .int .i64 0, .slice none 0 0].toArray 30) = u139 at g142 hm141 r143 ⊢
          refine hK _ _ (fun _ => ⟨Gr.cell hm141.below c1, Gr.cell hm141.below c2⟩) ?_
          clear hK K
          try simp only [Act.put, List.setIfInBounds_toArray, List.set_cons_zero, List.set_cons_succ]
          refine wpAnyU_one 2 (by kernel_rfl) rfl (fun K hK => ?_)
          refine step_call rfl 56 Try.f56 Try.func56 (by kernel_rfl) (by kernel_rfl) _ _ rfl #[.slice (some ⟨a96, 0, none⟩) 1 1] (by simp [Act.eval]) ?_
          refine (ints_ok u139 (some ⟨a96, 0, none⟩) 1 1 [8] ⟨r143⟩ (by omega)).mono ?_
          rintro e u144 ⟨A145, c146, rfl, hn147⟩
          have g150 := hn147.gr
          have r148 : RdC u144 2 (.slice A145 1 c146) (fV (iv [8])) := hn147.ok.rd
          have hm149 := hm141.gr g150
          have r151 := r143.gr g150
          refine ⟨_, rfl, hK _ _ (fun _ => ⟨Gr.cell hm149.below c1, Gr.cell hm149.below c2⟩) ?_⟩
          clear hK K
          try simp only [Act.put, List.setIfInBounds_toArray, List.set_cons_zero, List.set_cons_succ]
          refine wpAnyU_one 3 (by kernel_rfl) rfl (fun K hK => ?_)
          refine step_call rfl 16 Try.f16 Try.func16 (by kernel_rfl) (by kernel_rfl) _ _ rfl #[.agg #[.slice none 0 0, .slice (some ⟨gf, 0, none⟩) 2 2], .int .i64 1, .slice A145 1 c146] (by simp [Act.eval]) ?_
          refine (enter_ok u144 (kP gh gf) ⟨hpg.out.gr (Gr.trans hgB hm149.below)⟩ 1 A145 1 c146 (iv [8]) ⟨r148⟩ (by omega)).mono ?_
          rintro e u152 ⟨⟨y153f, y153p, y153A, y153n, y153c, y153s⟩, rfl, hd154, hn155⟩
          simp only [cR]
          have g157 := hn155.gr
          have hm156 := hm149.new hn155
          have r158 := r151.gr g157
          have r159 := r148.gr g157
          refine ⟨_, rfl, hK _ _ (fun _ => ⟨Gr.cell hm156.below c1, Gr.cell hm156.below c2⟩) ?_⟩
          clear hK K
          try simp only [Act.put, List.setIfInBounds_toArray, List.set_cons_zero, List.set_cons_succ]
          refine wpAnyU_take 4 (v := ?vv38) rfl (by kernel_rfl) (by kernel_rfl) (fun _ _ _ h => h) ⟨Gr.cell hm156.below c1, Gr.cell hm156.below c2⟩ (Or.inl ⟨rfl, ?yv38⟩) ?rv38
          case yv38 =>
            intro W hW
            obtain ⟨hW0, hW1⟩ := hW
            go_simp
            try with_reducible rfl
          try simp only [Act.put, List.setIfInBounds_toArray, List.set_cons_zero, List.set_cons_succ]
          refine wpAnyU_take 5 (v := ?vv39) rfl (by kernel_rfl) (by kernel_rfl) (fun _ _ _ h => h) ⟨Gr.cell hm156.below c1, Gr.cell hm156.below c2⟩ (Or.inl ⟨rfl, ?yv39⟩) ?rv39
          case yv39 =>
            intro W hW
            obtain ⟨hW0, hW1⟩ := hW
            go_simp
            try with_reducible rfl
          try simp only [Act.put, List.setIfInBounds_toArray, List.set_cons_zero, List.set_cons_succ]
          refine wpAnyU_take 6 (v := ?vv310) rfl (by kernel_rfl) (by kernel_rfl) (fun _ _ _ h => h) ⟨Gr.cell hm156.below c1, Gr.cell hm156.below c2⟩ (Or.inl ⟨rfl, ?yv310⟩) ?rv310
          case yv310 =>
            intro W hW
            obtain ⟨hW0, hW1⟩ := hW
            go_simp
            try with_reducible rfl
          try simp only [Act.put, List.setIfInBounds_toArray, List.set_cons_zero, List.set_cons_succ]
          refine wpAnyU_one 8 (by kernel_rfl) rfl (fun K hK => ?_)
          have hm160 := hm156.swap
          have qb1400 := hm160.cell m0 0 rfl
          have fb1400 := hm160.free m0 0
          have qb1401 := hm160.cell m0 1 rfl
          have fb1401 := hm160.free m0 1
          have qb1402 := hm160.cell m0 2 rfl
          have fb1402 := hm160.free m0 2
          have hm161 := ((hm160.set 0 (.int .i64 y153f)).set 1 (.int .i64 y153p)).set 2 (.slice y153A y153n y153c)
          go_simp
          refine hK _ _ (fun _ => ⟨Gr.cell hm161.below c1, Gr.cell hm161.below c2⟩) ?_
          clear hK K
          try simp only [Act.put, List.setIfInBounds_toArray, List.set_cons_zero, List.set_cons_succ]
          refine wpAnyU_one 9 (by kernel_rfl) rfl (fun K hK => ?_)
          go_simp
          refine hK _ _ (fun h => absurd h (by decide)) ?_
          clear hK K
          refine wpAnyU_done (by kernel_rfl) ?_ _
          go_wp2
          try simp only [Act.put, List.getElem_toArray, List.getElem_cons_succ, List.getElem_cons_zero, List.setIfInBounds_toArray, List.set_cons_succ, List.set_cons_zero]
          go_meet
          case rel => exact ⟨rfl, hm161.below⟩
      · go_simp
        have g165 := Gr.alloc (Gr.refl wd) (.cells [.int .i64 0, .int .i64 0, .slice none 0 0].toArray 30)
        have hm164 := hmS.alloc (.cells [.int .i64 0, .int .i64 0, .slice none 0 0].toArray 30)
        generalize wd.heap.size = b163 at hm164 ⊢
        generalize wd.alloc (.cells [.int .i64 0, .int .i64 0, .slice none 0 0].toArray 30) = u162 at g165 hm164 ⊢
        refine hK _ _ (fun _ => ⟨Gr.cell hm164.below c1, Gr.cell hm164.below c2⟩) ?_
        clear hK K
        try simp only [Act.put, List.setIfInBounds_toArray, List.set_cons_zero, List.set_cons_succ]
        refine wpAnyU_one 1 (by kernel_rfl) rfl (fun K hK => ?_)
        go_simp
        have g170 := Gr.alloc (Gr.refl u162) (.cells [.int .i64 8].toArray 2)
        have r168 : RdC (u162.alloc (.cells [.int .i64 8].toArray 2)) 1 (.slice (some ⟨u162.heap.size, 0, none⟩) 1 1) (nums .i64 [8]) := RdC.lit _ (nums .i64 [8]) _ 1 1 rfl (by simp [maxLen]) (One.nums _ _)
        have hm169 := hm164.gr g170
        generalize u162.heap.size = a167 at r168 ⊢
        generalize u162.alloc (.cells [.int .i64 8].toArray 2) = u166 at g170 r168 hm169 ⊢
        refine hK _ _ (fun _ => ⟨Gr.cell hm169.below c1, Gr.cell hm169.below c2⟩) ?_
        clear hK K
        try simp only [Act.put, List.setIfInBounds_toArray, List.set_cons_zero, List.set_cons_succ]
        refine wpAnyU_one 2 (by kernel_rfl) rfl (fun K hK => ?_)
        refine step_call rfl 56 Try.f56 Try.func56 (by kernel_rfl) (by kernel_rfl) _ _ rfl #[.slice (some ⟨a167, 0, none⟩) 1 1] (by simp [Act.eval]) ?_
        refine (ints_ok u166 (some ⟨a167, 0, none⟩) 1 1 [8] ⟨r168⟩ (by omega)).mono ?_
        rintro e u171 ⟨A172, c173, rfl, hn174⟩
        have g177 := hn174.gr
        have r175 : RdC u171 2 (.slice A172 1 c173) (fV (iv [8])) := hn174.ok.rd
        have hm176 := hm169.gr g177
        have r178 := r168.gr g177
        refine ⟨_, rfl, hK _ _ (fun _ => ⟨Gr.cell hm176.below c1, Gr.cell hm176.below c2⟩) ?_⟩
        clear hK K
        try simp only [Act.put, List.setIfInBounds_toArray, List.set_cons_zero, List.set_cons_succ]
        refine wpAnyU_one 3 (by kernel_rfl) rfl (fun K hK => ?_)
        refine step_call rfl 16 Try.f16 Try.func16 (by kernel_rfl) (by kernel_rfl) _ _ rfl #[.agg #[.slice none 0 0, .slice (some ⟨gf, 0, none⟩) 2 2], .int .i64 1, .slice A172 1 c173] (by simp [Act.eval]) ?_
        refine (enter_ok u171 (kP gh gf) ⟨hpg.out.gr (Gr.trans hgB hm176.below)⟩ 1 A172 1 c173 (iv [8]) ⟨r175⟩ (by omega)).mono ?_
        rintro e u179 ⟨⟨y180f, y180p, y180A, y180n, y180c, y180s⟩, rfl, hd181, hn182⟩
        simp only [cR]
        have g184 := hn182.gr
        have hm183 := hm176.new hn182
        have r185 := r178.gr g184
        have r186 := r175.gr g184
        refine ⟨_, rfl, hK _ _ (fun _ => ⟨Gr.cell hm183.below c1, Gr.cell hm183.below c2⟩) ?_⟩
        clear hK K
        try simp only [Act.put, List.setIfInBounds_toArray, List.set_cons_zero, List.set_cons_succ]
        refine wpAnyU_take 4 (v := ?vv311) rfl (by kernel_rfl) (by kernel_rfl) (fun _ _ _ h => h) ⟨Gr.cell hm183.below c1, Gr.cell hm183.below c2⟩ (Or.inl ⟨rfl, ?yv311⟩) ?rv311
        case yv311 =>
          intro W hW
          obtain ⟨hW0, hW1⟩ := hW
          go_simp
          try with_reducible rfl
        try simp only [Act.put, List.setIfInBounds_toArray, List.set_cons_zero, List.set_cons_succ]
        refine wpAnyU_take 5 (v := ?vv312) rfl (by kernel_rfl) (by kernel_rfl) (fun _ _ _ h => h) ⟨Gr.cell hm183.below c1, Gr.cell hm183.below c2⟩ (Or.inl ⟨rfl, ?yv312⟩) ?rv312
        case yv312 =>
          intro W hW
          obtain ⟨hW0, hW1⟩ := hW
          go_simp
          try with_reducible rfl
        try simp only [Act.put, List.setIfInBounds_toArray, List.set_cons_zero, List.set_cons_succ]
        refine wpAnyU_take 6 (v := ?vv313) rfl (by kernel_rfl) (by kernel_rfl) (fun _ _ _ h => h) ⟨Gr.cell hm183.below c1, Gr.cell hm183.below c2⟩ (Or.inl ⟨rfl, ?yv313⟩) ?rv313
        case yv313 =>
          intro W hW
          obtain ⟨hW0, hW1⟩ := hW
          go_simp
          try with_reducible rfl
        try simp only [Act.put, List.setIfInBounds_toArray, List.set_cons_zero, List.set_cons_succ]
        refine wpAnyU_one 8 (by kernel_rfl) rfl (fun K hK => ?_)
        have hm187 := hm183.swap
        have qb1630 := hm187.cell m0 0 rfl
        have fb1630 := hm187.free m0 0
        have qb1631 := hm187.cell m0 1 rfl
        have fb1631 := hm187.free m0 1
        have qb1632 := hm187.cell m0 2 rfl
        have fb1632 := hm187.free m0 2
        have hm188 := ((hm187.set 0 (.int .i64 y180f)).set 1 (.int .i64 y180p)).set 2 (.slice y180A y180n y180c)
        go_simp
        refine hK _ _ (fun _ => ⟨Gr.cell hm188.below c1, Gr.cell hm188.below c2⟩) ?_
        clear hK K
        try simp only [Act.put, List.setIfInBounds_toArray, List.set_cons_zero, List.set_cons_succ]
        refine wpAnyU_one 9 (by kernel_rfl) rfl (fun K hK => ?_)
        go_simp
        refine hK _ _ (fun h => absurd h (by decide)) ?_
        clear hK K
        refine wpAnyU_done (by kernel_rfl) ?_ _
        go_wp2
        try simp only [Act.put, List.getElem_toArray, List.getElem_cons_succ, List.getElem_cons_zero, List.setIfInBounds_toArray, List.set_cons_succ, List.set_cons_zero]
        go_meet
        case rel => exact ⟨rfl, hm188.below⟩
    case rest =>
      obtain ⟨wq, rfl⟩ : ∃ wq : World, wq = wc := ⟨_, rfl⟩
      obtain ⟨rfl, hg2⟩ := hcut
      have hm2 := hm2.gr hg2
      have hgB := Gr.trans hgB hg2
      have c1 := Gr.cell hg2 c1
      have c2 := Gr.cell hg2 c2
      clear hm
      obtain ⟨iV, hi, hz0, hz1, hz2⟩ := info_parts inf_V
      go_wp2_with fail
      have hm3 := hm2.gr (Gr.alloc (Gr.refl wq) (.cells [.int .i64 8, .int .i64 9].toArray 2))
      refine (ints_ok _ (some ⟨_, 0, none⟩) 2 2 [8, 9] ⟨RdC.lit _ (nums .i64 [8, 9]) _ 2 1 rfl (by simp [maxLen]) (One.nums _ _)⟩ (by omega)).mono ?_
      rintro e w4 ⟨A4, e4, rfl, hn4⟩
      have hm4 := hm3.new hn4
      go_upto_region 5 with (at_builtin; refine wp_app rfl _ _ _ rfl 41 iV _ 2 16 ty_Vs hi hz0 hz1 hz2 rfl A4 2 e4 _ rfl (hm4.alloc _).swap _ 1 1 [.int .i64 0, .int .i64 0] rfl (RdC.lit _ _ _ _ _ rfl (by simp [maxLen]) (cV_one (0, 0))) (by unfold maxLen; omega) (by omega) ?_; intro A5 e5 w5 hm5)
      have hr5 : Fact (RdC w5 2 (.slice A5 3 e5) (fV [(2, 8), (2, 9), (0, 0)])) := ⟨hm5.rd m0⟩
      have hy5 : Fact (RdC w5 2 (.slice yA 3 yc) (fV [(2, 8), (2, 9), (0, 0)])) := ⟨hm5.rd m3⟩
      have d0 : w5.cell? ⟨g2, 0, none⟩ = some (.int .i64 1) := hm5.cell m2 0 rfl
      have d1 : w5.cell? ⟨g2, 1, none⟩ = some (.int .i64 0) := hm5.cell m2 1 rfl
      have d2 : w5.cell? ⟨g2, 2, none⟩ = some (.slice yA 3 yc) := hm5.cell m2 2 rfl
      have hg5 := hm5.below
      clear hm5 hm4 hm3 hm2 hn4
      go_wp2_with fail
      refine (sameValues_ok w5 yA A5 3 yc e5 [(2, 8), (2, 9), (0, 0)] hy5 hr5 (by omega)).mono ?_
      rintro e w6 ⟨rfl, hg6⟩
      have hg6 := Fact.mk (Gr.trans hg5 hg6)
      clear d0 d1 d2 hr5 hy5 hg5
      go_upto_region 8 with (fail)
      have hm7 := ((Mem.start w6).alloc (.cells [.int .i64 2, .int .i64 77].toArray 41))
      generalize hgX : w6.heap.size = g7 at hm7 ⊢
      generalize hwX : (w6.alloc (.cells [.int .i64 2, .int .i64 77].toArray 41)) = w7 at hm7
      try refine wp_world hwX ?_
      clear hwX hgX
      go_wp2_with fail
      have hm7 := hm7.gr (Gr.alloc (Gr.refl w7) (.cells [.int .i64 1].toArray 2))
      refine (ints_ok _ (some ⟨_, 0, none⟩) 1 1 [1] ⟨RdC.lit _ (nums .i64 [1]) _ 1 1 rfl (by simp [maxLen]) (One.nums _ _)⟩ (by omega)).mono ?_
      rintro e w8 ⟨AF, eF, rfl, hn8⟩
      have hm8 := hm7.new hn8
      clear hm7 hn8
      go_upto_region 9 with (fail)
      have hm9 := ((Mem.start w8).alloc (.cells [.int .i64 0, .int .i64 3, .slice AF 1 eF].toArray 30))
      generalize hgX : w8.heap.size = g8 at hm9 ⊢
      generalize hwX : (w8.alloc (.cells [.int .i64 0, .int .i64 3, .slice AF 1 eF].toArray 30)) = w9 at hm9
      try refine wp_world hwX ?_
      clear hwX hgX
      have hm9 := hm8.join hm9
      clear hm8
      have hgw := Fact.mk (Gr.trans hg6.out hm9.below)
      have hr8 := Fact.mk (show RdC w9 2 (.slice AF 1 eF) (fV (iv [1])) from hm9.rd m1)
      have k1 := Gr.cell hgw.out hk1.out
      have k2 := Gr.cell hgw.out hk2.out
      have k3 : w9.cell? ⟨g8, 0, none⟩ = some (.int .i64 0) := hm9.cell m0 0 rfl
      have k4 : w9.cell? ⟨g8, 1, none⟩ = some (.int .i64 3) := hm9.cell m0 1 rfl
      have k5 : w9.cell? ⟨g8, 2, none⟩ = some (.slice AF 1 eF) := hm9.cell m0 2 rfl
      have k6 : w9.cell? ⟨g7, 0, none⟩ = some (.int .i64 2) := hm9.cell m2 0 rfl
      have k7 : w9.cell? ⟨g7, 1, none⟩ = some (.int .i64 77) := hm9.cell m2 1 rfl
      clear hm9 c1 c2
      go_cut [9, 10] (fun s9 s10 W => ∃ (A9 : Option Addr) (n9 e9 : Nat) (zs : List Fr), s9 = .slice A9 n9 e9 ∧ s10 = .bool true ∧ Gr w9 W ∧ FrsOk 9 W A9 n9 e9 zs ∧ zs.map Fr.data = [(0, 3, iv [1]), (1, 7, iv [1, 2, 3, 4, 77])] ∧ n9 ≤ 4)
      case first =>
        have hmS := (Mem.start w9).drew
        have hrS := hr8.out.gr (Gr.refl w9).drew
        refine wp_region_until (S := fun W => W.cell? ⟨g1, 0, none⟩ = some (.slice none 0 0) ∧ W.cell? ⟨g1, 1, none⟩ = some (.slice (some ⟨gf, 0, none⟩) 2 2) ∧ W.cell? ⟨g8, 0, none⟩ = some (.int .i64 0) ∧ W.cell? ⟨g8, 1, none⟩ = some (.int .i64 3) ∧ W.cell? ⟨g8, 2, none⟩ = some (.slice AF 1 eF) ∧ W.cell? ⟨g7, 0, none⟩ = some (.int .i64 2) ∧ W.cell? ⟨g7, 1, none⟩ = some (.int .i64 77)) 12 (by kernel_rfl) ?_
        generalize w9.drew = wd at hmS hrS ⊢
        refine wpAnyU_take 0 (v := ?vv91) rfl (by kernel_rfl) (by kernel_rfl) (fun _ _ _ h => h) ⟨Gr.cell hmS.below k1, Gr.cell hmS.below k2, Gr.cell hmS.below k3, Gr.cell hmS.below k4, Gr.cell hmS.below k5, Gr.cell hmS.below k6, Gr.cell hmS.below k7⟩ (Or.inl ⟨rfl, ?yv91⟩) ?rv91
        case yv91 =>
          intro W hW
          obtain ⟨hW0, hW1, hW2, hW3, hW4, hW5, hW6⟩ := hW
          go_simp
          try with_reducible rfl
        try simp only [Act.put, List.setIfInBounds_toArray, List.set_cons_zero, List.set_cons_succ]
        refine wpAnyU_take 1 (v := ?vv92) rfl (by kernel_rfl) (by kernel_rfl) (fun _ _ _ h => h) ⟨Gr.cell hmS.below k1, Gr.cell hmS.below k2, Gr.cell hmS.below k3, Gr.cell hmS.below k4, Gr.cell hmS.below k5, Gr.cell hmS.below k6, Gr.cell hmS.below k7⟩ (Or.inl ⟨rfl, ?yv92⟩) ?rv92
        case yv92 =>
          intro W hW
          obtain ⟨hW0, hW1, hW2, hW3, hW4, hW5, hW6⟩ := hW
          go_simp
          try with_reducible rfl
        try simp only [Act.put, List.setIfInBounds_toArray, List.set_cons_zero, List.set_cons_succ]
        refine wpAnyU_take 6 (v := ?vv93) rfl (by kernel_rfl) (by kernel_rfl) (fun _ _ _ h => h) ⟨Gr.cell hmS.below k1, Gr.cell hmS.below k2, Gr.cell hmS.below k3, Gr.cell hmS.below k4, Gr.cell hmS.below k5, Gr.cell hmS.below k6, Gr.cell hmS.below k7⟩ (Or.inl ⟨rfl, ?yv93⟩) ?rv93
        case yv93 =>
          intro W hW
          obtain ⟨hW0, hW1, hW2, hW3, hW4, hW5, hW6⟩ := hW
          go_simp
          try with_reducible rfl
        try simp only [Act.put, List.setIfInBounds_toArray, List.set_cons_zero, List.set_cons_succ]
        refine wpAnyU_one 2 (by kernel_rfl) rfl (fun K hK => ?_)
        go_simp
        have g193 := Gr.alloc (Gr.refl wd) (.cells [.int .i64 1, .int .i64 2, .int .i64 3, .int .i64 4, .int .i64 5].toArray 2)
        have r194 := hrS.gr g193
        have r191 : RdC (wd.alloc (.cells [.int .i64 1, .int .i64 2, .int .i64 3, .int .i64 4, .int .i64 5].toArray 2)) 1 (.slice (some ⟨wd.heap.size, 0, none⟩) 5 5) (nums .i64 [1, 2, 3, 4, 5]) := RdC.lit _ (nums .i64 [1, 2, 3, 4, 5]) _ 5 1 rfl (by simp [maxLen]) (One.nums _ _)
        have hm192 := hmS.gr g193
        generalize wd.heap.size = a190 at r191 ⊢
        generalize wd.alloc (.cells [.int .i64 1, .int .i64 2, .int .i64 3, .int .i64 4, .int .i64 5].toArray 2) = u189 at g193 r191 hm192 r194 ⊢
        refine hK _ _ (fun _ => ⟨Gr.cell hm192.below k1, Gr.cell hm192.below k2, Gr.cell hm192.below k3, Gr.cell hm192.below k4, Gr.cell hm192.below k5, Gr.cell hm192.below k6, Gr.cell hm192.below k7⟩) ?_
        clear hK K
        try simp only [Act.put, List.setIfInBounds_toArray, List.set_cons_zero, List.set_cons_succ]
        refine wpAnyU_one 3 (by kernel_rfl) rfl (fun K hK => ?_)
        refine step_call rfl 56 Try.f56 Try.func56 (by kernel_rfl) (by kernel_rfl) _ _ rfl #[.slice (some ⟨a190, 0, none⟩) 5 5] (by simp [Act.eval]) ?_
        refine (ints_ok u189 (some ⟨a190, 0, none⟩) 5 5 [1, 2, 3, 4, 5] ⟨r191⟩ (by omega)).mono ?_
        rintro e u195 ⟨A196, c197, rfl, hn198⟩
        have g201 := hn198.gr
        have r199 : RdC u195 2 (.slice A196 5 c197) (fV (iv [1, 2, 3, 4, 5])) := hn198.ok.rd
        have hm200 := hm192.gr g201
        have r202 := r194.gr g201
        have r203 := r191.gr g201
        refine ⟨_, rfl, hK _ _ (fun _ => ⟨Gr.cell hm200.below k1, Gr.cell hm200.below k2, Gr.cell hm200.below k3, Gr.cell hm200.below k4, Gr.cell hm200.below k5, Gr.cell hm200.below k6, Gr.cell hm200.below k7⟩) ?_⟩
        clear hK K
        try simp only [Act.put, List.setIfInBounds_toArray, List.set_cons_zero, List.set_cons_succ]
        refine wpAnyU_take 4 (v := ?vv94) rfl (by kernel_rfl) (by kernel_rfl) (fun _ _ _ h => h) ⟨Gr.cell hm200.below k1, Gr.cell hm200.below k2, Gr.cell hm200.below k3, Gr.cell hm200.below k4, Gr.cell hm200.below k5, Gr.cell hm200.below k6, Gr.cell hm200.below k7⟩ (Or.inl ⟨rfl, ?yv94⟩) ?rv94
        case yv94 =>
          intro W hW
          obtain ⟨hW0, hW1, hW2, hW3, hW4, hW5, hW6⟩ := hW
          go_simp
          try with_reducible rfl
        try simp only [Act.put, List.setIfInBounds_toArray, List.set_cons_zero, List.set_cons_succ]
        refine wpAnyU_one 5 (by kernel_rfl) rfl (fun K hK => ?_)
        go_simp
        have g207 := Gr.alloc (Gr.refl u195) (.cells [.int .i64 0, .int .i64 3, .slice AF 1 eF, .int .i64 1, .int .i64 2, .slice A196 5 c197].toArray 30)
        have r209 := r202.gr g207
        have r210 := r203.gr g207
        have r211 := r199.gr g207
        have hf208 : FrsOk 8 (u195.alloc (.cells [.int .i64 0, .int .i64 3, .slice AF 1 eF, .int .i64 1, .int .i64 2, .slice A196 5 c197].toArray 30)) (some ⟨u195.heap.size, 0, none⟩) 2 2 [⟨0, 3, AF, 1, eF, iv [1]⟩, ⟨1, 2, A196, 5, c197, iv [1, 2, 3, 4, 5]⟩] := frs2 (RdC.lit _ (fR [⟨0, 3, AF, 1, eF, iv [1]⟩, ⟨1, 2, A196, 5, c197, iv [1, 2, 3, 4, 5]⟩]) _ 2 3 rfl (by simp [maxLen]) (fR_one _)) ⟨r209, (by decide : 1 ≤ 8)⟩ ⟨r211, (by decide : 5 ≤ 8)⟩
        have hm206 := hm200.gr g207
        generalize u195.heap.size = a205 at hf208 ⊢
        generalize u195.alloc (.cells [.int .i64 0, .int .i64 3, .slice AF 1 eF, .int .i64 1, .int .i64 2, .slice A196 5 c197].toArray 30) = u204 at g207 hm206 hf208 r209 r210 r211 ⊢
        refine hK _ _ (fun _ => ⟨Gr.cell hm206.below k1, Gr.cell hm206.below k2, Gr.cell hm206.below k3, Gr.cell hm206.below k4, Gr.cell hm206.below k5, Gr.cell hm206.below k6, Gr.cell hm206.below k7⟩) ?_
        clear hK K
        try simp only [Act.put, List.setIfInBounds_toArray, List.set_cons_zero, List.set_cons_succ]
        refine wpAnyU_one 7 (by kernel_rfl) rfl (fun K hK => ?_)
        refine step_call rfl 45 Try.f45 Try.func45 (by kernel_rfl) (by kernel_rfl) _ _ rfl #[.agg #[.slice none 0 0, .slice (some ⟨gf, 0, none⟩) 2 2], .slice (some ⟨a205, 0, none⟩) 2 2, .agg #[.int .i64 2, .int .i64 77]] (by simp [Act.eval]) ?_
        have hE213 := catch_ok u204 (kP gh gf) ⟨hpg.out.gr (Gr.trans hB1.out (Gr.trans hgw.out hm206.below))⟩ 8 (some ⟨a205, 0, none⟩) 2 2 [⟨0, 3, AF, 1, eF, iv [1]⟩, ⟨1, 2, A196, 5, c197, iv [1, 2, 3, 4, 5]⟩] ⟨hf208⟩ (2, 77) (by omega) (by omega)
        have hQ214 : catchD (kP gh gf) (2, 77) (List.map Fr.data [⟨0, 3, AF, 1, eF, iv [1]⟩, ⟨1, 2, A196, 5, c197, iv [1, 2, 3, 4, 5]⟩]) 2 = some [(0, 3, iv [1]), (1, 7, iv [1, 2, 3, 4, 77])] := by rfl
        rw [hQ214] at hE213
        refine hE213.mono ?_
        rintro e u212 ⟨A215, n216, c217, zs218, rfl, hz219, hd221, hn220⟩
        have g223 := hz219.below
        have hm222 := hm206.gr g223
        have hf224 := frs_of hz219 hn220
        have r225 := r209.gr g223
        have r226 := r210.gr g223
        have r227 := r211.gr g223
        have r228 := hf208.gr g223
        refine ⟨_, rfl, hK _ _ (fun _ => ⟨Gr.cell hm222.below k1, Gr.cell hm222.below k2, Gr.cell hm222.below k3, Gr.cell hm222.below k4, Gr.cell hm222.below k5, Gr.cell hm222.below k6, Gr.cell hm222.below k7⟩) ?_⟩
        clear hK K
        try simp only [Act.put, List.setIfInBounds_toArray, List.set_cons_zero, List.set_cons_succ]
        refine wpAnyU_take 8 (v := ?vv95) rfl (by kernel_rfl) (by kernel_rfl) (fun _ _ _ h => h) ⟨Gr.cell hm222.below k1, Gr.cell hm222.below k2, Gr.cell hm222.below k3, Gr.cell hm222.below k4, Gr.cell hm222.below k5, Gr.cell hm222.below k6, Gr.cell hm222.below k7⟩ (Or.inl ⟨rfl, ?yv95⟩) ?rv95
        case yv95 =>
          intro W hW
          obtain ⟨hW0, hW1, hW2, hW3, hW4, hW5, hW6⟩ := hW
          go_simp
          try with_reducible rfl
        try simp only [Act.put, List.setIfInBounds_toArray, List.set_cons_zero, List.set_cons_succ]
        refine wpAnyU_take 9 (v := ?vv96) rfl (by kernel_rfl) (by kernel_rfl) (fun _ _ _ h => h) ⟨Gr.cell hm222.below k1, Gr.cell hm222.below k2, Gr.cell hm222.below k3, Gr.cell hm222.below k4, Gr.cell hm222.below k5, Gr.cell hm222.below k6, Gr.cell hm222.below k7⟩ (Or.inl ⟨rfl, ?yv96⟩) ?rv96
        case yv96 =>
          intro W hW
          obtain ⟨hW0, hW1, hW2, hW3, hW4, hW5, hW6⟩ := hW
          go_simp
          try with_reducible rfl
        try simp only [Act.put, List.setIfInBounds_toArray, List.set_cons_zero, List.set_cons_succ]
        refine wpAnyU_take 10 (v := ?vv97) rfl (by kernel_rfl) (by kernel_rfl) (fun _ _ _ h => h) ⟨Gr.cell hm222.below k1, Gr.cell hm222.below k2, Gr.cell hm222.below k3, Gr.cell hm222.below k4, Gr.cell hm222.below k5, Gr.cell hm222.below k6, Gr.cell hm222.below k7⟩ (Or.inl ⟨rfl, ?yv97⟩) ?rv97
        case yv97 =>
          intro W hW
          obtain ⟨hW0, hW1, hW2, hW3, hW4, hW5, hW6⟩ := hW
          go_simp
          try with_reducible rfl
        try simp only [Act.put, List.setIfInBounds_toArray, List.set_cons_zero, List.set_cons_succ]
        refine wpAnyU_take 11 (v := ?vv98) rfl (by kernel_rfl) (by kernel_rfl) (fun _ _ _ h => h) ⟨Gr.cell hm222.below k1, Gr.cell hm222.below k2, Gr.cell hm222.below k3, Gr.cell hm222.below k4, Gr.cell hm222.below k5, Gr.cell hm222.below k6, Gr.cell hm222.below k7⟩ (Or.inl ⟨rfl, ?yv98⟩) ?rv98
        case yv98 =>
          intro W hW
          obtain ⟨hW0, hW1, hW2, hW3, hW4, hW5, hW6⟩ := hW
          go_simp
          try with_reducible rfl
        try simp only [Act.put, List.setIfInBounds_toArray, List.set_cons_zero, List.set_cons_succ]
        refine wpAnyU_one 12 (by kernel_rfl) rfl (fun K hK => ?_)
        go_simp
        refine hK _ _ (fun h => absurd h (by decide)) ?_
        clear hK K
        refine wpAnyU_done (by kernel_rfl) ?_ _
        go_wp2
        try simp only [Act.put, List.getElem_toArray, List.getElem_cons_succ, List.getElem_cons_zero, List.setIfInBounds_toArray, List.set_cons_succ, List.set_cons_zero]
        go_meet
        case rel => exact ⟨_, _, _, _, rfl, rfl, hm222.below, hf224, hd221, by have := hf224.len; have := congrArg List.length hd221; simp at *; omega⟩
      case rest =>
        obtain ⟨wq, rfl⟩ : ∃ wq : World, wq = wc := ⟨_, rfl⟩
        obtain ⟨B9, n9, e9, zs, rfl, rfl, hg9, hf9, hd9, hn9⟩ := hcut
        have hf9 := Fact.mk hf9
        have hgw := Fact.mk (Gr.trans hgw.out hg9)
        have hr8 := Fact.mk (hr8.out.gr hg9)
        have k1 := Gr.cell hg9 k1
        have k2 := Gr.cell hg9 k2
        have k3 := Gr.cell hg9 k3
        have k4 := Gr.cell hg9 k4
        have k5 := Gr.cell hg9 k5
        have k6 := Gr.cell hg9 k6
        have k7 := Gr.cell hg9 k7
        clear hg9
        go_upto_region 10 with (fail)
        go_cut [11] (fun s11 W => ∃ (A9 : Option Addr) (zs : List Fr), s11 = .slice A9 2 2 ∧ Gr wq W ∧ FrsOk 8 W A9 2 2 zs ∧ zs.map Fr.data = [(0, 3, iv [1]), (1, 7, iv [1, 2, 3, 4, 77])])
        case first =>
          have hmS := (Mem.start wq).drew
          have hrS := hr8.out.gr (Gr.refl wq).drew
          refine wp_region_until (S := fun W => W.cell? ⟨g8, 0, none⟩ = some (.int .i64 0) ∧ W.cell? ⟨g8, 1, none⟩ = some (.int .i64 3) ∧ W.cell? ⟨g8, 2, none⟩ = some (.slice AF 1 eF)) 5 (by kernel_rfl) ?_
          generalize wq.drew = wd at hmS hrS ⊢
          refine wpAnyU_take 0 (v := ?vv101) rfl (by kernel_rfl) (by kernel_rfl) (fun _ _ _ h => h) ⟨Gr.cell hmS.below k3, Gr.cell hmS.below k4, Gr.cell hmS.below k5⟩ (Or.inl ⟨rfl, ?yv101⟩) ?rv101
          case yv101 =>
            intro W hW
            obtain ⟨hW0, hW1, hW2⟩ := hW
            go_simp
            try with_reducible rfl
          try simp only [Act.put, List.setIfInBounds_toArray, List.set_cons_zero, List.set_cons_succ]
          refine wpAnyU_one 1 (by kernel_rfl) rfl (fun K hK => ?_)
          go_simp
          have g233 := Gr.alloc (Gr.refl wd) (.cells [.int .i64 1, .int .i64 2, .int .i64 3, .int .i64 4, .int .i64 77].toArray 2)
          have r234 := hrS.gr g233
          have r231 : RdC (wd.alloc (.cells [.int .i64 1, .int .i64 2, .int .i64 3, .int .i64 4, .int .i64 77].toArray 2)) 1 (.slice (some ⟨wd.heap.size, 0, none⟩) 5 5) (nums .i64 [1, 2, 3, 4, 77]) := RdC.lit _ (nums .i64 [1, 2, 3, 4, 77]) _ 5 1 rfl (by simp [maxLen]) (One.nums _ _)
          have hm232 := hmS.gr g233
          generalize wd.heap.size = a230 at r231 ⊢
          generalize wd.alloc (.cells [.int .i64 1, .int .i64 2, .int .i64 3, .int .i64 4, .int .i64 77].toArray 2) = u229 at g233 r231 hm232 r234 ⊢
          refine hK _ _ (fun _ => ⟨Gr.cell hm232.below k3, Gr.cell hm232.below k4, Gr.cell hm232.below k5⟩) ?_
          clear hK K
          try simp only [Act.put, List.setIfInBounds_toArray, List.set_cons_zero, List.set_cons_succ]
          refine wpAnyU_one 2 (by kernel_rfl) rfl (fun K hK => ?_)
          refine step_call rfl 56 Try.f56 Try.func56 (by kernel_rfl) (by kernel_rfl) _ _ rfl #[.slice (some ⟨a230, 0, none⟩) 5 5] (by simp [Act.eval]) ?_
          refine (ints_ok u229 (some ⟨a230, 0, none⟩) 5 5 [1, 2, 3, 4, 77] ⟨r231⟩ (by omega)).mono ?_
          rintro e u235 ⟨A236, c237, rfl, hn238⟩
          have g241 := hn238.gr
          have r239 : RdC u235 2 (.slice A236 5 c237) (fV (iv [1, 2, 3, 4, 77])) := hn238.ok.rd
          have hm240 := hm232.gr g241
          have r242 := r234.gr g241
          have r243 := r231.gr g241
          refine ⟨_, rfl, hK _ _ (fun _ => ⟨Gr.cell hm240.below k3, Gr.cell hm240.below k4, Gr.cell hm240.below k5⟩) ?_⟩
          clear hK K
          try simp only [Act.put, List.setIfInBounds_toArray, List.set_cons_zero, List.set_cons_succ]
          refine wpAnyU_take 3 (v := ?vv102) rfl (by kernel_rfl) (by kernel_rfl) (fun _ _ _ h => h) ⟨Gr.cell hm240.below k3, Gr.cell hm240.below k4, Gr.cell hm240.below k5⟩ (Or.inl ⟨rfl, ?yv102⟩) ?rv102
          case yv102 =>
            intro W hW
            obtain ⟨hW0, hW1, hW2⟩ := hW
            go_simp
            try with_reducible rfl
          try simp only [Act.put, List.setIfInBounds_toArray, List.set_cons_zero, List.set_cons_succ]
          refine wpAnyU_one 4 (by kernel_rfl) rfl (fun K hK => ?_)
          go_simp
          have g247 := Gr.alloc (Gr.refl u235) (.cells [.int .i64 0, .int .i64 3, .slice AF 1 eF, .int .i64 1, .int .i64 7, .slice A236 5 c237].toArray 30)
          have r249 := r242.gr g247
          have r250 := r243.gr g247
          have r251 := r239.gr g247
          have hf248 : FrsOk 8 (u235.alloc (.cells [.int .i64 0, .int .i64 3, .slice AF 1 eF, .int .i64 1, .int .i64 7, .slice A236 5 c237].toArray 30)) (some ⟨u235.heap.size, 0, none⟩) 2 2 [⟨0, 3, AF, 1, eF, iv [1]⟩, ⟨1, 7, A236, 5, c237, iv [1, 2, 3, 4, 77]⟩] := frs2 (RdC.lit _ (fR [⟨0, 3, AF, 1, eF, iv [1]⟩, ⟨1, 7, A236, 5, c237, iv [1, 2, 3, 4, 77]⟩]) _ 2 3 rfl (by simp [maxLen]) (fR_one _)) ⟨r249, (by decide : 1 ≤ 8)⟩ ⟨r251, (by decide : 5 ≤ 8)⟩
          have hm246 := hm240.gr g247
          generalize u235.heap.size = a245 at hf248 ⊢
          generalize u235.alloc (.cells [.int .i64 0, .int .i64 3, .slice AF 1 eF, .int .i64 1, .int .i64 7, .slice A236 5 c237].toArray 30) = u244 at g247 hm246 hf248 r249 r250 r251 ⊢
          refine hK _ _ (fun _ => ⟨Gr.cell hm246.below k3, Gr.cell hm246.below k4, Gr.cell hm246.below k5⟩) ?_
          clear hK K
          try simp only [Act.put, List.setIfInBounds_toArray, List.set_cons_zero, List.set_cons_succ]
          refine wpAnyU_one 5 (by kernel_rfl) rfl (fun K hK => ?_)
          go_simp
          refine hK _ _ (fun h => absurd h (by decide)) ?_
          clear hK K
          refine wpAnyU_done (by kernel_rfl) ?_ _
          go_wp2
          try simp only [Act.put, List.getElem_toArray, List.getElem_cons_succ, List.getElem_cons_zero, List.setIfInBounds_toArray, List.set_cons_succ, List.set_cons_zero]
          go_meet
          case rel => exact ⟨_, _, rfl, hm246.below, hf248, rfl⟩
        case rest =>
          obtain ⟨ws, rfl⟩ : ∃ ws : World, ws = wc := ⟨_, rfl⟩
          obtain ⟨B11, zt, rfl, hg9, hf11, hd11⟩ := hcut
          have hf9 := Fact.mk (hf9.out.gr hg9)
          have hgw := Fact.mk (Gr.trans hgw.out hg9)
          have hr8 := Fact.mk (hr8.out.gr hg9)
          have k1 := Gr.cell hg9 k1
          have k2 := Gr.cell hg9 k2
          have k3 := Gr.cell hg9 k3
          have k4 := Gr.cell hg9 k4
          have k5 := Gr.cell hg9 k5
          have k6 := Gr.cell hg9 k6
          have k7 := Gr.cell hg9 k7
          clear hg9
          obtain rfl : n9 = 2 := by have h1 := hf9.out.len; have h2 := congrArg List.length hd9; simp at h2; omega
          go_wp2_with fail
          refine (sameFrames_ok ws B9 B11 9 2 e9 2 zs zt hf9 ⟨⟨hf11.rd, fun f hf => ⟨(hf11.each f hf).1, Nat.le_succ_of_le (hf11.each f hf).2⟩⟩⟩ ⟨hd9.trans hd11.symm⟩ (by omega) (by omega)).mono ?_
          rintro e wt ⟨rfl, hg9⟩
          have hgw := Fact.mk (Gr.trans hgw.out hg9)
          have hr8 := Fact.mk (hr8.out.gr hg9)
          have k1 := Gr.cell hg9 k1
          have k2 := Gr.cell hg9 k2
          have k3 := Gr.cell hg9 k3
          have k4 := Gr.cell hg9 k4
          have k5 := Gr.cell hg9 k5
          have k6 := Gr.cell hg9 k6
          have k7 := Gr.cell hg9 k7
          clear hg9
          go_upto_region 13 with (fail)
          go_cut [9, 10] (fun s9 s10 W => ∃ (A9 : Option Addr) (n9 e9 : Nat) (zs : List Fr), s9 = .slice A9 n9 e9 ∧ s10 = .bool true ∧ Gr wt W ∧ FrsOk 9 W A9 n9 e9 zs ∧ zs.map Fr.data = [(0, 3, iv [1]), (1, 9, iv [1, 2, 3, 77])] ∧ n9 ≤ 4)
          case first =>
            have hmS := (Mem.start wt).drew
            have hrS := hr8.out.gr (Gr.refl wt).drew
            refine wp_region_until (S := fun W => W.cell? ⟨g1, 0, none⟩ = some (.slice none 0 0) ∧ W.cell? ⟨g1, 1, none⟩ = some (.slice (some ⟨gf, 0, none⟩) 2 2) ∧ W.cell? ⟨g8, 0, none⟩ = some (.int .i64 0) ∧ W.cell? ⟨g8, 1, none⟩ = some (.int .i64 3) ∧ W.cell? ⟨g8, 2, none⟩ = some (.slice AF 1 eF) ∧ W.cell? ⟨g7, 0, none⟩ = some (.int .i64 2) ∧ W.cell? ⟨g7, 1, none⟩ = some (.int .i64 77)) 12 (by kernel_rfl) ?_
            generalize wt.drew = wd at hmS hrS ⊢
            refine wpAnyU_take 0 (v := ?vv131) rfl (by kernel_rfl) (by kernel_rfl) (fun _ _ _ h => h) ⟨Gr.cell hmS.below k1, Gr.cell hmS.below k2, Gr.cell hmS.below k3, Gr.cell hmS.below k4, Gr.cell hmS.below k5, Gr.cell hmS.below k6, Gr.cell hmS.below k7⟩ (Or.inl ⟨rfl, ?yv131⟩) ?rv131
            case yv131 =>
              intro W hW
              obtain ⟨hW0, hW1, hW2, hW3, hW4, hW5, hW6⟩ := hW
              go_simp
              try with_reducible rfl
            try simp only [Act.put, List.setIfInBounds_toArray, List.set_cons_zero, List.set_cons_succ]
            refine wpAnyU_take 1 (v := ?vv132) rfl (by kernel_rfl) (by kernel_rfl) (fun _ _ _ h => h) ⟨Gr.cell hmS.below k1, Gr.cell hmS.below k2, Gr.cell hmS.below k3, Gr.cell hmS.below k4, Gr.cell hmS.below k5, Gr.cell hmS.below k6, Gr.cell hmS.below k7⟩ (Or.inl ⟨rfl, ?yv132⟩) ?rv132
            case yv132 =>
              intro W hW
              obtain ⟨hW0, hW1, hW2, hW3, hW4, hW5, hW6⟩ := hW
              go_simp
              try with_reducible rfl
            try simp only [Act.put, List.setIfInBounds_toArray, List.set_cons_zero, List.set_cons_succ]
            refine wpAnyU_take 6 (v := ?vv133) rfl (by kernel_rfl) (by kernel_rfl) (fun _ _ _ h => h) ⟨Gr.cell hmS.below k1, Gr.cell hmS.below k2, Gr.cell hmS.below k3, Gr.cell hmS.below k4, Gr.cell hmS.below k5, Gr.cell hmS.below k6, Gr.cell hmS.below k7⟩ (Or.inl ⟨rfl, ?yv133⟩) ?rv133
            case yv133 =>
              intro W hW
              obtain ⟨hW0, hW1, hW2, hW3, hW4, hW5, hW6⟩ := hW
              go_simp
              try with_reducible rfl
            try simp only [Act.put, List.setIfInBounds_toArray, List.set_cons_zero, List.set_cons_succ]
            refine wpAnyU_one 2 (by kernel_rfl) rfl (fun K hK => ?_)
            go_simp
            have g256 := Gr.alloc (Gr.refl wd) (.cells [.int .i64 1, .int .i64 2, .int .i64 3].toArray 2)
            have r257 := hrS.gr g256
            have r254 : RdC (wd.alloc (.cells [.int .i64 1, .int .i64 2, .int .i64 3].toArray 2)) 1 (.slice (some ⟨wd.heap.size, 0, none⟩) 3 3) (nums .i64 [1, 2, 3]) := RdC.lit _ (nums .i64 [1, 2, 3]) _ 3 1 rfl (by simp [maxLen]) (One.nums _ _)
            have hm255 := hmS.gr g256
            generalize wd.heap.size = a253 at r254 ⊢
            generalize wd.alloc (.cells [.int .i64 1, .int .i64 2, .int .i64 3].toArray 2) = u252 at g256 r254 hm255 r257 ⊢
            refine hK _ _ (fun _ => ⟨Gr.cell hm255.below k1, Gr.cell hm255.below k2, Gr.cell hm255.below k3, Gr.cell hm255.below k4, Gr.cell hm255.below k5, Gr.cell hm255.below k6, Gr.cell hm255.below k7⟩) ?_
            clear hK K
            try simp only [Act.put, List.setIfInBounds_toArray, List.set_cons_zero, List.set_cons_succ]
            refine wpAnyU_one 3 (by kernel_rfl) rfl (fun K hK => ?_)
            refine step_call rfl 56 Try.f56 Try.func56 (by kernel_rfl) (by kernel_rfl) _ _ rfl #[.slice (some ⟨a253, 0, none⟩) 3 3] (by simp [Act.eval]) ?_
            refine (ints_ok u252 (some ⟨a253, 0, none⟩) 3 3 [1, 2, 3] ⟨r254⟩ (by omega)).mono ?_
            rintro e u258 ⟨A259, c260, rfl, hn261⟩
            have g264 := hn261.gr
            have r262 : RdC u258 2 (.slice A259 3 c260) (fV (iv [1, 2, 3])) := hn261.ok.rd
            have hm263 := hm255.gr g264
            have r265 := r257.gr g264
            have r266 := r254.gr g264
            refine ⟨_, rfl, hK _ _ (fun _ => ⟨Gr.cell hm263.below k1, Gr.cell hm263.below k2, Gr.cell hm263.below k3, Gr.cell hm263.below k4, Gr.cell hm263.below k5, Gr.cell hm263.below k6, Gr.cell hm263.below k7⟩) ?_⟩
            clear hK K
            try simp only [Act.put, List.setIfInBounds_toArray, List.set_cons_zero, List.set_cons_succ]
            refine wpAnyU_take 4 (v := ?vv134) rfl (by kernel_rfl) (by kernel_rfl) (fun _ _ _ h => h) ⟨Gr.cell hm263.below k1, Gr.cell hm263.below k2, Gr.cell hm263.below k3, Gr.cell hm263.below k4, Gr.cell hm263.below k5, Gr.cell hm263.below k6, Gr.cell hm263.below k7⟩ (Or.inl ⟨rfl, ?yv134⟩) ?rv134
            case yv134 =>
              intro W hW
              obtain ⟨hW0, hW1, hW2, hW3, hW4, hW5, hW6⟩ := hW
              go_simp
              try with_reducible rfl
            try simp only [Act.put, List.setIfInBounds_toArray, List.set_cons_zero, List.set_cons_succ]
            refine wpAnyU_one 5 (by kernel_rfl) rfl (fun K hK => ?_)
            go_simp
            have g270 := Gr.alloc (Gr.refl u258) (.cells [.int .i64 0, .int .i64 3, .slice AF 1 eF, .int .i64 1, .int .i64 2, .slice A259 3 c260].toArray 30)
            have r272 := r265.gr g270
            have r273 := r266.gr g270
            have r274 := r262.gr g270
            have hf271 : FrsOk 8 (u258.alloc (.cells [.int .i64 0, .int .i64 3, .slice AF 1 eF, .int .i64 1, .int .i64 2, .slice A259 3 c260].toArray 30)) (some ⟨u258.heap.size, 0, none⟩) 2 2 [⟨0, 3, AF, 1, eF, iv [1]⟩, ⟨1, 2, A259, 3, c260, iv [1, 2, 3]⟩] := frs2 (RdC.lit _ (fR [⟨0, 3, AF, 1, eF, iv [1]⟩, ⟨1, 2, A259, 3, c260, iv [1, 2, 3]⟩]) _ 2 3 rfl (by simp [maxLen]) (fR_one _)) ⟨r272, (by decide : 1 ≤ 8)⟩ ⟨r274, (by decide : 3 ≤ 8)⟩
            have hm269 := hm263.gr g270
            generalize u258.heap.size = a268 at hf271 ⊢
            generalize u258.alloc (.cells [.int .i64 0, .int .i64 3, .slice AF 1 eF, .int .i64 1, .int .i64 2, .slice A259 3 c260].toArray 30) = u267 at g270 hm269 hf271 r272 r273 r274 ⊢
            refine hK _ _ (fun _ => ⟨Gr.cell hm269.below k1, Gr.cell hm269.below k2, Gr.cell hm269.below k3, Gr.cell hm269.below k4, Gr.cell hm269.below k5, Gr.cell hm269.below k6, Gr.cell hm269.below k7⟩) ?_
            clear hK K
            try simp only [Act.put, List.setIfInBounds_toArray, List.set_cons_zero, List.set_cons_succ]
            refine wpAnyU_one 7 (by kernel_rfl) rfl (fun K hK => ?_)
            refine step_call rfl 45 Try.f45 Try.func45 (by kernel_rfl) (by kernel_rfl) _ _ rfl #[.agg #[.slice none 0 0, .slice (some ⟨gf, 0, none⟩) 2 2], .slice (some ⟨a268, 0, none⟩) 2 2, .agg #[.int .i64 2, .int .i64 77]] (by simp [Act.eval]) ?_
            have hE276 := catch_ok u267 (kP gh gf) ⟨hpg.out.gr (Gr.trans hB1.out (Gr.trans hgw.out hm269.below))⟩ 8 (some ⟨a268, 0, none⟩) 2 2 [⟨0, 3, AF, 1, eF, iv [1]⟩, ⟨1, 2, A259, 3, c260, iv [1, 2, 3]⟩] ⟨hf271⟩ (2, 77) (by omega) (by omega)
            have hQ277 : catchD (kP gh gf) (2, 77) (List.map Fr.data [⟨0, 3, AF, 1, eF, iv [1]⟩, ⟨1, 2, A259, 3, c260, iv [1, 2, 3]⟩]) 2 = some [(0, 3, iv [1]), (1, 9, iv [1, 2, 3, 77])] := by rfl
            rw [hQ277] at hE276
            refine hE276.mono ?_
            rintro e u275 ⟨A278, n279, c280, zs281, rfl, hz282, hd284, hn283⟩
            have g286 := hz282.below
            have hm285 := hm269.gr g286
            have hf287 := frs_of hz282 hn283
            have r288 := r272.gr g286
            have r289 := r273.gr g286
            have r290 := r274.gr g286
            have r291 := hf271.gr g286
            refine ⟨_, rfl, hK _ _ (fun _ => ⟨Gr.cell hm285.below k1, Gr.cell hm285.below k2, Gr.cell hm285.below k3, Gr.cell hm285.below k4, Gr.cell hm285.below k5, Gr.cell hm285.below k6, Gr.cell hm285.below k7⟩) ?_⟩
            clear hK K
            try simp only [Act.put, List.setIfInBounds_toArray, List.set_cons_zero, List.set_cons_succ]
            refine wpAnyU_take 8 (v := ?vv135) rfl (by kernel_rfl) (by kernel_rfl) (fun _ _ _ h => h) ⟨Gr.cell hm285.below k1, Gr.cell hm285.below k2, Gr.cell hm285.below k3, Gr.cell hm285.below k4, Gr.cell hm285.below k5, Gr.cell hm285.below k6, Gr.cell hm285.below k7⟩ (Or.inl ⟨rfl, ?yv135⟩) ?rv135
            case yv135 =>
              intro W hW
              obtain ⟨hW0, hW1, hW2, hW3, hW4, hW5, hW6⟩ := hW
              go_simp
              try with_reducible rfl
            try simp only [Act.put, List.setIfInBounds_toArray, List.set_cons_zero, List.set_cons_succ]
            refine wpAnyU_take 9 (v := ?vv136) rfl (by kernel_rfl) (by kernel_rfl) (fun _ _ _ h => h) ⟨Gr.cell hm285.below k1, Gr.cell hm285.below k2, Gr.cell hm285.below k3, Gr.cell hm285.below k4, Gr.cell hm285.below k5, Gr.cell hm285.below k6, Gr.cell hm285.below k7⟩ (Or.inl ⟨rfl, ?yv136⟩) ?rv136
            case yv136 =>
              intro W hW
              obtain ⟨hW0, hW1, hW2, hW3, hW4, hW5, hW6⟩ := hW
              go_simp
              try with_reducible rfl
            try simp only [Act.put, List.setIfInBounds_toArray, List.set_cons_zero, List.set_cons_succ]
            refine wpAnyU_take 10 (v := ?vv137) rfl (by kernel_rfl) (by kernel_rfl) (fun _ _ _ h => h) ⟨Gr.cell hm285.below k1, Gr.cell hm285.below k2, Gr.cell hm285.below k3, Gr.cell hm285.below k4, Gr.cell hm285.below k5, Gr.cell hm285.below k6, Gr.cell hm285.below k7⟩ (Or.inl ⟨rfl, ?yv137⟩) ?rv137
            case yv137 =>
              intro W hW
              obtain ⟨hW0, hW1, hW2, hW3, hW4, hW5, hW6⟩ := hW
              go_simp
              try with_reducible rfl
            try simp only [Act.put, List.setIfInBounds_toArray, List.set_cons_zero, List.set_cons_succ]
            refine wpAnyU_take 11 (v := ?vv138) rfl (by kernel_rfl) (by kernel_rfl) (fun _ _ _ h => h) ⟨Gr.cell hm285.below k1, Gr.cell hm285.below k2, Gr.cell hm285.below k3, Gr.cell hm285.below k4, Gr.cell hm285.below k5, Gr.cell hm285.below k6, Gr.cell hm285.below k7⟩ (Or.inl ⟨rfl, ?yv138⟩) ?rv138
            case yv138 =>
              intro W hW
              obtain ⟨hW0, hW1, hW2, hW3, hW4, hW5, hW6⟩ := hW
              go_simp
              try with_reducible rfl
            try simp only [Act.put, List.setIfInBounds_toArray, List.set_cons_zero, List.set_cons_succ]
            refine wpAnyU_one 12 (by kernel_rfl) rfl (fun K hK => ?_)
            go_simp
            refine hK _ _ (fun h => absurd h (by decide)) ?_
            clear hK K
            refine wpAnyU_done (by kernel_rfl) ?_ _
            go_wp2
            try simp only [Act.put, List.getElem_toArray, List.getElem_cons_succ, List.getElem_cons_zero, List.setIfInBounds_toArray, List.set_cons_succ, List.set_cons_zero]
            go_meet
            case rel => exact ⟨_, _, _, _, rfl, rfl, hm285.below, hf287, hd284, by have := hf287.len; have := congrArg List.length hd284; simp at *; omega⟩
          case rest =>
            obtain ⟨wu, rfl⟩ : ∃ wu : World, wu = wc := ⟨_, rfl⟩
            obtain ⟨C9, m9, f9, zu, rfl, rfl, hg9, hf9, hd9, hn9⟩ := hcut
            have hf9 := Fact.mk hf9
            have hgw := Fact.mk (Gr.trans hgw.out hg9)
            have hr8 := Fact.mk (hr8.out.gr hg9)
            have k1 := Gr.cell hg9 k1
            have k2 := Gr.cell hg9 k2
            have k3 := Gr.cell hg9 k3
            have k4 := Gr.cell hg9 k4
            have k5 := Gr.cell hg9 k5
            have k6 := Gr.cell hg9 k6
            have k7 := Gr.cell hg9 k7
            clear hg9
            go_upto_region 14 with (fail)
            go_cut [12] (fun s12 W => ∃ (A9 : Option Addr) (zs : List Fr), s12 = .slice A9 2 2 ∧ Gr wu W ∧ FrsOk 8 W A9 2 2 zs ∧ zs.map Fr.data = [(0, 3, iv [1]), (1, 9, iv [1, 2, 3, 77])])
            case first =>
              have hmS := (Mem.start wu).drew
              have hrS := hr8.out.gr (Gr.refl wu).drew
              refine wp_region_until (S := fun W => W.cell? ⟨g8, 0, none⟩ = some (.int .i64 0) ∧ W.cell? ⟨g8, 1, none⟩ = some (.int .i64 3) ∧ W.cell? ⟨g8, 2, none⟩ = some (.slice AF 1 eF)) 5 (by kernel_rfl) ?_
              generalize wu.drew = wd at hmS hrS ⊢
              refine wpAnyU_take 0 (v := ?vv141) rfl (by kernel_rfl) (by kernel_rfl) (fun _ _ _ h => h) ⟨Gr.cell hmS.below k3, Gr.cell hmS.below k4, Gr.cell hmS.below k5⟩ (Or.inl ⟨rfl, ?yv141⟩) ?rv141
              case yv141 =>
                intro W hW
                obtain ⟨hW0, hW1, hW2⟩ := hW
                go_simp
                try with_reducible rfl
              try simp only [Act.put, List.setIfInBounds_toArray, List.set_cons_zero, List.set_cons_succ]
              refine wpAnyU_one 1 (by kernel_rfl) rfl (fun K hK => ?_)
              go_simp
              have g296 := Gr.alloc (Gr.refl wd) (.cells [.int .i64 1, .int .i64 2, .int .i64 3, .int .i64 77].toArray 2)
              have r297 := hrS.gr g296
              have r294 : RdC (wd.alloc (.cells [.int .i64 1, .int .i64 2, .int .i64 3, .int .i64 77].toArray 2)) 1 (.slice (some ⟨wd.heap.size, 0, none⟩) 4 4) (nums .i64 [1, 2, 3, 77]) := RdC.lit _ (nums .i64 [1, 2, 3, 77]) _ 4 1 rfl (by simp [maxLen]) (One.nums _ _)
              have hm295 := hmS.gr g296
              generalize wd.heap.size = a293 at r294 ⊢
              generalize wd.alloc (.cells [.int .i64 1, .int .i64 2, .int .i64 3, .int .i64 77].toArray 2) = u292 at g296 r294 hm295 r297 ⊢
              refine hK _ _ (fun _ => ⟨Gr.cell hm295.below k3, Gr.cell hm295.below k4, Gr.cell hm295.below k5⟩) ?_
              clear hK K
              try simp only [Act.put, List.setIfInBounds_toArray, List.set_cons_zero, List.set_cons_succ]
              refine wpAnyU_one 2 (by kernel_rfl) rfl (fun K hK => ?_)
              refine step_call rfl 56 Try.f56 Try.func56 (by kernel_rfl) (by kernel_rfl) _ _ rfl #[.slice (some ⟨a293, 0, none⟩) 4 4] (by simp [Act.eval]) ?_
              refine (ints_ok u292 (some ⟨a293, 0, none⟩) 4 4 [1, 2, 3, 77] ⟨r294⟩ (by omega)).mono ?_
              rintro e u298 ⟨A299, c300, rfl, hn301⟩
              have g304 := hn301.gr
              have r302 : RdC u298 2 (.slice A299 4 c300) (fV (iv [1, 2, 3, 77])) := hn301.ok.rd
              have hm303 := hm295.gr g304
              have r305 := r297.gr g304
              have r306 := r294.gr g304
              refine ⟨_, rfl, hK _ _ (fun _ => ⟨Gr.cell hm303.below k3, Gr.cell hm303.below k4, Gr.cell hm303.below k5⟩) ?_⟩
              clear hK K
              try simp only [Act.put, List.setIfInBounds_toArray, List.set_cons_zero, List.set_cons_succ]
              refine wpAnyU_take 3 (v := ?vv142) rfl (by kernel_rfl) (by kernel_rfl) (fun _ _ _ h => h) ⟨Gr.cell hm303.below k3, Gr.cell hm303.below k4, Gr.cell hm303.below k5⟩ (Or.inl ⟨rfl, ?yv142⟩) ?rv142
              case yv142 =>
                intro W hW
                obtain ⟨hW0, hW1, hW2⟩ := hW
                go_simp
                try with_reducible rfl
              try simp only [Act.put, List.setIfInBounds_toArray, List.set_cons_zero, List.set_cons_succ]
              refine wpAnyU_one 4 (by kernel_rfl) rfl (fun K hK => ?_)
              go_simp
              have g310 := Gr.alloc (Gr.refl u298) (.cells [.int .i64 0, .int .i64 3, .slice AF 1 eF, .int .i64 1, .int .i64 9, .slice A299 4 c300].toArray 30)
              have r312 := r305.gr g310
              have r313 := r306.gr g310
              have r314 := r302.gr g310
              have hf311 : FrsOk 8 (u298.alloc (.cells [.int .i64 0, .int .i64 3, .slice AF 1 eF, .int .i64 1, .int .i64 9, .slice A299 4 c300].toArray 30)) (some ⟨u298.heap.size, 0, none⟩) 2 2 [⟨0, 3, AF, 1, eF, iv [1]⟩, ⟨1, 9, A299, 4, c300, iv [1, 2, 3, 77]⟩] := frs2 (RdC.lit _ (fR [⟨0, 3, AF, 1, eF, iv [1]⟩, ⟨1, 9, A299, 4, c300, iv [1, 2, 3, 77]⟩]) _ 2 3 rfl (by simp [maxLen]) (fR_one _)) ⟨r312, (by decide : 1 ≤ 8)⟩ ⟨r314, (by decide : 4 ≤ 8)⟩
              have hm309 := hm303.gr g310
              generalize u298.heap.size = a308 at hf311 ⊢
              generalize u298.alloc (.cells [.int .i64 0, .int .i64 3, .slice AF 1 eF, .int .i64 1, .int .i64 9, .slice A299 4 c300].toArray 30) = u307 at g310 hm309 hf311 r312 r313 r314 ⊢
              refine hK _ _ (fun _ => ⟨Gr.cell hm309.below k3, Gr.cell hm309.below k4, Gr.cell hm309.below k5⟩) ?_
              clear hK K
              try simp only [Act.put, List.setIfInBounds_toArray, List.set_cons_zero, List.set_cons_succ]
              refine wpAnyU_one 5 (by kernel_rfl) rfl (fun K hK => ?_)
              go_simp
              refine hK _ _ (fun h => absurd h (by decide)) ?_
              clear hK K
              refine wpAnyU_done (by kernel_rfl) ?_ _
              go_wp2
              try simp only [Act.put, List.getElem_toArray, List.getElem_cons_succ, List.getElem_cons_zero, List.setIfInBounds_toArray, List.set_cons_succ, List.set_cons_zero]
              go_meet
              case rel => exact ⟨_, _, rfl, hm309.below, hf311, rfl⟩
            case rest =>
              obtain ⟨wv, rfl⟩ : ∃ wv : World, wv = wc := ⟨_, rfl⟩
              obtain ⟨B12, zv, rfl, hg9, hf12, hd12⟩ := hcut
              have hf9 := Fact.mk (hf9.out.gr hg9)
              have hgw := Fact.mk (Gr.trans hgw.out hg9)
              have hr8 := Fact.mk (hr8.out.gr hg9)
              have k1 := Gr.cell hg9 k1
              have k2 := Gr.cell hg9 k2
              have k3 := Gr.cell hg9 k3
              have k4 := Gr.cell hg9 k4
              have k5 := Gr.cell hg9 k5
              have k6 := Gr.cell hg9 k6
              have k7 := Gr.cell hg9 k7
              clear hg9
              obtain rfl : m9 = 2 := by have h1 := hf9.out.len; have h2 := congrArg List.length hd9; simp at h2; omega
              go_wp2_with fail
              refine (sameFrames_ok wv C9 B12 9 2 f9 2 zu zv hf9 ⟨⟨hf12.rd, fun f hf => ⟨(hf12.each f hf).1, Nat.le_succ_of_le (hf12.each f hf).2⟩⟩⟩ ⟨hd9.trans hd12.symm⟩ (by omega) (by omega)).mono ?_
              rintro e wx ⟨rfl, hg9⟩
              have hgw := Fact.mk (Gr.trans hgw.out hg9)
              have hr8 := Fact.mk (hr8.out.gr hg9)
              have k1 := Gr.cell hg9 k1
              have k2 := Gr.cell hg9 k2
              have k3 := Gr.cell hg9 k3
              have k4 := Gr.cell hg9 k4
              have k5 := Gr.cell hg9 k5
              have k6 := Gr.cell hg9 k6
              have k7 := Gr.cell hg9 k7
              clear hg9
              go_upto_region 17 with (fail)
              go_cut [10] (fun s10 W => s10 = .bool false ∧ Gr wx W)
              case first =>
                have hmS := (Mem.start wx).drew
                have hrS := hr8.out.gr (Gr.refl wx).drew
                refine wp_region_until (S := fun W => W.cell? ⟨g1, 0, none⟩ = some (.slice none 0 0) ∧ W.cell? ⟨g1, 1, none⟩ = some (.slice (some ⟨gf, 0, none⟩) 2 2) ∧ W.cell? ⟨g8, 0, none⟩ = some (.int .i64 0) ∧ W.cell? ⟨g8, 1, none⟩ = some (.int .i64 3) ∧ W.cell? ⟨g8, 2, none⟩ = some (.slice AF 1 eF) ∧ W.cell? ⟨g7, 0, none⟩ = some (.int .i64 2) ∧ W.cell? ⟨g7, 1, none⟩ = some (.int .i64 77)) 11 (by kernel_rfl) ?_
                generalize wx.drew = wd at hmS hrS ⊢
                refine wpAnyU_take 0 (v := ?vv171) rfl (by kernel_rfl) (by kernel_rfl) (fun _ _ _ h => h) ⟨Gr.cell hmS.below k1, Gr.cell hmS.below k2, Gr.cell hmS.below k3, Gr.cell hmS.below k4, Gr.cell hmS.below k5, Gr.cell hmS.below k6, Gr.cell hmS.below k7⟩ (Or.inl ⟨rfl, ?yv171⟩) ?rv171
                case yv171 =>
                  intro W hW
                  obtain ⟨hW0, hW1, hW2, hW3, hW4, hW5, hW6⟩ := hW
                  go_simp
                  try with_reducible rfl
                try simp only [Act.put, List.setIfInBounds_toArray, List.set_cons_zero, List.set_cons_succ]
                refine wpAnyU_take 1 (v := ?vv172) rfl (by kernel_rfl) (by kernel_rfl) (fun _ _ _ h => h) ⟨Gr.cell hmS.below k1, Gr.cell hmS.below k2, Gr.cell hmS.below k3, Gr.cell hmS.below k4, Gr.cell hmS.below k5, Gr.cell hmS.below k6, Gr.cell hmS.below k7⟩ (Or.inl ⟨rfl, ?yv172⟩) ?rv172
                case yv172 =>
                  intro W hW
                  obtain ⟨hW0, hW1, hW2, hW3, hW4, hW5, hW6⟩ := hW
                  go_simp
                  try with_reducible rfl
                try simp only [Act.put, List.setIfInBounds_toArray, List.set_cons_zero, List.set_cons_succ]
                refine wpAnyU_take 6 (v := ?vv173) rfl (by kernel_rfl) (by kernel_rfl) (fun _ _ _ h => h) ⟨Gr.cell hmS.below k1, Gr.cell hmS.below k2, Gr.cell hmS.below k3, Gr.cell hmS.below k4, Gr.cell hmS.below k5, Gr.cell hmS.below k6, Gr.cell hmS.below k7⟩ (Or.inl ⟨rfl, ?yv173⟩) ?rv173
                case yv173 =>
                  intro W hW
                  obtain ⟨hW0, hW1, hW2, hW3, hW4, hW5, hW6⟩ := hW
                  go_simp
                  try with_reducible rfl
                try simp only [Act.put, List.setIfInBounds_toArray, List.set_cons_zero, List.set_cons_succ]
                refine wpAnyU_one 2 (by kernel_rfl) rfl (fun K hK => ?_)
                go_simp
                have g319 := Gr.alloc (Gr.refl wd) (.cells [.int .i64 1, .int .i64 2, .int .i64 3].toArray 2)
                have r320 := hrS.gr g319
                have r317 : RdC (wd.alloc (.cells [.int .i64 1, .int .i64 2, .int .i64 3].toArray 2)) 1 (.slice (some ⟨wd.heap.size, 0, none⟩) 3 3) (nums .i64 [1, 2, 3]) := RdC.lit _ (nums .i64 [1, 2, 3]) _ 3 1 rfl (by simp [maxLen]) (One.nums _ _)
                have hm318 := hmS.gr g319
                generalize wd.heap.size = a316 at r317 ⊢
                generalize wd.alloc (.cells [.int .i64 1, .int .i64 2, .int .i64 3].toArray 2) = u315 at g319 r317 hm318 r320 ⊢
                refine hK _ _ (fun _ => ⟨Gr.cell hm318.below k1, Gr.cell hm318.below k2, Gr.cell hm318.below k3, Gr.cell hm318.below k4, Gr.cell hm318.below k5, Gr.cell hm318.below k6, Gr.cell hm318.below k7⟩) ?_
                clear hK K
                try simp only [Act.put, List.setIfInBounds_toArray, List.set_cons_zero, List.set_cons_succ]
                refine wpAnyU_one 3 (by kernel_rfl) rfl (fun K hK => ?_)
                refine step_call rfl 56 Try.f56 Try.func56 (by kernel_rfl) (by kernel_rfl) _ _ rfl #[.slice (some ⟨a316, 0, none⟩) 3 3] (by simp [Act.eval]) ?_
                refine (ints_ok u315 (some ⟨a316, 0, none⟩) 3 3 [1, 2, 3] ⟨r317⟩ (by omega)).mono ?_
                rintro e u321 ⟨A322, c323, rfl, hn324⟩
                have g327 := hn324.gr
                have r325 : RdC u321 2 (.slice A322 3 c323) (fV (iv [1, 2, 3])) := hn324.ok.rd
                have hm326 := hm318.gr g327
                have r328 := r320.gr g327
                have r329 := r317.gr g327
                refine ⟨_, rfl, hK _ _ (fun _ => ⟨Gr.cell hm326.below k1, Gr.cell hm326.below k2, Gr.cell hm326.below k3, Gr.cell hm326.below k4, Gr.cell hm326.below k5, Gr.cell hm326.below k6, Gr.cell hm326.below k7⟩) ?_⟩
                clear hK K
                try simp only [Act.put, List.setIfInBounds_toArray, List.set_cons_zero, List.set_cons_succ]
                refine wpAnyU_take 4 (v := ?vv174) rfl (by kernel_rfl) (by kernel_rfl) (fun _ _ _ h => h) ⟨Gr.cell hm326.below k1, Gr.cell hm326.below k2, Gr.cell hm326.below k3, Gr.cell hm326.below k4, Gr.cell hm326.below k5, Gr.cell hm326.below k6, Gr.cell hm326.below k7⟩ (Or.inl ⟨rfl, ?yv174⟩) ?rv174
                case yv174 =>
                  intro W hW
                  obtain ⟨hW0, hW1, hW2, hW3, hW4, hW5, hW6⟩ := hW
                  go_simp
                  try with_reducible rfl
                try simp only [Act.put, List.setIfInBounds_toArray, List.set_cons_zero, List.set_cons_succ]
                refine wpAnyU_one 5 (by kernel_rfl) rfl (fun K hK => ?_)
                go_simp
                have g333 := Gr.alloc (Gr.refl u321) (.cells [.int .i64 0, .int .i64 3, .slice AF 1 eF, .int .i64 1, .int .i64 6, .slice A322 3 c323].toArray 30)
                have r335 := r328.gr g333
                have r336 := r329.gr g333
                have r337 := r325.gr g333
                have hf334 : FrsOk 8 (u321.alloc (.cells [.int .i64 0, .int .i64 3, .slice AF 1 eF, .int .i64 1, .int .i64 6, .slice A322 3 c323].toArray 30)) (some ⟨u321.heap.size, 0, none⟩) 2 2 [⟨0, 3, AF, 1, eF, iv [1]⟩, ⟨1, 6, A322, 3, c323, iv [1, 2, 3]⟩] := frs2 (RdC.lit _ (fR [⟨0, 3, AF, 1, eF, iv [1]⟩, ⟨1, 6, A322, 3, c323, iv [1, 2, 3]⟩]) _ 2 3 rfl (by simp [maxLen]) (fR_one _)) ⟨r335, (by decide : 1 ≤ 8)⟩ ⟨r337, (by decide : 3 ≤ 8)⟩
                have hm332 := hm326.gr g333
                generalize u321.heap.size = a331 at hf334 ⊢
                generalize u321.alloc (.cells [.int .i64 0, .int .i64 3, .slice AF 1 eF, .int .i64 1, .int .i64 6, .slice A322 3 c323].toArray 30) = u330 at g333 hm332 hf334 r335 r336 r337 ⊢
                refine hK _ _ (fun _ => ⟨Gr.cell hm332.below k1, Gr.cell hm332.below k2, Gr.cell hm332.below k3, Gr.cell hm332.below k4, Gr.cell hm332.below k5, Gr.cell hm332.below k6, Gr.cell hm332.below k7⟩) ?_
                clear hK K
                try simp only [Act.put, List.setIfInBounds_toArray, List.set_cons_zero, List.set_cons_succ]
                refine wpAnyU_one 7 (by kernel_rfl) rfl (fun K hK => ?_)
                refine step_call rfl 45 Try.f45 Try.func45 (by kernel_rfl) (by kernel_rfl) _ _ rfl #[.agg #[.slice none 0 0, .slice (some ⟨gf, 0, none⟩) 2 2], .slice (some ⟨a331, 0, none⟩) 2 2, .agg #[.int .i64 2, .int .i64 77]] (by simp [Act.eval]) ?_
                have hE339 := catch_ok u330 (kP gh gf) ⟨hpg.out.gr (Gr.trans hB1.out (Gr.trans hgw.out hm332.below))⟩ 8 (some ⟨a331, 0, none⟩) 2 2 [⟨0, 3, AF, 1, eF, iv [1]⟩, ⟨1, 6, A322, 3, c323, iv [1, 2, 3]⟩] ⟨hf334⟩ (2, 77) (by omega) (by omega)
                have hQ340 : catchD (kP gh gf) (2, 77) (List.map Fr.data [⟨0, 3, AF, 1, eF, iv [1]⟩, ⟨1, 6, A322, 3, c323, iv [1, 2, 3]⟩]) 2 = none := by rfl
                rw [hQ340] at hE339
                refine hE339.mono ?_
                rintro e u338 ⟨rfl, g341⟩
                have hm342 := hm332.gr g341
                have r343 := r335.gr g341
                have r344 := r336.gr g341
                have r345 := r337.gr g341
                have r346 := hf334.gr g341
                refine ⟨_, rfl, hK _ _ (fun _ => ⟨Gr.cell hm342.below k1, Gr.cell hm342.below k2, Gr.cell hm342.below k3, Gr.cell hm342.below k4, Gr.cell hm342.below k5, Gr.cell hm342.below k6, Gr.cell hm342.below k7⟩) ?_⟩
                clear hK K
                try simp only [Act.put, List.setIfInBounds_toArray, List.set_cons_zero, List.set_cons_succ]
                refine wpAnyU_take 8 (v := ?vv175) rfl (by kernel_rfl) (by kernel_rfl) (fun _ _ _ h => h) ⟨Gr.cell hm342.below k1, Gr.cell hm342.below k2, Gr.cell hm342.below k3, Gr.cell hm342.below k4, Gr.cell hm342.below k5, Gr.cell hm342.below k6, Gr.cell hm342.below k7⟩ (Or.inl ⟨rfl, ?yv175⟩) ?rv175
                case yv175 =>
                  intro W hW
                  obtain ⟨hW0, hW1, hW2, hW3, hW4, hW5, hW6⟩ := hW
                  go_simp
                  try with_reducible rfl
                try simp only [Act.put, List.setIfInBounds_toArray, List.set_cons_zero, List.set_cons_succ]
                refine wpAnyU_take 9 (v := ?vv176) rfl (by kernel_rfl) (by kernel_rfl) (fun _ _ _ h => h) ⟨Gr.cell hm342.below k1, Gr.cell hm342.below k2, Gr.cell hm342.below k3, Gr.cell hm342.below k4, Gr.cell hm342.below k5, Gr.cell hm342.below k6, Gr.cell hm342.below k7⟩ (Or.inl ⟨rfl, ?yv176⟩) ?rv176
                case yv176 =>
                  intro W hW
                  obtain ⟨hW0, hW1, hW2, hW3, hW4, hW5, hW6⟩ := hW
                  go_simp
                  try with_reducible rfl
                try simp only [Act.put, List.setIfInBounds_toArray, List.set_cons_zero, List.set_cons_succ]
                refine wpAnyU_take 10 (v := ?vv177) rfl (by kernel_rfl) (by kernel_rfl) (fun _ _ _ h => h) ⟨Gr.cell hm342.below k1, Gr.cell hm342.below k2, Gr.cell hm342.below k3, Gr.cell hm342.below k4, Gr.cell hm342.below k5, Gr.cell hm342.below k6, Gr.cell hm342.below k7⟩ (Or.inl ⟨rfl, ?yv177⟩) ?rv177
                case yv177 =>
                  intro W hW
                  obtain ⟨hW0, hW1, hW2, hW3, hW4, hW5, hW6⟩ := hW
                  go_simp
                  try with_reducible rfl
                try simp only [Act.put, List.setIfInBounds_toArray, List.set_cons_zero, List.set_cons_succ]
                refine wpAnyU_one 11 (by kernel_rfl) rfl (fun K hK => ?_)
                go_simp
                refine hK _ _ (fun h => absurd h (by decide)) ?_
                clear hK K
                refine wpAnyU_done (by kernel_rfl) ?_ _
                go_wp2
                try simp only [Act.put, List.getElem_toArray, List.getElem_cons_succ, List.getElem_cons_zero, List.setIfInBounds_toArray, List.set_cons_succ, List.set_cons_zero]
                go_meet
                case rel => exact ⟨rfl, hm342.below⟩
              case rest =>
                obtain ⟨wy, rfl⟩ : ∃ wy : World, wy = wc := ⟨_, rfl⟩
                obtain ⟨rfl, hg9⟩ := hcut
                have hgw := Fact.mk (Gr.trans hgw.out hg9)
                have hr8 := Fact.mk (hr8.out.gr hg9)
                have k1 := Gr.cell hg9 k1
                have k2 := Gr.cell hg9 k2
                have k3 := Gr.cell hg9 k3
                have k4 := Gr.cell hg9 k4
                have k5 := Gr.cell hg9 k5
                have k6 := Gr.cell hg9 k6
                have k7 := Gr.cell hg9 k7
                clear hg9
                have hgz := (Gr.refl wy).alloc (.cells [.int .i64 0, .int .i64 3, .slice AF 1 eF, .int .i64 1, .int .i64 5, .slice none 0 0].toArray 30)
                have k8 := Gr.cell hgz k6
                have k9 := Gr.cell hgz k7
                go_wp2_with fail
                have hgw := Fact.mk (Gr.trans hgw.out hgz)
                have hret := return_ok _ (kP gh gf) 8 (some ⟨wy.heap.size, 0, none⟩) 2 2 [⟨0, 3, AF, 1, eF, iv [1]⟩, ⟨1, 5, none, 0, 0, []⟩] ⟨frs2 (RdC.lit _ (fR [⟨0, 3, AF, 1, eF, iv [1]⟩, ⟨1, 5, none, 0, 0, []⟩]) 30 2 3 rfl (by simp [maxLen]) (fR_one _)) ⟨hr8.out.gr hgz, (by decide : 1 ≤ 8)⟩ ⟨RdC.nil _ _, (by decide : 0 ≤ 8)⟩⟩ (by omega) (by omega) (2, 77)
                refine hret.mono ?_
                rintro e wz ⟨A13, n13, c13, zz, rfl, hz, hdz, hnz⟩
                have hdz : zz.map Fr.data = [(0, 4, iv [1, 77])] := hdz.trans ((by rfl : _ = [((0 : Int), wrap64 (3 + 1), iv [1] ++ [(2, 77)])]).trans (by rw [wr4]; rfl))
                have hfz := Fact.mk (frs_of hz hnz)
                have hgw := Fact.mk (Gr.trans hgw.out hz.below)
                obtain rfl : n13 = 1 := by have h1 := hfz.out.len; have h2 := congrArg List.length hdz; simp at h2; omega
                clear hz hret hgz k1 k2 k3 k4 k5 k6 k7 k8 k9
                go_wp2_with fail
                have hgi := (Gr.refl wz).alloc (.cells [.int .i64 1, .int .i64 77].toArray 2)
                have hgw := Fact.mk (Gr.trans hgw.out hgi)
                have hfz := Fact.mk (hfz.out.gr hgi)
                refine (ints_ok _ (some ⟨_, 0, none⟩) 2 2 [1, 77] ⟨RdC.lit _ (nums .i64 [1, 77]) _ 2 1 rfl (by simp [maxLen]) (One.nums _ _)⟩ (by omega)).mono ?_
                rintro e wa ⟨A15, c15, rfl, hn15⟩
                have hgw := Fact.mk (Gr.trans hgw.out hn15.gr)
                have hfz := Fact.mk (hfz.out.gr hn15.gr)
                have hr15 := Fact.mk (show RdC wa 2 (.slice A15 2 c15) (fV (iv [1, 77])) from hn15.ok.rd)
                clear hn15 hgi
                go_wp2_with fail
                have hgb := (Gr.refl wa).alloc (.cells [.int .i64 0, .int .i64 4, .slice A15 2 c15].toArray 30)
                refine (sameFrames_ok _ A13 (some ⟨wa.heap.size, 0, none⟩) 9 1 c13 1 zz [⟨0, 4, A15, 2, c15, iv [1, 77]⟩] ⟨hfz.out.gr hgb⟩ ⟨frs1 (RdC.lit _ (fR [⟨0, 4, A15, 2, c15, iv [1, 77]⟩]) 30 1 3 rfl (by simp [maxLen]) (fR_one _)) ⟨hr15.out.gr hgb, (by decide : 2 ≤ 9)⟩⟩ ⟨hdz⟩ (by omega) (by omega)).mono ?_
                rintro e wb ⟨rfl, hg9⟩
                have hfin := Fact.mk (Gr.trans hg0 (Gr.trans hB1.out (Gr.trans hgw.out (Gr.trans hgb hg9))))
                clear hgb hg9
                go_wp2
                go_ret
                exact ⟨rfl, hfin.out⟩
end Go.Proofs.Ytgflfpepfpekhaa
