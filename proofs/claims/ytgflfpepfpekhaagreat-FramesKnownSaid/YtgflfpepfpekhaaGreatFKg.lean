/- Lemmas of the heap (a part of the heap's texts; written by slice.py). -/
import Derived.BigQuiet
import Derived.Carry
import Derived.ChangeKeysEq
import Derived.Deep.CutBlock
import Derived.Deep.DeepCutAuto
import Derived.Deep.DeepFit
import Derived.Deep.DeepMust
import Derived.Deep.Draws
import Derived.Deep.LoopGhost
import Derived.Deep.MidRow
import Derived.Deep.QuietTactic
import Derived.Deep.RegionHeld3
import Derived.Deep.RegionLaw
import Derived.Deep.Slices
import Derived.KernelRfl
import Derived.Laws.MakeOwn
import Derived.Lib.SliceRun
import Derived.Maps.Own
import Derived.Maps.OwnSet
import Derived.Maps.Views
import Derived.OpenShut
import Derived.OrdersHeld
import Derived.Outline
import Derived.OwnWalk
import Derived.SizedLaws
import Derived.StillTail
import Derived.StillTailTactics
import Derived.WalkKit
import Derived.WalkSpells
import Derived.Test.YtgflfpepfpekhaaGreatProg
import Derived.Test.YtgflfpepfpekhaaGreatFKf
set_option linter.unusedVariables false
set_option linter.unusedSimpArgs false
namespace Go.Proofs.YtgflfpepfpekhaaGreat
open Go.RowKit Go.Mm
set_option maxHeartbeats 4000000
set_option maxRecDepth 100000
set_option linter.unusedSimpArgs false
theorem frs2 {N : Nat} {w : World} {A : Option Addr} {c : Nat} {x y : Fr} (h : RdC w 3 (.slice A 2 c) (fR [x, y])) (hx : FrOk N w x) (hy : FrOk N w y) : FrsOk N w A 2 c [x, y] := ⟨h, fun f hf => by
  rcases List.mem_cons.1 hf with rfl | hf
  · exact hx
  · rcases List.mem_cons.1 hf with rfl | hf
    · exact hy
    · cases hf⟩
theorem wr4 : wrap64 (3 + 1) = 4 := by unfold wrap64; omega
theorem frs1 {N : Nat} {w : World} {A : Option Addr} {c : Nat} {x : Fr} (h : RdC w 3 (.slice A 1 c) (fR [x])) (hx : FrOk N w x) : FrsOk N w A 1 c [x] := ⟨h, fun f hf => by
  rcases List.mem_cons.1 hf with rfl | hf
  · exact hx
  · cases hf⟩
theorem frs_of {N : Nat} {w0 w : World} {A : Option Addr} {n c : Nat} {zs : List Fr} (h : Mem w0 w (Own 3 (.slice A n c) (fR zs) :: slots zs)) (hz : ∀ z, z ∈ zs → z.n ≤ N) : FrsOk N w A n c zs := ⟨h.rd m0, fun f hf => ⟨h.rd (.tail _ (slots_mem hf)), hz f hf⟩⟩
theorem shown_ok (w : World) : Calls Tryz.prog 4 #[] w fun e w' => e = .returned (.bool true) ∧ Gr w w' := by
  go_enter Tryz.func4, Tryz.ntmps4
  go_wp2_with fail
  refine (known_ok w).mono ?_
  rintro e wB ⟨gh, gf, rfl, hg0, hpg⟩
  have hpg := Fact.mk hpg
  simp only [kP, vP]
  go_upto_region 2 with (fail)
  have hm := ((Mem.start wB).alloc (.cells [.slice none 0 0, .slice (some ⟨gf, 0, none⟩) 2 2].toArray 26))
  generalize hgX : wB.heap.size = g1 at hm ⊢
  generalize hwX : (wB.alloc (.cells [.slice none 0 0, .slice (some ⟨gf, 0, none⟩) 2 2].toArray 26)) = w1 at hm
  try refine wp_world hwX ?_
  clear hwX hgX
  have hgB := hm.below
  have hB1 := Fact.mk hm.below
  have hk1 : Fact (w1.cell? ⟨g1, 0, none⟩ = some (.slice none 0 0)) := ⟨hm.cell m0 0 rfl⟩
  have hk2 : Fact (w1.cell? ⟨g1, 1, none⟩ = some (.slice (some ⟨gf, 0, none⟩) 2 2)) := ⟨hm.cell m0 1 rfl⟩
  have c1 := hm.cell m0 0 rfl
  have c2 := hm.cell m0 1 rfl
  go_cut [2, 3] (fun s2 s3 W => ∃ (g2 : Nat) (y : Fr), s2 = .pointer (some ⟨g2, 0, none⟩) ∧ s3 = .bool true ∧ Mem w1 W [Blk g2 (.cells (cR y).toArray 30), slot y] ∧ y.data = enterD (fnAt (kP gh gf) 1) 1 (iv [8, 9]))
  case first =>
    have hmS := (Mem.start w1).drew
    refine wp_region_until (S := fun W => W.cell? ⟨g1, 0, none⟩ = some (.slice none 0 0) ∧ W.cell? ⟨g1, 1, none⟩ = some (.slice (some ⟨gf, 0, none⟩) 2 2)) 9 (by kernel_rfl) ?_
    generalize w1.drew = wd at hmS ⊢
    refine wpAnyU_take 0 (v := ?vv21) rfl (by kernel_rfl) (by kernel_rfl) (fun _ _ _ h => h) ⟨Gr.cell hmS.below c1, Gr.cell hmS.below c2⟩ (Or.inl ⟨rfl, ?yv21⟩) ?rv21
    case yv21 =>
      intro W hW
      obtain ⟨hW0, hW1⟩ := hW
      go_simp
      try with_reducible rfl
    try simp only [Act.put, List.setIfInBounds_toArray, List.set_cons_zero, List.set_cons_succ]
    refine wpAnyU_two 1 7 (by kernel_rfl) rfl rfl (fun K hK => ?_) (fun K hK => ?_)
    · go_simp
      have g5 := Gr.alloc (Gr.refl wd) (.cells [.int .i64 8, .int .i64 9].toArray 2)
      have r3 : RdC (wd.alloc (.cells [.int .i64 8, .int .i64 9].toArray 2)) 1 (.slice (some ⟨wd.heap.size, 0, none⟩) 2 2) (nums .i64 [8, 9]) := RdC.lit _ (nums .i64 [8, 9]) _ 2 1 rfl (by simp [maxLen]) (One.nums _ _)
      have hm4 := hmS.gr g5
      generalize wd.heap.size = a2 at r3 ⊢
      generalize wd.alloc (.cells [.int .i64 8, .int .i64 9].toArray 2) = u1 at g5 r3 hm4 ⊢
      refine hK _ _ (fun _ => ⟨Gr.cell hm4.below c1, Gr.cell hm4.below c2⟩) ?_
      clear hK K
      try simp only [Act.put, List.setIfInBounds_toArray, List.set_cons_zero, List.set_cons_succ]
      refine wpAnyU_two 2 7 (by kernel_rfl) rfl rfl (fun K hK => ?_) (fun K hK => ?_)
      · refine step_call rfl 8 Tryz.f8 Tryz.func8 (by kernel_rfl) (by kernel_rfl) _ _ rfl #[.slice (some ⟨a2, 0, none⟩) 2 2] (by simp [Act.eval]) ?_
        refine (ints_ok u1 (some ⟨a2, 0, none⟩) 2 2 [8, 9] ⟨r3⟩ (by omega)).mono ?_
        rintro e u6 ⟨A7, c8, rfl, hn9⟩
        have g12 := hn9.gr
        have r10 : RdC u6 2 (.slice A7 2 c8) (fV (iv [8, 9])) := hn9.ok.rd
        have hm11 := hm4.gr g12
        have r13 := r3.gr g12
        refine ⟨_, rfl, hK _ _ (fun _ => ⟨Gr.cell hm11.below c1, Gr.cell hm11.below c2⟩) ?_⟩
        clear hK K
        try simp only [Act.put, List.setIfInBounds_toArray, List.set_cons_zero, List.set_cons_succ]
        refine wpAnyU_two 3 7 (by kernel_rfl) rfl rfl (fun K hK => ?_) (fun K hK => ?_)
        · refine step_call rfl 7 Tryz.f7 Tryz.func7 (by kernel_rfl) (by kernel_rfl) _ _ rfl #[.agg #[.slice none 0 0, .slice (some ⟨gf, 0, none⟩) 2 2], .int .i64 1, .slice A7 2 c8] (by simp [Act.eval]) ?_
          refine (enter_ok u6 (kP gh gf) ⟨hpg.out.gr (Gr.trans hgB hm11.below)⟩ 1 A7 2 c8 (iv [8, 9]) ⟨r10⟩ (by omega)).mono ?_
          rintro e u14 ⟨⟨y15f, y15p, y15A, y15n, y15c, y15s⟩, rfl, hd16, hn17⟩
          simp only [cR]
          have g19 := hn17.gr
          have hm18 := hm11.new hn17
          have r20 := r13.gr g19
          have r21 := r10.gr g19
          refine ⟨_, rfl, hK _ _ (fun _ => ⟨Gr.cell hm18.below c1, Gr.cell hm18.below c2⟩) ?_⟩
          clear hK K
          try simp only [Act.put, List.setIfInBounds_toArray, List.set_cons_zero, List.set_cons_succ]
          refine wpAnyU_take 4 (v := ?vv22) rfl (by kernel_rfl) (by kernel_rfl) (fun _ _ _ h => h) ⟨Gr.cell hm18.below c1, Gr.cell hm18.below c2⟩ (Or.inl ⟨rfl, ?yv22⟩) ?rv22
          case yv22 =>
            intro W hW
            obtain ⟨hW0, hW1⟩ := hW
            go_simp
            try with_reducible rfl
          try simp only [Act.put, List.setIfInBounds_toArray, List.set_cons_zero, List.set_cons_succ]
          refine wpAnyU_take 5 (v := ?vv23) rfl (by kernel_rfl) (by kernel_rfl) (fun _ _ _ h => h) ⟨Gr.cell hm18.below c1, Gr.cell hm18.below c2⟩ (Or.inl ⟨rfl, ?yv23⟩) ?rv23
          case yv23 =>
            intro W hW
            obtain ⟨hW0, hW1⟩ := hW
            go_simp
            try with_reducible rfl
          try simp only [Act.put, List.setIfInBounds_toArray, List.set_cons_zero, List.set_cons_succ]
          refine wpAnyU_take 6 (v := ?vv24) rfl (by kernel_rfl) (by kernel_rfl) (fun _ _ _ h => h) ⟨Gr.cell hm18.below c1, Gr.cell hm18.below c2⟩ (Or.inl ⟨rfl, ?yv24⟩) ?rv24
          case yv24 =>
            intro W hW
            obtain ⟨hW0, hW1⟩ := hW
            go_simp
            try with_reducible rfl
          try simp only [Act.put, List.setIfInBounds_toArray, List.set_cons_zero, List.set_cons_succ]
          refine wpAnyU_one 7 (by kernel_rfl) rfl (fun K hK => ?_)
          go_simp
          have g25 := Gr.alloc (Gr.refl u14) (.cells [.int .i64 0, .int .i64 0, .slice none 0 0].toArray 30)
          have r26 := r20.gr g25
          have r27 := r21.gr g25
          have hm24 := hm18.alloc (.cells [.int .i64 0, .int .i64 0, .slice none 0 0].toArray 30)
          generalize u14.heap.size = b23 at hm24 ⊢
          generalize u14.alloc (.cells [.int .i64 0, .int .i64 0, .slice none 0 0].toArray 30) = u22 at g25 hm24 r26 r27 ⊢
          refine hK _ _ (fun _ => ⟨Gr.cell hm24.below c1, Gr.cell hm24.below c2⟩) ?_
          clear hK K
          try simp only [Act.put, List.setIfInBounds_toArray, List.set_cons_zero, List.set_cons_succ]
          refine wpAnyU_one 8 (by kernel_rfl) rfl (fun K hK => ?_)
          have qb230 := hm24.cell m0 0 rfl
          have fb230 := hm24.free m0 0
          have qb231 := hm24.cell m0 1 rfl
          have fb231 := hm24.free m0 1
          have qb232 := hm24.cell m0 2 rfl
          have fb232 := hm24.free m0 2
          have hm28 := ((hm24.set 0 (.int .i64 y15f)).set 1 (.int .i64 y15p)).set 2 (.slice y15A y15n y15c)
          go_simp
          refine hK _ _ (fun _ => ⟨Gr.cell hm28.below c1, Gr.cell hm28.below c2⟩) ?_
          clear hK K
          try simp only [Act.put, List.setIfInBounds_toArray, List.set_cons_zero, List.set_cons_succ]
          refine wpAnyU_one 9 (by kernel_rfl) rfl (fun K hK => ?_)
          go_simp
          refine hK _ _ (fun h => absurd h (by decide)) ?_
          clear hK K
          refine wpAnyU_done (by kernel_rfl) ?_ _
          go_wp2
          try simp only [Act.put, List.getElem_toArray, List.getElem_cons_succ, List.getElem_cons_zero, List.setIfInBounds_toArray, List.set_cons_succ, List.set_cons_zero]
          go_meet
          case rel => exact ⟨_, ⟨y15f, y15p, y15A, y15n, y15c, y15s⟩, rfl, rfl, hm28, hd16⟩
        · go_simp
          have g32 := Gr.alloc (Gr.refl u6) (.cells [.int .i64 0, .int .i64 0, .slice none 0 0].toArray 30)
          have r33 := r13.gr g32
          have r34 := r10.gr g32
          have hm31 := hm11.alloc (.cells [.int .i64 0, .int .i64 0, .slice none 0 0].toArray 30)
          generalize u6.heap.size = b30 at hm31 ⊢
          generalize u6.alloc (.cells [.int .i64 0, .int .i64 0, .slice none 0 0].toArray 30) = u29 at g32 hm31 r33 r34 ⊢
          refine hK _ _ (fun _ => ⟨Gr.cell hm31.below c1, Gr.cell hm31.below c2⟩) ?_
          clear hK K
          try simp only [Act.put, List.setIfInBounds_toArray, List.set_cons_zero, List.set_cons_succ]
          refine wpAnyU_one 3 (by kernel_rfl) rfl (fun K hK => ?_)
          refine step_call rfl 7 Tryz.f7 Tryz.func7 (by kernel_rfl) (by kernel_rfl) _ _ rfl #[.agg #[.slice none 0 0, .slice (some ⟨gf, 0, none⟩) 2 2], .int .i64 1, .slice A7 2 c8] (by simp [Act.eval]) ?_
          refine (enter_ok u29 (kP gh gf) ⟨hpg.out.gr (Gr.trans hgB hm31.below)⟩ 1 A7 2 c8 (iv [8, 9]) ⟨r34⟩ (by omega)).mono ?_
          rintro e u35 ⟨⟨y36f, y36p, y36A, y36n, y36c, y36s⟩, rfl, hd37, hn38⟩
          simp only [cR]
          have g40 := hn38.gr
          have hm39 := hm31.new hn38
          have r41 := r33.gr g40
          have r42 := r34.gr g40
          refine ⟨_, rfl, hK _ _ (fun _ => ⟨Gr.cell hm39.below c1, Gr.cell hm39.below c2⟩) ?_⟩
          clear hK K
          try simp only [Act.put, List.setIfInBounds_toArray, List.set_cons_zero, List.set_cons_succ]
          refine wpAnyU_take 4 (v := ?vv25) rfl (by kernel_rfl) (by kernel_rfl) (fun _ _ _ h => h) ⟨Gr.cell hm39.below c1, Gr.cell hm39.below c2⟩ (Or.inl ⟨rfl, ?yv25⟩) ?rv25
          case yv25 =>
            intro W hW
            obtain ⟨hW0, hW1⟩ := hW
            go_simp
            try with_reducible rfl
          try simp only [Act.put, List.setIfInBounds_toArray, List.set_cons_zero, List.set_cons_succ]
          refine wpAnyU_take 5 (v := ?vv26) rfl (by kernel_rfl) (by kernel_rfl) (fun _ _ _ h => h) ⟨Gr.cell hm39.below c1, Gr.cell hm39.below c2⟩ (Or.inl ⟨rfl, ?yv26⟩) ?rv26
          case yv26 =>
            intro W hW
            obtain ⟨hW0, hW1⟩ := hW
            go_simp
            try with_reducible rfl
          try simp only [Act.put, List.setIfInBounds_toArray, List.set_cons_zero, List.set_cons_succ]
          refine wpAnyU_take 6 (v := ?vv27) rfl (by kernel_rfl) (by kernel_rfl) (fun _ _ _ h => h) ⟨Gr.cell hm39.below c1, Gr.cell hm39.below c2⟩ (Or.inl ⟨rfl, ?yv27⟩) ?rv27
          case yv27 =>
            intro W hW
            obtain ⟨hW0, hW1⟩ := hW
            go_simp
            try with_reducible rfl
          try simp only [Act.put, List.setIfInBounds_toArray, List.set_cons_zero, List.set_cons_succ]
          refine wpAnyU_one 8 (by kernel_rfl) rfl (fun K hK => ?_)
          have hm43 := hm39.swap
          have qb300 := hm43.cell m0 0 rfl
          have fb300 := hm43.free m0 0
          have qb301 := hm43.cell m0 1 rfl
          have fb301 := hm43.free m0 1
          have qb302 := hm43.cell m0 2 rfl
          have fb302 := hm43.free m0 2
          have hm44 := ((hm43.set 0 (.int .i64 y36f)).set 1 (.int .i64 y36p)).set 2 (.slice y36A y36n y36c)
          go_simp
          refine hK _ _ (fun _ => ⟨Gr.cell hm44.below c1, Gr.cell hm44.below c2⟩) ?_
          clear hK K
          try simp only [Act.put, List.setIfInBounds_toArray, List.set_cons_zero, List.set_cons_succ]
          refine wpAnyU_one 9 (by kernel_rfl) rfl (fun K hK => ?_)
          go_simp
          refine hK _ _ (fun h => absurd h (by decide)) ?_
          clear hK K
          refine wpAnyU_done (by kernel_rfl) ?_ _
          go_wp2
          try simp only [Act.put, List.getElem_toArray, List.getElem_cons_succ, List.getElem_cons_zero, List.setIfInBounds_toArray, List.set_cons_succ, List.set_cons_zero]
          go_meet
          case rel => exact ⟨_, ⟨y36f, y36p, y36A, y36n, y36c, y36s⟩, rfl, rfl, hm44, hd37⟩
      · go_simp
        have g48 := Gr.alloc (Gr.refl u1) (.cells [.int .i64 0, .int .i64 0, .slice none 0 0].toArray 30)
        have r49 := r3.gr g48
        have hm47 := hm4.alloc (.cells [.int .i64 0, .int .i64 0, .slice none 0 0].toArray 30)
        generalize u1.heap.size = b46 at hm47 ⊢
        generalize u1.alloc (.cells [.int .i64 0, .int .i64 0, .slice none 0 0].toArray 30) = u45 at g48 hm47 r49 ⊢
        refine hK _ _ (fun _ => ⟨Gr.cell hm47.below c1, Gr.cell hm47.below c2⟩) ?_
        clear hK K
        try simp only [Act.put, List.setIfInBounds_toArray, List.set_cons_zero, List.set_cons_succ]
        refine wpAnyU_one 2 (by kernel_rfl) rfl (fun K hK => ?_)
        refine step_call rfl 8 Tryz.f8 Tryz.func8 (by kernel_rfl) (by kernel_rfl) _ _ rfl #[.slice (some ⟨a2, 0, none⟩) 2 2] (by simp [Act.eval]) ?_
        refine (ints_ok u45 (some ⟨a2, 0, none⟩) 2 2 [8, 9] ⟨r49⟩ (by omega)).mono ?_
        rintro e u50 ⟨A51, c52, rfl, hn53⟩
        have g56 := hn53.gr
        have r54 : RdC u50 2 (.slice A51 2 c52) (fV (iv [8, 9])) := hn53.ok.rd
        have hm55 := hm47.gr g56
        have r57 := r49.gr g56
        refine ⟨_, rfl, hK _ _ (fun _ => ⟨Gr.cell hm55.below c1, Gr.cell hm55.below c2⟩) ?_⟩
        clear hK K
        try simp only [Act.put, List.setIfInBounds_toArray, List.set_cons_zero, List.set_cons_succ]
        refine wpAnyU_one 3 (by kernel_rfl) rfl (fun K hK => ?_)
        refine step_call rfl 7 Tryz.f7 Tryz.func7 (by kernel_rfl) (by kernel_rfl) _ _ rfl #[.agg #[.slice none 0 0, .slice (some ⟨gf, 0, none⟩) 2 2], .int .i64 1, .slice A51 2 c52] (by simp [Act.eval]) ?_
        refine (enter_ok u50 (kP gh gf) ⟨hpg.out.gr (Gr.trans hgB hm55.below)⟩ 1 A51 2 c52 (iv [8, 9]) ⟨r54⟩ (by omega)).mono ?_
        rintro e u58 ⟨⟨y59f, y59p, y59A, y59n, y59c, y59s⟩, rfl, hd60, hn61⟩
        simp only [cR]
        have g63 := hn61.gr
        have hm62 := hm55.new hn61
        have r64 := r57.gr g63
        have r65 := r54.gr g63
        refine ⟨_, rfl, hK _ _ (fun _ => ⟨Gr.cell hm62.below c1, Gr.cell hm62.below c2⟩) ?_⟩
        clear hK K
        try simp only [Act.put, List.setIfInBounds_toArray, List.set_cons_zero, List.set_cons_succ]
        refine wpAnyU_take 4 (v := ?vv28) rfl (by kernel_rfl) (by kernel_rfl) (fun _ _ _ h => h) ⟨Gr.cell hm62.below c1, Gr.cell hm62.below c2⟩ (Or.inl ⟨rfl, ?yv28⟩) ?rv28
        case yv28 =>
          intro W hW
          obtain ⟨hW0, hW1⟩ := hW
          go_simp
          try with_reducible rfl
        try simp only [Act.put, List.setIfInBounds_toArray, List.set_cons_zero, List.set_cons_succ]
        refine wpAnyU_take 5 (v := ?vv29) rfl (by kernel_rfl) (by kernel_rfl) (fun _ _ _ h => h) ⟨Gr.cell hm62.below c1, Gr.cell hm62.below c2⟩ (Or.inl ⟨rfl, ?yv29⟩) ?rv29
        case yv29 =>
          intro W hW
          obtain ⟨hW0, hW1⟩ := hW
          go_simp
          try with_reducible rfl
        try simp only [Act.put, List.setIfInBounds_toArray, List.set_cons_zero, List.set_cons_succ]
        refine wpAnyU_take 6 (v := ?vv210) rfl (by kernel_rfl) (by kernel_rfl) (fun _ _ _ h => h) ⟨Gr.cell hm62.below c1, Gr.cell hm62.below c2⟩ (Or.inl ⟨rfl, ?yv210⟩) ?rv210
        case yv210 =>
          intro W hW
          obtain ⟨hW0, hW1⟩ := hW
          go_simp
          try with_reducible rfl
        try simp only [Act.put, List.setIfInBounds_toArray, List.set_cons_zero, List.set_cons_succ]
        refine wpAnyU_one 8 (by kernel_rfl) rfl (fun K hK => ?_)
        have hm66 := hm62.swap
        have qb460 := hm66.cell m0 0 rfl
        have fb460 := hm66.free m0 0
        have qb461 := hm66.cell m0 1 rfl
        have fb461 := hm66.free m0 1
        have qb462 := hm66.cell m0 2 rfl
        have fb462 := hm66.free m0 2
        have hm67 := ((hm66.set 0 (.int .i64 y59f)).set 1 (.int .i64 y59p)).set 2 (.slice y59A y59n y59c)
        go_simp
        refine hK _ _ (fun _ => ⟨Gr.cell hm67.below c1, Gr.cell hm67.below c2⟩) ?_
        clear hK K
        try simp only [Act.put, List.setIfInBounds_toArray, List.set_cons_zero, List.set_cons_succ]
        refine wpAnyU_one 9 (by kernel_rfl) rfl (fun K hK => ?_)
        go_simp
        refine hK _ _ (fun h => absurd h (by decide)) ?_
        clear hK K
        refine wpAnyU_done (by kernel_rfl) ?_ _
        go_wp2
        try simp only [Act.put, List.getElem_toArray, List.getElem_cons_succ, List.getElem_cons_zero, List.setIfInBounds_toArray, List.set_cons_succ, List.set_cons_zero]
        go_meet
        case rel => exact ⟨_, ⟨y59f, y59p, y59A, y59n, y59c, y59s⟩, rfl, rfl, hm67, hd60⟩
    · go_simp
      have g71 := Gr.alloc (Gr.refl wd) (.cells [.int .i64 0, .int .i64 0, .slice none 0 0].toArray 30)
      have hm70 := hmS.alloc (.cells [.int .i64 0, .int .i64 0, .slice none 0 0].toArray 30)
      generalize wd.heap.size = b69 at hm70 ⊢
      generalize wd.alloc (.cells [.int .i64 0, .int .i64 0, .slice none 0 0].toArray 30) = u68 at g71 hm70 ⊢
      refine hK _ _ (fun _ => ⟨Gr.cell hm70.below c1, Gr.cell hm70.below c2⟩) ?_
      clear hK K
      try simp only [Act.put, List.setIfInBounds_toArray, List.set_cons_zero, List.set_cons_succ]
      refine wpAnyU_one 1 (by kernel_rfl) rfl (fun K hK => ?_)
      go_simp
      have g76 := Gr.alloc (Gr.refl u68) (.cells [.int .i64 8, .int .i64 9].toArray 2)
      have r74 : RdC (u68.alloc (.cells [.int .i64 8, .int .i64 9].toArray 2)) 1 (.slice (some ⟨u68.heap.size, 0, none⟩) 2 2) (nums .i64 [8, 9]) := RdC.lit _ (nums .i64 [8, 9]) _ 2 1 rfl (by simp [maxLen]) (One.nums _ _)
      have hm75 := hm70.gr g76
      generalize u68.heap.size = a73 at r74 ⊢
      generalize u68.alloc (.cells [.int .i64 8, .int .i64 9].toArray 2) = u72 at g76 r74 hm75 ⊢
      refine hK _ _ (fun _ => ⟨Gr.cell hm75.below c1, Gr.cell hm75.below c2⟩) ?_
      clear hK K
      try simp only [Act.put, List.setIfInBounds_toArray, List.set_cons_zero, List.set_cons_succ]
      refine wpAnyU_one 2 (by kernel_rfl) rfl (fun K hK => ?_)
      refine step_call rfl 8 Tryz.f8 Tryz.func8 (by kernel_rfl) (by kernel_rfl) _ _ rfl #[.slice (some ⟨a73, 0, none⟩) 2 2] (by simp [Act.eval]) ?_
      refine (ints_ok u72 (some ⟨a73, 0, none⟩) 2 2 [8, 9] ⟨r74⟩ (by omega)).mono ?_
      rintro e u77 ⟨A78, c79, rfl, hn80⟩
      have g83 := hn80.gr
      have r81 : RdC u77 2 (.slice A78 2 c79) (fV (iv [8, 9])) := hn80.ok.rd
      have hm82 := hm75.gr g83
      have r84 := r74.gr g83
      refine ⟨_, rfl, hK _ _ (fun _ => ⟨Gr.cell hm82.below c1, Gr.cell hm82.below c2⟩) ?_⟩
      clear hK K
      try simp only [Act.put, List.setIfInBounds_toArray, List.set_cons_zero, List.set_cons_succ]
      refine wpAnyU_one 3 (by kernel_rfl) rfl (fun K hK => ?_)
      refine step_call rfl 7 Tryz.f7 Tryz.func7 (by kernel_rfl) (by kernel_rfl) _ _ rfl #[.agg #[.slice none 0 0, .slice (some ⟨gf, 0, none⟩) 2 2], .int .i64 1, .slice A78 2 c79] (by simp [Act.eval]) ?_
      refine (enter_ok u77 (kP gh gf) ⟨hpg.out.gr (Gr.trans hgB hm82.below)⟩ 1 A78 2 c79 (iv [8, 9]) ⟨r81⟩ (by omega)).mono ?_
      rintro e u85 ⟨⟨y86f, y86p, y86A, y86n, y86c, y86s⟩, rfl, hd87, hn88⟩
      simp only [cR]
      have g90 := hn88.gr
      have hm89 := hm82.new hn88
      have r91 := r84.gr g90
      have r92 := r81.gr g90
      refine ⟨_, rfl, hK _ _ (fun _ => ⟨Gr.cell hm89.below c1, Gr.cell hm89.below c2⟩) ?_⟩
      clear hK K
      try simp only [Act.put, List.setIfInBounds_toArray, List.set_cons_zero, List.set_cons_succ]
      refine wpAnyU_take 4 (v := ?vv211) rfl (by kernel_rfl) (by kernel_rfl) (fun _ _ _ h => h) ⟨Gr.cell hm89.below c1, Gr.cell hm89.below c2⟩ (Or.inl ⟨rfl, ?yv211⟩) ?rv211
      case yv211 =>
        intro W hW
        obtain ⟨hW0, hW1⟩ := hW
        go_simp
        try with_reducible rfl
      try simp only [Act.put, List.setIfInBounds_toArray, List.set_cons_zero, List.set_cons_succ]
      refine wpAnyU_take 5 (v := ?vv212) rfl (by kernel_rfl) (by kernel_rfl) (fun _ _ _ h => h) ⟨Gr.cell hm89.below c1, Gr.cell hm89.below c2⟩ (Or.inl ⟨rfl, ?yv212⟩) ?rv212
      case yv212 =>
        intro W hW
        obtain ⟨hW0, hW1⟩ := hW
        go_simp
        try with_reducible rfl
      try simp only [Act.put, List.setIfInBounds_toArray, List.set_cons_zero, List.set_cons_succ]
      refine wpAnyU_take 6 (v := ?vv213) rfl (by kernel_rfl) (by kernel_rfl) (fun _ _ _ h => h) ⟨Gr.cell hm89.below c1, Gr.cell hm89.below c2⟩ (Or.inl ⟨rfl, ?yv213⟩) ?rv213
      case yv213 =>
        intro W hW
        obtain ⟨hW0, hW1⟩ := hW
        go_simp
        try with_reducible rfl
      try simp only [Act.put, List.setIfInBounds_toArray, List.set_cons_zero, List.set_cons_succ]
      refine wpAnyU_one 8 (by kernel_rfl) rfl (fun K hK => ?_)
      have hm93 := hm89.swap
      have qb690 := hm93.cell m0 0 rfl
      have fb690 := hm93.free m0 0
      have qb691 := hm93.cell m0 1 rfl
      have fb691 := hm93.free m0 1
      have qb692 := hm93.cell m0 2 rfl
      have fb692 := hm93.free m0 2
      have hm94 := ((hm93.set 0 (.int .i64 y86f)).set 1 (.int .i64 y86p)).set 2 (.slice y86A y86n y86c)
      go_simp
      refine hK _ _ (fun _ => ⟨Gr.cell hm94.below c1, Gr.cell hm94.below c2⟩) ?_
      clear hK K
      try simp only [Act.put, List.setIfInBounds_toArray, List.set_cons_zero, List.set_cons_succ]
      refine wpAnyU_one 9 (by kernel_rfl) rfl (fun K hK => ?_)
      go_simp
      refine hK _ _ (fun h => absurd h (by decide)) ?_
      clear hK K
      refine wpAnyU_done (by kernel_rfl) ?_ _
      go_wp2
      try simp only [Act.put, List.getElem_toArray, List.getElem_cons_succ, List.getElem_cons_zero, List.setIfInBounds_toArray, List.set_cons_succ, List.set_cons_zero]
      go_meet
      case rel => exact ⟨_, ⟨y86f, y86p, y86A, y86n, y86c, y86s⟩, rfl, rfl, hm94, hd87⟩
  case rest =>
    obtain ⟨wp, rfl⟩ : ∃ wp : World, wp = wc := ⟨_, rfl⟩
    obtain ⟨g2, ⟨yf, yp, yA, yn, yc, ys⟩, rfl, rfl, hm2, hd⟩ := hcut
    have hd : ((yf, yp, ys) : FrD) = (1, 0, [(2, 8), (2, 9), (0, 0)]) := hd.trans (by rfl)
    simp only [Prod.mk.injEq] at hd
    obtain ⟨rfl, rfl, rfl⟩ := hd
    obtain rfl : 3 = yn := rdV_len (hm2.rd m1)
    have hg1 := hm2.below
    have hgB := Gr.trans hgB hg1
    have c1 := Gr.cell hg1 c1
    have c2 := Gr.cell hg1 c2
    go_upto_region 3 with (fail)
    go_cut [5] (fun s5 W => s5 = .bool false ∧ Gr wp W)
    case first =>
      clear hm hm2
      have hmS := (Mem.start wp).drew
      refine wp_region_until (S := fun W => W.cell? ⟨g1, 0, none⟩ = some (.slice none 0 0) ∧ W.cell? ⟨g1, 1, none⟩ = some (.slice (some ⟨gf, 0, none⟩) 2 2)) 9 (by kernel_rfl) ?_
      generalize wp.drew = wd at hmS ⊢
      refine wpAnyU_take 0 (v := ?vv31) rfl (by kernel_rfl) (by kernel_rfl) (fun _ _ _ h => h) ⟨Gr.cell hmS.below c1, Gr.cell hmS.below c2⟩ (Or.inl ⟨rfl, ?yv31⟩) ?rv31
      case yv31 =>
        intro W hW
        obtain ⟨hW0, hW1⟩ := hW
        go_simp
        try with_reducible rfl
      try simp only [Act.put, List.setIfInBounds_toArray, List.set_cons_zero, List.set_cons_succ]
      refine wpAnyU_two 1 7 (by kernel_rfl) rfl rfl (fun K hK => ?_) (fun K hK => ?_)
      · go_simp
        have g99 := Gr.alloc (Gr.refl wd) (.cells [.int .i64 8].toArray 2)
        have r97 : RdC (wd.alloc (.cells [.int .i64 8].toArray 2)) 1 (.slice (some ⟨wd.heap.size, 0, none⟩) 1 1) (nums .i64 [8]) := RdC.lit _ (nums .i64 [8]) _ 1 1 rfl (by simp [maxLen]) (One.nums _ _)
        have hm98 := hmS.gr g99
        generalize wd.heap.size = a96 at r97 ⊢
        generalize wd.alloc (.cells [.int .i64 8].toArray 2) = u95 at g99 r97 hm98 ⊢
        refine hK _ _ (fun _ => ⟨Gr.cell hm98.below c1, Gr.cell hm98.below c2⟩) ?_
        clear hK K
        try simp only [Act.put, List.setIfInBounds_toArray, List.set_cons_zero, List.set_cons_succ]
        refine wpAnyU_two 2 7 (by kernel_rfl) rfl rfl (fun K hK => ?_) (fun K hK => ?_)
        · refine step_call rfl 8 Tryz.f8 Tryz.func8 (by kernel_rfl) (by kernel_rfl) _ _ rfl #[.slice (some ⟨a96, 0, none⟩) 1 1] (by simp [Act.eval]) ?_
          refine (ints_ok u95 (some ⟨a96, 0, none⟩) 1 1 [8] ⟨r97⟩ (by omega)).mono ?_
          rintro e u100 ⟨A101, c102, rfl, hn103⟩
          have g106 := hn103.gr
          have r104 : RdC u100 2 (.slice A101 1 c102) (fV (iv [8])) := hn103.ok.rd
          have hm105 := hm98.gr g106
          have r107 := r97.gr g106
          refine ⟨_, rfl, hK _ _ (fun _ => ⟨Gr.cell hm105.below c1, Gr.cell hm105.below c2⟩) ?_⟩
          clear hK K
          try simp only [Act.put, List.setIfInBounds_toArray, List.set_cons_zero, List.set_cons_succ]
          refine wpAnyU_two 3 7 (by kernel_rfl) rfl rfl (fun K hK => ?_) (fun K hK => ?_)
          · refine step_call rfl 7 Tryz.f7 Tryz.func7 (by kernel_rfl) (by kernel_rfl) _ _ rfl #[.agg #[.slice none 0 0, .slice (some ⟨gf, 0, none⟩) 2 2], .int .i64 1, .slice A101 1 c102] (by simp [Act.eval]) ?_
            refine (enter_ok u100 (kP gh gf) ⟨hpg.out.gr (Gr.trans hgB hm105.below)⟩ 1 A101 1 c102 (iv [8]) ⟨r104⟩ (by omega)).mono ?_
            rintro e u108 ⟨⟨y109f, y109p, y109A, y109n, y109c, y109s⟩, rfl, hd110, hn111⟩
            simp only [cR]
            have g113 := hn111.gr
            have hm112 := hm105.new hn111
            have r114 := r107.gr g113
            have r115 := r104.gr g113
            refine ⟨_, rfl, hK _ _ (fun _ => ⟨Gr.cell hm112.below c1, Gr.cell hm112.below c2⟩) ?_⟩
            clear hK K
            try simp only [Act.put, List.setIfInBounds_toArray, List.set_cons_zero, List.set_cons_succ]
            refine wpAnyU_take 4 (v := ?vv32) rfl (by kernel_rfl) (by kernel_rfl) (fun _ _ _ h => h) ⟨Gr.cell hm112.below c1, Gr.cell hm112.below c2⟩ (Or.inl ⟨rfl, ?yv32⟩) ?rv32
            case yv32 =>
              intro W hW
              obtain ⟨hW0, hW1⟩ := hW
              go_simp
              try with_reducible rfl
            try simp only [Act.put, List.setIfInBounds_toArray, List.set_cons_zero, List.set_cons_succ]
            refine wpAnyU_take 5 (v := ?vv33) rfl (by kernel_rfl) (by kernel_rfl) (fun _ _ _ h => h) ⟨Gr.cell hm112.below c1, Gr.cell hm112.below c2⟩ (Or.inl ⟨rfl, ?yv33⟩) ?rv33
            case yv33 =>
              intro W hW
              obtain ⟨hW0, hW1⟩ := hW
              go_simp
              try with_reducible rfl
            try simp only [Act.put, List.setIfInBounds_toArray, List.set_cons_zero, List.set_cons_succ]
            refine wpAnyU_take 6 (v := ?vv34) rfl (by kernel_rfl) (by kernel_rfl) (fun _ _ _ h => h) ⟨Gr.cell hm112.below c1, Gr.cell hm112.below c2⟩ (Or.inl ⟨rfl, ?yv34⟩) ?rv34
            case yv34 =>
              intro W hW
              obtain ⟨hW0, hW1⟩ := hW
              go_simp
              try with_reducible rfl
            try simp only [Act.put, List.setIfInBounds_toArray, List.set_cons_zero, List.set_cons_succ]
            refine wpAnyU_one 7 (by kernel_rfl) rfl (fun K hK => ?_)
            go_simp
            have g119 := Gr.alloc (Gr.refl u108) (.cells [.int .i64 0, .int .i64 0, .slice none 0 0].toArray 30)
            have r120 := r114.gr g119
            have r121 := r115.gr g119
            have hm118 := hm112.alloc (.cells [.int .i64 0, .int .i64 0, .slice none 0 0].toArray 30)
            generalize u108.heap.size = b117 at hm118 ⊢
            generalize u108.alloc (.cells [.int .i64 0, .int .i64 0, .slice none 0 0].toArray 30) = u116 at g119 hm118 r120 r121 ⊢
            refine hK _ _ (fun _ => ⟨Gr.cell hm118.below c1, Gr.cell hm118.below c2⟩) ?_
            clear hK K
            try simp only [Act.put, List.setIfInBounds_toArray, List.set_cons_zero, List.set_cons_succ]
            refine wpAnyU_one 8 (by kernel_rfl) rfl (fun K hK => ?_)
            have qb1170 := hm118.cell m0 0 rfl
            have fb1170 := hm118.free m0 0
            have qb1171 := hm118.cell m0 1 rfl
            have fb1171 := hm118.free m0 1
            have qb1172 := hm118.cell m0 2 rfl
            have fb1172 := hm118.free m0 2
            have hm122 := ((hm118.set 0 (.int .i64 y109f)).set 1 (.int .i64 y109p)).set 2 (.slice y109A y109n y109c)
            go_simp
            refine hK _ _ (fun _ => ⟨Gr.cell hm122.below c1, Gr.cell hm122.below c2⟩) ?_
            clear hK K
            try simp only [Act.put, List.setIfInBounds_toArray, List.set_cons_zero, List.set_cons_succ]
            refine wpAnyU_one 9 (by kernel_rfl) rfl (fun K hK => ?_)
            go_simp
            refine hK _ _ (fun h => absurd h (by decide)) ?_
            clear hK K
            refine wpAnyU_done (by kernel_rfl) ?_ _
            go_wp2
            try simp only [Act.put, List.getElem_toArray, List.getElem_cons_succ, List.getElem_cons_zero, List.setIfInBounds_toArray, List.set_cons_succ, List.set_cons_zero]
            go_meet
            case rel => exact ⟨rfl, hm122.below⟩
          · go_simp
            have g126 := Gr.alloc (Gr.refl u100) (.cells [.int .i64 0, .int .i64 0, .slice none 0 0].toArray 30)
            have r127 := r107.gr g126
            have r128 := r104.gr g126
            have hm125 := hm105.alloc (.cells [.int .i64 0, .int .i64 0, .slice none 0 0].toArray 30)
            generalize u100.heap.size = b124 at hm125 ⊢
            generalize u100.alloc (.cells [.int .i64 0, .int .i64 0, .slice none 0 0].toArray 30) = u123 at g126 hm125 r127 r128 ⊢
            refine hK _ _ (fun _ => ⟨Gr.cell hm125.below c1, Gr.cell hm125.below c2⟩) ?_
            clear hK K
            try simp only [Act.put, List.setIfInBounds_toArray, List.set_cons_zero, List.set_cons_succ]
            refine wpAnyU_one 3 (by kernel_rfl) rfl (fun K hK => ?_)
            refine step_call rfl 7 Tryz.f7 Tryz.func7 (by kernel_rfl) (by kernel_rfl) _ _ rfl #[.agg #[.slice none 0 0, .slice (some ⟨gf, 0, none⟩) 2 2], .int .i64 1, .slice A101 1 c102] (by simp [Act.eval]) ?_
            refine (enter_ok u123 (kP gh gf) ⟨hpg.out.gr (Gr.trans hgB hm125.below)⟩ 1 A101 1 c102 (iv [8]) ⟨r128⟩ (by omega)).mono ?_
            rintro e u129 ⟨⟨y130f, y130p, y130A, y130n, y130c, y130s⟩, rfl, hd131, hn132⟩
            simp only [cR]
            have g134 := hn132.gr
            have hm133 := hm125.new hn132
            have r135 := r127.gr g134
            have r136 := r128.gr g134
            refine ⟨_, rfl, hK _ _ (fun _ => ⟨Gr.cell hm133.below c1, Gr.cell hm133.below c2⟩) ?_⟩
            clear hK K
            try simp only [Act.put, List.setIfInBounds_toArray, List.set_cons_zero, List.set_cons_succ]
            refine wpAnyU_take 4 (v := ?vv35) rfl (by kernel_rfl) (by kernel_rfl) (fun _ _ _ h => h) ⟨Gr.cell hm133.below c1, Gr.cell hm133.below c2⟩ (Or.inl ⟨rfl, ?yv35⟩) ?rv35
            case yv35 =>
              intro W hW
              obtain ⟨hW0, hW1⟩ := hW
              go_simp
              try with_reducible rfl
            try simp only [Act.put, List.setIfInBounds_toArray, List.set_cons_zero, List.set_cons_succ]
            refine wpAnyU_take 5 (v := ?vv36) rfl (by kernel_rfl) (by kernel_rfl) (fun _ _ _ h => h) ⟨Gr.cell hm133.below c1, Gr.cell hm133.below c2⟩ (Or.inl ⟨rfl, ?yv36⟩) ?rv36
            case yv36 =>
              intro W hW
              obtain ⟨hW0, hW1⟩ := hW
              go_simp
              try with_reducible rfl
            try simp only [Act.put, List.setIfInBounds_toArray, List.set_cons_zero, List.set_cons_succ]
            refine wpAnyU_take 6 (v := ?vv37) rfl (by kernel_rfl) (by kernel_rfl) (fun _ _ _ h => h) ⟨Gr.cell hm133.below c1, Gr.cell hm133.below c2⟩ (Or.inl ⟨rfl, ?yv37⟩) ?rv37
            case yv37 =>
              intro W hW
              obtain ⟨hW0, hW1⟩ := hW
              go_simp
              try with_reducible rfl
            try simp only [Act.put, List.setIfInBounds_toArray, List.set_cons_zero, List.set_cons_succ]
            refine wpAnyU_one 8 (by kernel_rfl) rfl (fun K hK => ?_)
            have hm137 := hm133.swap
            have qb1240 := hm137.cell m0 0 rfl
            have fb1240 := hm137.free m0 0
            have qb1241 := hm137.cell m0 1 rfl
            have fb1241 := hm137.free m0 1
            have qb1242 := hm137.cell m0 2 rfl
            have fb1242 := hm137.free m0 2
            have hm138 := ((hm137.set 0 (.int .i64 y130f)).set 1 (.int .i64 y130p)).set 2 (.slice y130A y130n y130c)
            go_simp
            refine hK _ _ (fun _ => ⟨Gr.cell hm138.below c1, Gr.cell hm138.below c2⟩) ?_
            clear hK K
            try simp only [Act.put, List.setIfInBounds_toArray, List.set_cons_zero, List.set_cons_succ]
            refine wpAnyU_one 9 (by kernel_rfl) rfl (fun K hK => ?_)
            go_simp
            refine hK _ _ (fun h => absurd h (by decide)) ?_
            clear hK K
            refine wpAnyU_done (by kernel_rfl) ?_ _
            go_wp2
            try simp only [Act.put, List.getElem_toArray, List.getElem_cons_succ, List.getElem_cons_zero, List.setIfInBounds_toArray, List.set_cons_succ, List.set_cons_zero]
            go_meet
            case rel => exact ⟨rfl, hm138.below⟩
        · go_simp
          have g142 := Gr.alloc (Gr.refl u95) (.cells [.int .i64 0, .int .i64 0, .slice none 0 0].toArray 30)
          have r143 := r97.gr g142
          have hm141 := hm98.alloc (.cells [.int .i64 0, .int .i64 0, .slice none 0 0].toArray 30)
          generalize u95.heap.size = b140 at hm141 ⊢
          generalize u95.alloc (.cells [.int .i64 0, .int .i64 0, .slice none 0 0].toArray 30) = u139 at g142 hm141 r143 ⊢
          refine hK _ _ (fun _ => ⟨Gr.cell hm141.below c1, Gr.cell hm141.below c2⟩) ?_
          clear hK K
          try simp only [Act.put, List.setIfInBounds_toArray, List.set_cons_zero, List.set_cons_succ]
          refine wpAnyU_one 2 (by kernel_rfl) rfl (fun K hK => ?_)
          refine step_call rfl 8 Tryz.f8 Tryz.func8 (by kernel_rfl) (by kernel_rfl) _ _ rfl #[.slice (some ⟨a96, 0, none⟩) 1 1] (by simp [Act.eval]) ?_
          refine (ints_ok u139 (some ⟨a96, 0, none⟩) 1 1 [8] ⟨r143⟩ (by omega)).mono ?_
          rintro e u144 ⟨A145, c146, rfl, hn147⟩
          have g150 := hn147.gr
          have r148 : RdC u144 2 (.slice A145 1 c146) (fV (iv [8])) := hn147.ok.rd
          have hm149 := hm141.gr g150
          have r151 := r143.gr g150
          refine ⟨_, rfl, hK _ _ (fun _ => ⟨Gr.cell hm149.below c1, Gr.cell hm149.below c2⟩) ?_⟩
          clear hK K
          try simp only [Act.put, List.setIfInBounds_toArray, List.set_cons_zero, List.set_cons_succ]
          refine wpAnyU_one 3 (by kernel_rfl) rfl (fun K hK => ?_)
          refine step_call rfl 7 Tryz.f7 Tryz.func7 (by kernel_rfl) (by kernel_rfl) _ _ rfl #[.agg #[.slice none 0 0, .slice (some ⟨gf, 0, none⟩) 2 2], .int .i64 1, .slice A145 1 c146] (by simp [Act.eval]) ?_
          refine (enter_ok u144 (kP gh gf) ⟨hpg.out.gr (Gr.trans hgB hm149.below)⟩ 1 A145 1 c146 (iv [8]) ⟨r148⟩ (by omega)).mono ?_
          rintro e u152 ⟨⟨y153f, y153p, y153A, y153n, y153c, y153s⟩, rfl, hd154, hn155⟩
          simp only [cR]
          have g157 := hn155.gr
          have hm156 := hm149.new hn155
          have r158 := r151.gr g157
          have r159 := r148.gr g157
          refine ⟨_, rfl, hK _ _ (fun _ => ⟨Gr.cell hm156.below c1, Gr.cell hm156.below c2⟩) ?_⟩
          clear hK K
          try simp only [Act.put, List.setIfInBounds_toArray, List.set_cons_zero, List.set_cons_succ]
          refine wpAnyU_take 4 (v := ?vv38) rfl (by kernel_rfl) (by kernel_rfl) (fun _ _ _ h => h) ⟨Gr.cell hm156.below c1, Gr.cell hm156.below c2⟩ (Or.inl ⟨rfl, ?yv38⟩) ?rv38
          case yv38 =>
            intro W hW
            obtain ⟨hW0, hW1⟩ := hW
            go_simp
            try with_reducible rfl
          try simp only [Act.put, List.setIfInBounds_toArray, List.set_cons_zero, List.set_cons_succ]
          refine wpAnyU_take 5 (v := ?vv39) rfl (by kernel_rfl) (by kernel_rfl) (fun _ _ _ h => h) ⟨Gr.cell hm156.below c1, Gr.cell hm156.below c2⟩ (Or.inl ⟨rfl, ?yv39⟩) ?rv39
          case yv39 =>
            intro W hW
            obtain ⟨hW0, hW1⟩ := hW
            go_simp
            try with_reducible rfl
          try simp only [Act.put, List.setIfInBounds_toArray, List.set_cons_zero, List.set_cons_succ]
          refine wpAnyU_take 6 (v := ?vv310) rfl (by kernel_rfl) (by kernel_rfl) (fun _ _ _ h => h) ⟨Gr.cell hm156.below c1, Gr.cell hm156.below c2⟩ (Or.inl ⟨rfl, ?yv310⟩) ?rv310
          case yv310 =>
            intro W hW
            obtain ⟨hW0, hW1⟩ := hW
            go_simp
            try with_reducible rfl
          try simp only [Act.put, List.setIfInBounds_toArray, List.set_cons_zero, List.set_cons_succ]
          refine wpAnyU_one 8 (by kernel_rfl) rfl (fun K hK => ?_)
          have hm160 := hm156.swap
          have qb1400 := hm160.cell m0 0 rfl
          have fb1400 := hm160.free m0 0
          have qb1401 := hm160.cell m0 1 rfl
          have fb1401 := hm160.free m0 1
          have qb1402 := hm160.cell m0 2 rfl
          have fb1402 := hm160.free m0 2
          have hm161 := ((hm160.set 0 (.int .i64 y153f)).set 1 (.int .i64 y153p)).set 2 (.slice y153A y153n y153c)
          go_simp
          refine hK _ _ (fun _ => ⟨Gr.cell hm161.below c1, Gr.cell hm161.below c2⟩) ?_
          clear hK K
          try simp only [Act.put, List.setIfInBounds_toArray, List.set_cons_zero, List.set_cons_succ]
          refine wpAnyU_one 9 (by kernel_rfl) rfl (fun K hK => ?_)
          go_simp
          refine hK _ _ (fun h => absurd h (by decide)) ?_
          clear hK K
          refine wpAnyU_done (by kernel_rfl) ?_ _
          go_wp2
          try simp only [Act.put, List.getElem_toArray, List.getElem_cons_succ, List.getElem_cons_zero, List.setIfInBounds_toArray, List.set_cons_succ, List.set_cons_zero]
          go_meet
          case rel => exact ⟨rfl, hm161.below⟩
      · go_simp
        have g165 := Gr.alloc (Gr.refl wd) (.cells [.int .i64 0, .int .i64 0, .slice none 0 0].toArray 30)
        have hm164 := hmS.alloc (.cells [.int .i64 0, .int .i64 0, .slice none 0 0].toArray 30)
        generalize wd.heap.size = b163 at hm164 ⊢
        generalize wd.alloc (.cells [.int .i64 0, .int .i64 0, .slice none 0 0].toArray 30) = u162 at g165 hm164 ⊢
        refine hK _ _ (fun _ => ⟨Gr.cell hm164.below c1, Gr.cell hm164.below c2⟩) ?_
        clear hK K
        try simp only [Act.put, List.setIfInBounds_toArray, List.set_cons_zero, List.set_cons_succ]
        refine wpAnyU_one 1 (by kernel_rfl) rfl (fun K hK => ?_)
        go_simp
        have g170 := Gr.alloc (Gr.refl u162) (.cells [.int .i64 8].toArray 2)
        have r168 : RdC (u162.alloc (.cells [.int .i64 8].toArray 2)) 1 (.slice (some ⟨u162.heap.size, 0, none⟩) 1 1) (nums .i64 [8]) := RdC.lit _ (nums .i64 [8]) _ 1 1 rfl (by simp [maxLen]) (One.nums _ _)
        have hm169 := hm164.gr g170
        generalize u162.heap.size = a167 at r168 ⊢
        generalize u162.alloc (.cells [.int .i64 8].toArray 2) = u166 at g170 r168 hm169 ⊢
        refine hK _ _ (fun _ => ⟨Gr.cell hm169.below c1, Gr.cell hm169.below c2⟩) ?_
        clear hK K
        try simp only [Act.put, List.setIfInBounds_toArray, List.set_cons_zero, List.set_cons_succ]
        refine wpAnyU_one 2 (by kernel_rfl) rfl (fun K hK => ?_)
        refine step_call rfl 8 Tryz.f8 Tryz.func8 (by kernel_rfl) (by kernel_rfl) _ _ rfl #[.slice (some ⟨a167, 0, none⟩) 1 1] (by simp [Act.eval]) ?_
        refine (ints_ok u166 (some ⟨a167, 0, none⟩) 1 1 [8] ⟨r168⟩ (by omega)).mono ?_
        rintro e u171 ⟨A172, c173, rfl, hn174⟩
        have g177 := hn174.gr
        have r175 : RdC u171 2 (.slice A172 1 c173) (fV (iv [8])) := hn174.ok.rd
        have hm176 := hm169.gr g177
        have r178 := r168.gr g177
        refine ⟨_, rfl, hK _ _ (fun _ => ⟨Gr.cell hm176.below c1, Gr.cell hm176.below c2⟩) ?_⟩
        clear hK K
        try simp only [Act.put, List.setIfInBounds_toArray, List.set_cons_zero, List.set_cons_succ]
        refine wpAnyU_one 3 (by kernel_rfl) rfl (fun K hK => ?_)
        refine step_call rfl 7 Tryz.f7 Tryz.func7 (by kernel_rfl) (by kernel_rfl) _ _ rfl #[.agg #[.slice none 0 0, .slice (some ⟨gf, 0, none⟩) 2 2], .int .i64 1, .slice A172 1 c173] (by simp [Act.eval]) ?_
        refine (enter_ok u171 (kP gh gf) ⟨hpg.out.gr (Gr.trans hgB hm176.below)⟩ 1 A172 1 c173 (iv [8]) ⟨r175⟩ (by omega)).mono ?_
        rintro e u179 ⟨⟨y180f, y180p, y180A, y180n, y180c, y180s⟩, rfl, hd181, hn182⟩
        simp only [cR]
        have g184 := hn182.gr
        have hm183 := hm176.new hn182
        have r185 := r178.gr g184
        have r186 := r175.gr g184
        refine ⟨_, rfl, hK _ _ (fun _ => ⟨Gr.cell hm183.below c1, Gr.cell hm183.below c2⟩) ?_⟩
        clear hK K
        try simp only [Act.put, List.setIfInBounds_toArray, List.set_cons_zero, List.set_cons_succ]
        refine wpAnyU_take 4 (v := ?vv311) rfl (by kernel_rfl) (by kernel_rfl) (fun _ _ _ h => h) ⟨Gr.cell hm183.below c1, Gr.cell hm183.below c2⟩ (Or.inl ⟨rfl, ?yv311⟩) ?rv311
        case yv311 =>
          intro W hW
          obtain ⟨hW0, hW1⟩ := hW
          go_simp
          try with_reducible rfl
        try simp only [Act.put, List.setIfInBounds_toArray, List.set_cons_zero, List.set_cons_succ]
        refine wpAnyU_take 5 (v := ?vv312) rfl (by kernel_rfl) (by kernel_rfl) (fun _ _ _ h => h) ⟨Gr.cell hm183.below c1, Gr.cell hm183.below c2⟩ (Or.inl ⟨rfl, ?yv312⟩) ?rv312
        case yv312 =>
          intro W hW
          obtain ⟨hW0, hW1⟩ := hW
          go_simp
          try with_reducible rfl
        try simp only [Act.put, List.setIfInBounds_toArray, List.set_cons_zero, List.set_cons_succ]
        refine wpAnyU_take 6 (v := ?vv313) rfl (by kernel_rfl) (by kernel_rfl) (fun _ _ _ h => h) ⟨Gr.cell hm183.below c1, Gr.cell hm183.below c2⟩ (Or.inl ⟨rfl, ?yv313⟩) ?rv313
        case yv313 =>
          intro W hW
          obtain ⟨hW0, hW1⟩ := hW
          go_simp
          try with_reducible rfl
        try simp only [Act.put, List.setIfInBounds_toArray, List.set_cons_zero, List.set_cons_succ]
        refine wpAnyU_one 8 (by kernel_rfl) rfl (fun K hK => ?_)
        have hm187 := hm183.swap
        have qb1630 := hm187.cell m0 0 rfl
        have fb1630 := hm187.free m0 0
        have qb1631 := hm187.cell m0 1 rfl
        have fb1631 := hm187.free m0 1
        have qb1632 := hm187.cell m0 2 rfl
        have fb1632 := hm187.free m0 2
        have hm188 := ((hm187.set 0 (.int .i64 y180f)).set 1 (.int .i64 y180p)).set 2 (.slice y180A y180n y180c)
        go_simp
        refine hK _ _ (fun _ => ⟨Gr.cell hm188.below c1, Gr.cell hm188.below c2⟩) ?_
        clear hK K
        try simp only [Act.put, List.setIfInBounds_toArray, List.set_cons_zero, List.set_cons_succ]
        refine wpAnyU_one 9 (by kernel_rfl) rfl (fun K hK => ?_)
        go_simp
        refine hK _ _ (fun h => absurd h (by decide)) ?_
        clear hK K
        refine wpAnyU_done (by kernel_rfl) ?_ _
        go_wp2
        try simp only [Act.put, List.getElem_toArray, List.getElem_cons_succ, List.getElem_cons_zero, List.setIfInBounds_toArray, List.set_cons_succ, List.set_cons_zero]
        go_meet
        case rel => exact ⟨rfl, hm188.below⟩
    case rest =>
      obtain ⟨wq, rfl⟩ : ∃ wq : World, wq = wc := ⟨_, rfl⟩
      obtain ⟨rfl, hg2⟩ := hcut
      have hm2 := hm2.gr hg2
      have hgB := Gr.trans hgB hg2
      have c1 := Gr.cell hg2 c1
      have c2 := Gr.cell hg2 c2
      clear hm
      obtain ⟨iV, hi, hz0, hz1, hz2⟩ := info_parts inf_V
      go_wp2_with fail
      have hm3 := hm2.gr (Gr.alloc (Gr.refl wq) (.cells [.int .i64 8, .int .i64 9].toArray 2))
      refine (ints_ok _ (some ⟨_, 0, none⟩) 2 2 [8, 9] ⟨RdC.lit _ (nums .i64 [8, 9]) _ 2 1 rfl (by simp [maxLen]) (One.nums _ _)⟩ (by omega)).mono ?_
      rintro e w4 ⟨A4, e4, rfl, hn4⟩
      have hm4 := hm3.new hn4
      go_upto_region 5 with (at_builtin; refine wp_app rfl _ _ _ rfl 36 iV _ 2 16 ty_Vs hi hz0 hz1 hz2 rfl A4 2 e4 _ rfl (hm4.alloc _).swap _ 1 1 [.int .i64 0, .int .i64 0] rfl (RdC.lit _ _ _ _ _ rfl (by simp [maxLen]) (cV_one (0, 0))) (by unfold maxLen; omega) (by omega) ?_; intro A5 e5 w5 hm5)
      have hr5 : Fact (RdC w5 2 (.slice A5 3 e5) (fV [(2, 8), (2, 9), (0, 0)])) := ⟨hm5.rd m0⟩
      have hy5 : Fact (RdC w5 2 (.slice yA 3 yc) (fV [(2, 8), (2, 9), (0, 0)])) := ⟨hm5.rd m3⟩
      have d0 : w5.cell? ⟨g2, 0, none⟩ = some (.int .i64 1) := hm5.cell m2 0 rfl
      have d1 : w5.cell? ⟨g2, 1, none⟩ = some (.int .i64 0) := hm5.cell m2 1 rfl
      have d2 : w5.cell? ⟨g2, 2, none⟩ = some (.slice yA 3 yc) := hm5.cell m2 2 rfl
      have hg5 := hm5.below
      clear hm5 hm4 hm3 hm2 hn4
      go_wp2_with fail
      refine (sameValues_ok w5 yA A5 3 yc e5 [(2, 8), (2, 9), (0, 0)] hy5 hr5 (by omega)).mono ?_
      rintro e w6 ⟨rfl, hg6⟩
      have hg6 := Fact.mk (Gr.trans hg5 hg6)
      clear d0 d1 d2 hr5 hy5 hg5
      go_upto_region 8 with (fail)
      have hm7 := ((Mem.start w6).alloc (.cells [.int .i64 2, .int .i64 77].toArray 36))
      generalize hgX : w6.heap.size = g7 at hm7 ⊢
      generalize hwX : (w6.alloc (.cells [.int .i64 2, .int .i64 77].toArray 36)) = w7 at hm7
      try refine wp_world hwX ?_
      clear hwX hgX
      go_wp2_with fail
      have hm7 := hm7.gr (Gr.alloc (Gr.refl w7) (.cells [.int .i64 1].toArray 2))
      refine (ints_ok _ (some ⟨_, 0, none⟩) 1 1 [1] ⟨RdC.lit _ (nums .i64 [1]) _ 1 1 rfl (by simp [maxLen]) (One.nums _ _)⟩ (by omega)).mono ?_
      rintro e w8 ⟨AF, eF, rfl, hn8⟩
      have hm8 := hm7.new hn8
      clear hm7 hn8
      go_upto_region 9 with (fail)
      have hm9 := ((Mem.start w8).alloc (.cells [.int .i64 0, .int .i64 3, .slice AF 1 eF].toArray 30))
      generalize hgX : w8.heap.size = g8 at hm9 ⊢
      generalize hwX : (w8.alloc (.cells [.int .i64 0, .int .i64 3, .slice AF 1 eF].toArray 30)) = w9 at hm9
      try refine wp_world hwX ?_
      clear hwX hgX
      have hm9 := hm8.join hm9
      clear hm8
      have hgw := Fact.mk (Gr.trans hg6.out hm9.below)
      have hr8 := Fact.mk (show RdC w9 2 (.slice AF 1 eF) (fV (iv [1])) from hm9.rd m1)
      have k1 := Gr.cell hgw.out hk1.out
      have k2 := Gr.cell hgw.out hk2.out
      have k3 : w9.cell? ⟨g8, 0, none⟩ = some (.int .i64 0) := hm9.cell m0 0 rfl
      have k4 : w9.cell? ⟨g8, 1, none⟩ = some (.int .i64 3) := hm9.cell m0 1 rfl
      have k5 : w9.cell? ⟨g8, 2, none⟩ = some (.slice AF 1 eF) := hm9.cell m0 2 rfl
      have k6 : w9.cell? ⟨g7, 0, none⟩ = some (.int .i64 2) := hm9.cell m2 0 rfl
      have k7 : w9.cell? ⟨g7, 1, none⟩ = some (.int .i64 77) := hm9.cell m2 1 rfl
      clear hm9 c1 c2
      go_cut [9, 10] (fun s9 s10 W => ∃ (A9 : Option Addr) (n9 e9 : Nat) (zs : List Fr), s9 = .slice A9 n9 e9 ∧ s10 = .bool true ∧ Gr w9 W ∧ FrsOk 9 W A9 n9 e9 zs ∧ zs.map Fr.data = [(0, 3, iv [1]), (1, 7, iv [1, 2, 3, 4, 77])] ∧ n9 ≤ 4)
      case first =>
        have hmS := (Mem.start w9).drew
        have hrS := hr8.out.gr (Gr.refl w9).drew
        refine wp_region_until (S := fun W => W.cell? ⟨g1, 0, none⟩ = some (.slice none 0 0) ∧ W.cell? ⟨g1, 1, none⟩ = some (.slice (some ⟨gf, 0, none⟩) 2 2) ∧ W.cell? ⟨g8, 0, none⟩ = some (.int .i64 0) ∧ W.cell? ⟨g8, 1, none⟩ = some (.int .i64 3) ∧ W.cell? ⟨g8, 2, none⟩ = some (.slice AF 1 eF) ∧ W.cell? ⟨g7, 0, none⟩ = some (.int .i64 2) ∧ W.cell? ⟨g7, 1, none⟩ = some (.int .i64 77)) 12 (by kernel_rfl) ?_
        generalize w9.drew = wd at hmS hrS ⊢
        refine wpAnyU_take 0 (v := ?vv91) rfl (by kernel_rfl) (by kernel_rfl) (fun _ _ _ h => h) ⟨Gr.cell hmS.below k1, Gr.cell hmS.below k2, Gr.cell hmS.below k3, Gr.cell hmS.below k4, Gr.cell hmS.below k5, Gr.cell hmS.below k6, Gr.cell hmS.below k7⟩ (Or.inl ⟨rfl, ?yv91⟩) ?rv91
        case yv91 =>
          intro W hW
          obtain ⟨hW0, hW1, hW2, hW3, hW4, hW5, hW6⟩ := hW
          go_simp
          try with_reducible rfl
        try simp only [Act.put, List.setIfInBounds_toArray, List.set_cons_zero, List.set_cons_succ]
        refine wpAnyU_take 1 (v := ?vv92) rfl (by kernel_rfl) (by kernel_rfl) (fun _ _ _ h => h) ⟨Gr.cell hmS.below k1, Gr.cell hmS.below k2, Gr.cell hmS.below k3, Gr.cell hmS.below k4, Gr.cell hmS.below k5, Gr.cell hmS.below k6, Gr.cell hmS.below k7⟩ (Or.inl ⟨rfl, ?yv92⟩) ?rv92
        case yv92 =>
          intro W hW
          obtain ⟨hW0, hW1, hW2, hW3, hW4, hW5, hW6⟩ := hW
          go_simp
          try with_reducible rfl
        try simp only [Act.put, List.setIfInBounds_toArray, List.set_cons_zero, List.set_cons_succ]
        refine wpAnyU_take 6 (v := ?vv93) rfl (by kernel_rfl) (by kernel_rfl) (fun _ _ _ h => h) ⟨Gr.cell hmS.below k1, Gr.cell hmS.below k2, Gr.cell hmS.below k3, Gr.cell hmS.below k4, Gr.cell hmS.below k5, Gr.cell hmS.below k6, Gr.cell hmS.below k7⟩ (Or.inl ⟨rfl, ?yv93⟩) ?rv93
        case yv93 =>
          intro W hW
          obtain ⟨hW0, hW1, hW2, hW3, hW4, hW5, hW6⟩ := hW
          go_simp
          try with_reducible rfl
        try simp only [Act.put, List.setIfInBounds_toArray, List.set_cons_zero, List.set_cons_succ]
        refine wpAnyU_one 2 (by kernel_rfl) rfl (fun K hK => ?_)
        go_simp
        have g193 := Gr.alloc (Gr.refl wd) (.cells [.int .i64 1, .int .i64 2, .int .i64 3, .int .i64 4, .int .i64 5].toArray 2)
        have r194 := hrS.gr g193
        have r191 : RdC (wd.alloc (.cells [.int .i64 1, .int .i64 2, .int .i64 3, .int .i64 4, .int .i64 5].toArray 2)) 1 (.slice (some ⟨wd.heap.size, 0, none⟩) 5 5) (nums .i64 [1, 2, 3, 4, 5]) := RdC.lit _ (nums .i64 [1, 2, 3, 4, 5]) _ 5 1 rfl (by simp [maxLen]) (One.nums _ _)
        have hm192 := hmS.gr g193
        generalize wd.heap.size = a190 at r191 ⊢
        generalize wd.alloc (.cells [.int .i64 1, .int .i64 2, .int .i64 3, .int .i64 4, .int .i64 5].toArray 2) = u189 at g193 r191 hm192 r194 ⊢
        refine hK _ _ (fun _ => ⟨Gr.cell hm192.below k1, Gr.cell hm192.below k2, Gr.cell hm192.below k3, Gr.cell hm192.below k4, Gr.cell hm192.below k5, Gr.cell hm192.below k6, Gr.cell hm192.below k7⟩) ?_
        clear hK K
        try simp only [Act.put, List.setIfInBounds_toArray, List.set_cons_zero, List.set_cons_succ]
        refine wpAnyU_one 3 (by kernel_rfl) rfl (fun K hK => ?_)
        refine step_call rfl 8 Tryz.f8 Tryz.func8 (by kernel_rfl) (by kernel_rfl) _ _ rfl #[.slice (some ⟨a190, 0, none⟩) 5 5] (by simp [Act.eval]) ?_
        refine (ints_ok u189 (some ⟨a190, 0, none⟩) 5 5 [1, 2, 3, 4, 5] ⟨r191⟩ (by omega)).mono ?_
        rintro e u195 ⟨A196, c197, rfl, hn198⟩
        have g201 := hn198.gr
        have r199 : RdC u195 2 (.slice A196 5 c197) (fV (iv [1, 2, 3, 4, 5])) := hn198.ok.rd
        have hm200 := hm192.gr g201
        have r202 := r194.gr g201
        have r203 := r191.gr g201
        refine ⟨_, rfl, hK _ _ (fun _ => ⟨Gr.cell hm200.below k1, Gr.cell hm200.below k2, Gr.cell hm200.below k3, Gr.cell hm200.below k4, Gr.cell hm200.below k5, Gr.cell hm200.below k6, Gr.cell hm200.below k7⟩) ?_⟩
        clear hK K
        try simp only [Act.put, List.setIfInBounds_toArray, List.set_cons_zero, List.set_cons_succ]
        refine wpAnyU_take 4 (v := ?vv94) rfl (by kernel_rfl) (by kernel_rfl) (fun _ _ _ h => h) ⟨Gr.cell hm200.below k1, Gr.cell hm200.below k2, Gr.cell hm200.below k3, Gr.cell hm200.below k4, Gr.cell hm200.below k5, Gr.cell hm200.below k6, Gr.cell hm200.below k7⟩ (Or.inl ⟨rfl, ?yv94⟩) ?rv94
        case yv94 =>
          intro W hW
          obtain ⟨hW0, hW1, hW2, hW3, hW4, hW5, hW6⟩ := hW
          go_simp
          try with_reducible rfl
        try simp only [Act.put, List.setIfInBounds_toArray, List.set_cons_zero, List.set_cons_succ]
        refine wpAnyU_one 5 (by kernel_rfl) rfl (fun K hK => ?_)
        go_simp
        have g207 := Gr.alloc (Gr.refl u195) (.cells [.int .i64 0, .int .i64 3, .slice AF 1 eF, .int .i64 1, .int .i64 2, .slice A196 5 c197].toArray 30)
        have r209 := r202.gr g207
        have r210 := r203.gr g207
        have r211 := r199.gr g207
        have hf208 : FrsOk 8 (u195.alloc (.cells [.int .i64 0, .int .i64 3, .slice AF 1 eF, .int .i64 1, .int .i64 2, .slice A196 5 c197].toArray 30)) (some ⟨u195.heap.size, 0, none⟩) 2 2 [⟨0, 3, AF, 1, eF, iv [1]⟩, ⟨1, 2, A196, 5, c197, iv [1, 2, 3, 4, 5]⟩] := frs2 (RdC.lit _ (fR [⟨0, 3, AF, 1, eF, iv [1]⟩, ⟨1, 2, A196, 5, c197, iv [1, 2, 3, 4, 5]⟩]) _ 2 3 rfl (by simp [maxLen]) (fR_one _)) ⟨r209, (by decide : 1 ≤ 8)⟩ ⟨r211, (by decide : 5 ≤ 8)⟩
        have hm206 := hm200.gr g207
        generalize u195.heap.size = a205 at hf208 ⊢
        generalize u195.alloc (.cells [.int .i64 0, .int .i64 3, .slice AF 1 eF, .int .i64 1, .int .i64 2, .slice A196 5 c197].toArray 30) = u204 at g207 hm206 hf208 r209 r210 r211 ⊢
        refine hK _ _ (fun _ => ⟨Gr.cell hm206.below k1, Gr.cell hm206.below k2, Gr.cell hm206.below k3, Gr.cell hm206.below k4, Gr.cell hm206.below k5, Gr.cell hm206.below k6, Gr.cell hm206.below k7⟩) ?_
        clear hK K
        try simp only [Act.put, List.setIfInBounds_toArray, List.set_cons_zero, List.set_cons_succ]
        refine wpAnyU_one 7 (by kernel_rfl) rfl (fun K hK => ?_)
        refine step_call rfl 10 Tryz.f10 Tryz.func10 (by kernel_rfl) (by kernel_rfl) _ _ rfl #[.agg #[.slice none 0 0, .slice (some ⟨gf, 0, none⟩) 2 2], .slice (some ⟨a205, 0, none⟩) 2 2, .agg #[.int .i64 2, .int .i64 77]] (by simp [Act.eval]) ?_
        have hE213 := catch_ok u204 (kP gh gf) ⟨hpg.out.gr (Gr.trans hB1.out (Gr.trans hgw.out hm206.below))⟩ 8 (some ⟨a205, 0, none⟩) 2 2 [⟨0, 3, AF, 1, eF, iv [1]⟩, ⟨1, 2, A196, 5, c197, iv [1, 2, 3, 4, 5]⟩] ⟨hf208⟩ (2, 77) (by omega) (by omega)
        have hQ214 : catchD (kP gh gf) (2, 77) (List.map Fr.data [⟨0, 3, AF, 1, eF, iv [1]⟩, ⟨1, 2, A196, 5, c197, iv [1, 2, 3, 4, 5]⟩]) 2 = some [(0, 3, iv [1]), (1, 7, iv [1, 2, 3, 4, 77])] := by rfl
        rw [hQ214] at hE213
        refine hE213.mono ?_
        rintro e u212 ⟨A215, n216, c217, zs218, rfl, hz219, hd221, hn220⟩
        have g223 := hz219.below
        have hm222 := hm206.gr g223
        have hf224 := frs_of hz219 hn220
        have r225 := r209.gr g223
        have r226 := r210.gr g223
        have r227 := r211.gr g223
        have r228 := hf208.gr g223
        refine ⟨_, rfl, hK _ _ (fun _ => ⟨Gr.cell hm222.below k1, Gr.cell hm222.below k2, Gr.cell hm222.below k3, Gr.cell hm222.below k4, Gr.cell hm222.below k5, Gr.cell hm222.below k6, Gr.cell hm222.below k7⟩) ?_⟩
        clear hK K
        try simp only [Act.put, List.setIfInBounds_toArray, List.set_cons_zero, List.set_cons_succ]
        refine wpAnyU_take 8 (v := ?vv95) rfl (by kernel_rfl) (by kernel_rfl) (fun _ _ _ h => h) ⟨Gr.cell hm222.below k1, Gr.cell hm222.below k2, Gr.cell hm222.below k3, Gr.cell hm222.below k4, Gr.cell hm222.below k5, Gr.cell hm222.below k6, Gr.cell hm222.below k7⟩ (Or.inl ⟨rfl, ?yv95⟩) ?rv95
        case yv95 =>
          intro W hW
          obtain ⟨hW0, hW1, hW2, hW3, hW4, hW5, hW6⟩ := hW
          go_simp
          try with_reducible rfl
        try simp only [Act.put, List.setIfInBounds_toArray, List.set_cons_zero, List.set_cons_succ]
        refine wpAnyU_take 9 (v := ?vv96) rfl (by kernel_rfl) (by kernel_rfl) (fun _ _ _ h => h) ⟨Gr.cell hm222.below k1, Gr.cell hm222.below k2, Gr.cell hm222.below k3, Gr.cell hm222.below k4, Gr.cell hm222.below k5, Gr.cell hm222.below k6, Gr.cell hm222.below k7⟩ (Or.inl ⟨rfl, ?yv96⟩) ?rv96
        case yv96 =>
          intro W hW
          obtain ⟨hW0, hW1, hW2, hW3, hW4, hW5, hW6⟩ := hW
          go_simp
          try with_reducible rfl
        try simp only [Act.put, List.setIfInBounds_toArray, List.set_cons_zero, List.set_cons_succ]
        refine wpAnyU_take 10 (v := ?vv97) rfl (by kernel_rfl) (by kernel_rfl) (fun _ _ _ h => h) ⟨Gr.cell hm222.below k1, Gr.cell hm222.below k2, Gr.cell hm222.below k3, Gr.cell hm222.below k4, Gr.cell hm222.below k5, Gr.cell hm222.below k6, Gr.cell hm222.below k7⟩ (Or.inl ⟨rfl, ?yv97⟩) ?rv97
        case yv97 =>
          intro W hW
          obtain ⟨hW0, hW1, hW2, hW3, hW4, hW5, hW6⟩ := hW
          go_simp
          try with_reducible rfl
        try simp only [Act.put, List.setIfInBounds_toArray, List.set_cons_zero, List.set_cons_succ]
        refine wpAnyU_take 11 (v := ?vv98) rfl (by kernel_rfl) (by kernel_rfl) (fun _ _ _ h => h) ⟨Gr.cell hm222.below k1, Gr.cell hm222.below k2, Gr.cell hm222.below k3, Gr.cell hm222.below k4, Gr.cell hm222.below k5, Gr.cell hm222.below k6, Gr.cell hm222.below k7⟩ (Or.inl ⟨rfl, ?yv98⟩) ?rv98
        case yv98 =>
          intro W hW
          obtain ⟨hW0, hW1, hW2, hW3, hW4, hW5, hW6⟩ := hW
          go_simp
          try with_reducible rfl
        try simp only [Act.put, List.setIfInBounds_toArray, List.set_cons_zero, List.set_cons_succ]
        refine wpAnyU_one 12 (by kernel_rfl) rfl (fun K hK => ?_)
        go_simp
        refine hK _ _ (fun h => absurd h (by decide)) ?_
        clear hK K
        refine wpAnyU_done (by kernel_rfl) ?_ _
        go_wp2
        try simp only [Act.put, List.getElem_toArray, List.getElem_cons_succ, List.getElem_cons_zero, List.setIfInBounds_toArray, List.set_cons_succ, List.set_cons_zero]
        go_meet
        case rel => exact ⟨_, _, _, _, rfl, rfl, hm222.below, hf224, hd221, by have := hf224.len; have := congrArg List.length hd221; simp at *; omega⟩
      case rest =>
        obtain ⟨wq, rfl⟩ : ∃ wq : World, wq = wc := ⟨_, rfl⟩
        obtain ⟨B9, n9, e9, zs, rfl, rfl, hg9, hf9, hd9, hn9⟩ := hcut
        have hf9 := Fact.mk hf9
        have hgw := Fact.mk (Gr.trans hgw.out hg9)
        have hr8 := Fact.mk (hr8.out.gr hg9)
        have k1 := Gr.cell hg9 k1
        have k2 := Gr.cell hg9 k2
        have k3 := Gr.cell hg9 k3
        have k4 := Gr.cell hg9 k4
        have k5 := Gr.cell hg9 k5
        have k6 := Gr.cell hg9 k6
        have k7 := Gr.cell hg9 k7
        clear hg9
        go_upto_region 10 with (fail)
        go_cut [11] (fun s11 W => ∃ (A9 : Option Addr) (zs : List Fr), s11 = .slice A9 2 2 ∧ Gr wq W ∧ FrsOk 8 W A9 2 2 zs ∧ zs.map Fr.data = [(0, 3, iv [1]), (1, 7, iv [1, 2, 3, 4, 77])])
        case first =>
          have hmS := (Mem.start wq).drew
          have hrS := hr8.out.gr (Gr.refl wq).drew
          refine wp_region_until (S := fun W => W.cell? ⟨g8, 0, none⟩ = some (.int .i64 0) ∧ W.cell? ⟨g8, 1, none⟩ = some (.int .i64 3) ∧ W.cell? ⟨g8, 2, none⟩ = some (.slice AF 1 eF)) 5 (by kernel_rfl) ?_
          generalize wq.drew = wd at hmS hrS ⊢
          refine wpAnyU_take 0 (v := ?vv101) rfl (by kernel_rfl) (by kernel_rfl) (fun _ _ _ h => h) ⟨Gr.cell hmS.below k3, Gr.cell hmS.below k4, Gr.cell hmS.below k5⟩ (Or.inl ⟨rfl, ?yv101⟩) ?rv101
          case yv101 =>
            intro W hW
            obtain ⟨hW0, hW1, hW2⟩ := hW
            go_simp
            try with_reducible rfl
          try simp only [Act.put, List.setIfInBounds_toArray, List.set_cons_zero, List.set_cons_succ]
          refine wpAnyU_one 1 (by kernel_rfl) rfl (fun K hK => ?_)
          go_simp
          have g233 := Gr.alloc (Gr.refl wd) (.cells [.int .i64 1, .int .i64 2, .int .i64 3, .int .i64 4, .int .i64 77].toArray 2)
          have r234 := hrS.gr g233
          have r231 : RdC (wd.alloc (.cells [.int .i64 1, .int .i64 2, .int .i64 3, .int .i64 4, .int .i64 77].toArray 2)) 1 (.slice (some ⟨wd.heap.size, 0, none⟩) 5 5) (nums .i64 [1, 2, 3, 4, 77]) := RdC.lit _ (nums .i64 [1, 2, 3, 4, 77]) _ 5 1 rfl (by simp [maxLen]) (One.nums _ _)
          have hm232 := hmS.gr g233
          generalize wd.heap.size = a230 at r231 ⊢
          generalize wd.alloc (.cells [.int .i64 1, .int .i64 2, .int .i64 3, .int .i64 4, .int .i64 77].toArray 2) = u229 at g233 r231 hm232 r234 ⊢
          refine hK _ _ (fun _ => ⟨Gr.cell hm232.below k3, Gr.cell hm232.below k4, Gr.cell hm232.below k5⟩) ?_
          clear hK K
          try simp only [Act.put, List.setIfInBounds_toArray, List.set_cons_zero, List.set_cons_succ]
          refine wpAnyU_one 2 (by kernel_rfl) rfl (fun K hK => ?_)
          refine step_call rfl 8 Tryz.f8 Tryz.func8 (by kernel_rfl) (by kernel_rfl) _ _ rfl #[.slice (some ⟨a230, 0, none⟩) 5 5] (by simp [Act.eval]) ?_
          refine (ints_ok u229 (some ⟨a230, 0, none⟩) 5 5 [1, 2, 3, 4, 77] ⟨r231⟩ (by omega)).mono ?_
          rintro e u235 ⟨A236, c237, rfl, hn238⟩
          have g241 := hn238.gr
          have r239 : RdC u235 2 (.slice A236 5 c237) (fV (iv [1, 2, 3, 4, 77])) := hn238.ok.rd
          have hm240 := hm232.gr g241
          have r242 := r234.gr g241
          have r243 := r231.gr g241
          refine ⟨_, rfl, hK _ _ (fun _ => ⟨Gr.cell hm240.below k3, Gr.cell hm240.below k4, Gr.cell hm240.below k5⟩) ?_⟩
          clear hK K
          try simp only [Act.put, List.setIfInBounds_toArray, List.set_cons_zero, List.set_cons_succ]
          refine wpAnyU_take 3 (v := ?vv102) rfl (by kernel_rfl) (by kernel_rfl) (fun _ _ _ h => h) ⟨Gr.cell hm240.below k3, Gr.cell hm240.below k4, Gr.cell hm240.below k5⟩ (Or.inl ⟨rfl, ?yv102⟩) ?rv102
          case yv102 =>
            intro W hW
            obtain ⟨hW0, hW1, hW2⟩ := hW
            go_simp
            try with_reducible rfl
          try simp only [Act.put, List.setIfInBounds_toArray, List.set_cons_zero, List.set_cons_succ]
          refine wpAnyU_one 4 (by kernel_rfl) rfl (fun K hK => ?_)
          go_simp
          have g247 := Gr.alloc (Gr.refl u235) (.cells [.int .i64 0, .int .i64 3, .slice AF 1 eF, .int .i64 1, .int .i64 7, .slice A236 5 c237].toArray 30)
          have r249 := r242.gr g247
          have r250 := r243.gr g247
          have r251 := r239.gr g247
          have hf248 : FrsOk 8 (u235.alloc (.cells [.int .i64 0, .int .i64 3, .slice AF 1 eF, .int .i64 1, .int .i64 7, .slice A236 5 c237].toArray 30)) (some ⟨u235.heap.size, 0, none⟩) 2 2 [⟨0, 3, AF, 1, eF, iv [1]⟩, ⟨1, 7, A236, 5, c237, iv [1, 2, 3, 4, 77]⟩] := frs2 (RdC.lit _ (fR [⟨0, 3, AF, 1, eF, iv [1]⟩, ⟨1, 7, A236, 5, c237, iv [1, 2, 3, 4, 77]⟩]) _ 2 3 rfl (by simp [maxLen]) (fR_one _)) ⟨r249, (by decide : 1 ≤ 8)⟩ ⟨r251, (by decide : 5 ≤ 8)⟩
          have hm246 := hm240.gr g247
          generalize u235.heap.size = a245 at hf248 ⊢
          generalize u235.alloc (.cells [.int .i64 0, .int .i64 3, .slice AF 1 eF, .int .i64 1, .int .i64 7, .slice A236 5 c237].toArray 30) = u244 at g247 hm246 hf248 r249 r250 r251 ⊢
          refine hK _ _ (fun _ => ⟨Gr.cell hm246.below k3, Gr.cell hm246.below k4, Gr.cell hm246.below k5⟩) ?_
          clear hK K
          try simp only [Act.put, List.setIfInBounds_toArray, List.set_cons_zero, List.set_cons_succ]
          refine wpAnyU_one 5 (by kernel_rfl) rfl (fun K hK => ?_)
          go_simp
          refine hK _ _ (fun h => absurd h (by decide)) ?_
          clear hK K
          refine wpAnyU_done (by kernel_rfl) ?_ _
          go_wp2
          try simp only [Act.put, List.getElem_toArray, List.getElem_cons_succ, List.getElem_cons_zero, List.setIfInBounds_toArray, List.set_cons_succ, List.set_cons_zero]
          go_meet
          case rel => exact ⟨_, _, rfl, hm246.below, hf248, rfl⟩
        case rest =>
          obtain ⟨ws, rfl⟩ : ∃ ws : World, ws = wc := ⟨_, rfl⟩
          obtain ⟨B11, zt, rfl, hg9, hf11, hd11⟩ := hcut
          have hf9 := Fact.mk (hf9.out.gr hg9)
          have hgw := Fact.mk (Gr.trans hgw.out hg9)
          have hr8 := Fact.mk (hr8.out.gr hg9)
          have k1 := Gr.cell hg9 k1
          have k2 := Gr.cell hg9 k2
          have k3 := Gr.cell hg9 k3
          have k4 := Gr.cell hg9 k4
          have k5 := Gr.cell hg9 k5
          have k6 := Gr.cell hg9 k6
          have k7 := Gr.cell hg9 k7
          clear hg9
          obtain rfl : n9 = 2 := by have h1 := hf9.out.len; have h2 := congrArg List.length hd9; simp at h2; omega
          go_wp2_with fail
          refine (sameFrames_ok ws B9 B11 9 2 e9 2 zs zt hf9 ⟨⟨hf11.rd, fun f hf => ⟨(hf11.each f hf).1, Nat.le_succ_of_le (hf11.each f hf).2⟩⟩⟩ ⟨hd9.trans hd11.symm⟩ (by omega) (by omega)).mono ?_
          rintro e wt ⟨rfl, hg9⟩
          have hgw := Fact.mk (Gr.trans hgw.out hg9)
          have hr8 := Fact.mk (hr8.out.gr hg9)
          have k1 := Gr.cell hg9 k1
          have k2 := Gr.cell hg9 k2
          have k3 := Gr.cell hg9 k3
          have k4 := Gr.cell hg9 k4
          have k5 := Gr.cell hg9 k5
          have k6 := Gr.cell hg9 k6
          have k7 := Gr.cell hg9 k7
          clear hg9
          go_upto_region 13 with (fail)
          go_cut [9, 10] (fun s9 s10 W => ∃ (A9 : Option Addr) (n9 e9 : Nat) (zs : List Fr), s9 = .slice A9 n9 e9 ∧ s10 = .bool true ∧ Gr wt W ∧ FrsOk 9 W A9 n9 e9 zs ∧ zs.map Fr.data = [(0, 3, iv [1]), (1, 9, iv [1, 2, 3, 77])] ∧ n9 ≤ 4)
          case first =>
            have hmS := (Mem.start wt).drew
            have hrS := hr8.out.gr (Gr.refl wt).drew
            refine wp_region_until (S := fun W => W.cell? ⟨g1, 0, none⟩ = some (.slice none 0 0) ∧ W.cell? ⟨g1, 1, none⟩ = some (.slice (some ⟨gf, 0, none⟩) 2 2) ∧ W.cell? ⟨g8, 0, none⟩ = some (.int .i64 0) ∧ W.cell? ⟨g8, 1, none⟩ = some (.int .i64 3) ∧ W.cell? ⟨g8, 2, none⟩ = some (.slice AF 1 eF) ∧ W.cell? ⟨g7, 0, none⟩ = some (.int .i64 2) ∧ W.cell? ⟨g7, 1, none⟩ = some (.int .i64 77)) 12 (by kernel_rfl) ?_
            generalize wt.drew = wd at hmS hrS ⊢
            refine wpAnyU_take 0 (v := ?vv131) rfl (by kernel_rfl) (by kernel_rfl) (fun _ _ _ h => h) ⟨Gr.cell hmS.below k1, Gr.cell hmS.below k2, Gr.cell hmS.below k3, Gr.cell hmS.below k4, Gr.cell hmS.below k5, Gr.cell hmS.below k6, Gr.cell hmS.below k7⟩ (Or.inl ⟨rfl, ?yv131⟩) ?rv131
            case yv131 =>
              intro W hW
              obtain ⟨hW0, hW1, hW2, hW3, hW4, hW5, hW6⟩ := hW
              go_simp
              try with_reducible rfl
            try simp only [Act.put, List.setIfInBounds_toArray, List.set_cons_zero, List.set_cons_succ]
            refine wpAnyU_take 1 (v := ?vv132) rfl (by kernel_rfl) (by kernel_rfl) (fun _ _ _ h => h) ⟨Gr.cell hmS.below k1, Gr.cell hmS.below k2, Gr.cell hmS.below k3, Gr.cell hmS.below k4, Gr.cell hmS.below k5, Gr.cell hmS.below k6, Gr.cell hmS.below k7⟩ (Or.inl ⟨rfl, ?yv132⟩) ?rv132
            case yv132 =>
              intro W hW
              obtain ⟨hW0, hW1, hW2, hW3, hW4, hW5, hW6⟩ := hW
              go_simp
              try with_reducible rfl
            try simp only [Act.put, List.setIfInBounds_toArray, List.set_cons_zero, List.set_cons_succ]
            refine wpAnyU_take 6 (v := ?vv133) rfl (by kernel_rfl) (by kernel_rfl) (fun _ _ _ h => h) ⟨Gr.cell hmS.below k1, Gr.cell hmS.below k2, Gr.cell hmS.below k3, Gr.cell hmS.below k4, Gr.cell hmS.below k5, Gr.cell hmS.below k6, Gr.cell hmS.below k7⟩ (Or.inl ⟨rfl, ?yv133⟩) ?rv133
            case yv133 =>
              intro W hW
              obtain ⟨hW0, hW1, hW2, hW3, hW4, hW5, hW6⟩ := hW
              go_simp
              try with_reducible rfl
            try simp only [Act.put, List.setIfInBounds_toArray, List.set_cons_zero, List.set_cons_succ]
            refine wpAnyU_one 2 (by kernel_rfl) rfl (fun K hK => ?_)
            go_simp
            have g256 := Gr.alloc (Gr.refl wd) (.cells [.int .i64 1, .int .i64 2, .int .i64 3].toArray 2)
            have r257 := hrS.gr g256
            have r254 : RdC (wd.alloc (.cells [.int .i64 1, .int .i64 2, .int .i64 3].toArray 2)) 1 (.slice (some ⟨wd.heap.size, 0, none⟩) 3 3) (nums .i64 [1, 2, 3]) := RdC.lit _ (nums .i64 [1, 2, 3]) _ 3 1 rfl (by simp [maxLen]) (One.nums _ _)
            have hm255 := hmS.gr g256
            generalize wd.heap.size = a253 at r254 ⊢
            generalize wd.alloc (.cells [.int .i64 1, .int .i64 2, .int .i64 3].toArray 2) = u252 at g256 r254 hm255 r257 ⊢
            refine hK _ _ (fun _ => ⟨Gr.cell hm255.below k1, Gr.cell hm255.below k2, Gr.cell hm255.below k3, Gr.cell hm255.below k4, Gr.cell hm255.below k5, Gr.cell hm255.below k6, Gr.cell hm255.below k7⟩) ?_
            clear hK K
            try simp only [Act.put, List.setIfInBounds_toArray, List.set_cons_zero, List.set_cons_succ]
            refine wpAnyU_one 3 (by kernel_rfl) rfl (fun K hK => ?_)
            refine step_call rfl 8 Tryz.f8 Tryz.func8 (by kernel_rfl) (by kernel_rfl) _ _ rfl #[.slice (some ⟨a253, 0, none⟩) 3 3] (by simp [Act.eval]) ?_
            refine (ints_ok u252 (some ⟨a253, 0, none⟩) 3 3 [1, 2, 3] ⟨r254⟩ (by omega)).mono ?_
            rintro e u258 ⟨A259, c260, rfl, hn261⟩
            have g264 := hn261.gr
            have r262 : RdC u258 2 (.slice A259 3 c260) (fV (iv [1, 2, 3])) := hn261.ok.rd
            have hm263 := hm255.gr g264
            have r265 := r257.gr g264
            have r266 := r254.gr g264
            refine ⟨_, rfl, hK _ _ (fun _ => ⟨Gr.cell hm263.below k1, Gr.cell hm263.below k2, Gr.cell hm263.below k3, Gr.cell hm263.below k4, Gr.cell hm263.below k5, Gr.cell hm263.below k6, Gr.cell hm263.below k7⟩) ?_⟩
            clear hK K
            try simp only [Act.put, List.setIfInBounds_toArray, List.set_cons_zero, List.set_cons_succ]
            refine wpAnyU_take 4 (v := ?vv134) rfl (by kernel_rfl) (by kernel_rfl) (fun _ _ _ h => h) ⟨Gr.cell hm263.below k1, Gr.cell hm263.below k2, Gr.cell hm263.below k3, Gr.cell hm263.below k4, Gr.cell hm263.below k5, Gr.cell hm263.below k6, Gr.cell hm263.below k7⟩ (Or.inl ⟨rfl, ?yv134⟩) ?rv134
            case yv134 =>
              intro W hW
              obtain ⟨hW0, hW1, hW2, hW3, hW4, hW5, hW6⟩ := hW
              go_simp
              try with_reducible rfl
            try simp only [Act.put, List.setIfInBounds_toArray, List.set_cons_zero, List.set_cons_succ]
            refine wpAnyU_one 5 (by kernel_rfl) rfl (fun K hK => ?_)
            go_simp
            have g270 := Gr.alloc (Gr.refl u258) (.cells [.int .i64 0, .int .i64 3, .slice AF 1 eF, .int .i64 1, .int .i64 2, .slice A259 3 c260].toArray 30)
            have r272 := r265.gr g270
            have r273 := r266.gr g270
            have r274 := r262.gr g270
            have hf271 : FrsOk 8 (u258.alloc (.cells [.int .i64 0, .int .i64 3, .slice AF 1 eF, .int .i64 1, .int .i64 2, .slice A259 3 c260].toArray 30)) (some ⟨u258.heap.size, 0, none⟩) 2 2 [⟨0, 3, AF, 1, eF, iv [1]⟩, ⟨1, 2, A259, 3, c260, iv [1, 2, 3]⟩] := frs2 (RdC.lit _ (fR [⟨0, 3, AF, 1, eF, iv [1]⟩, ⟨1, 2, A259, 3, c260, iv [1, 2, 3]⟩]) _ 2 3 rfl (by simp [maxLen]) (fR_one _)) ⟨r272, (by decide : 1 ≤ 8)⟩ ⟨r274, (by decide : 3 ≤ 8)⟩
            have hm269 := hm263.gr g270
            generalize u258.heap.size = a268 at hf271 ⊢
            generalize u258.alloc (.cells [.int .i64 0, .int .i64 3, .slice AF 1 eF, .int .i64 1, .int .i64 2, .slice A259 3 c260].toArray 30) = u267 at g270 hm269 hf271 r272 r273 r274 ⊢
            refine hK _ _ (fun _ => ⟨Gr.cell hm269.below k1, Gr.cell hm269.below k2, Gr.cell hm269.below k3, Gr.cell hm269.below k4, Gr.cell hm269.below k5, Gr.cell hm269.below k6, Gr.cell hm269.below k7⟩) ?_
            clear hK K
            try simp only [Act.put, List.setIfInBounds_toArray, List.set_cons_zero, List.set_cons_succ]
            refine wpAnyU_one 7 (by kernel_rfl) rfl (fun K hK => ?_)
            refine step_call rfl 10 Tryz.f10 Tryz.func10 (by kernel_rfl) (by kernel_rfl) _ _ rfl #[.agg #[.slice none 0 0, .slice (some ⟨gf, 0, none⟩) 2 2], .slice (some ⟨a268, 0, none⟩) 2 2, .agg #[.int .i64 2, .int .i64 77]] (by simp [Act.eval]) ?_
            have hE276 := catch_ok u267 (kP gh gf) ⟨hpg.out.gr (Gr.trans hB1.out (Gr.trans hgw.out hm269.below))⟩ 8 (some ⟨a268, 0, none⟩) 2 2 [⟨0, 3, AF, 1, eF, iv [1]⟩, ⟨1, 2, A259, 3, c260, iv [1, 2, 3]⟩] ⟨hf271⟩ (2, 77) (by omega) (by omega)
            have hQ277 : catchD (kP gh gf) (2, 77) (List.map Fr.data [⟨0, 3, AF, 1, eF, iv [1]⟩, ⟨1, 2, A259, 3, c260, iv [1, 2, 3]⟩]) 2 = some [(0, 3, iv [1]), (1, 9, iv [1, 2, 3, 77])] := by rfl
            rw [hQ277] at hE276
            refine hE276.mono ?_
            rintro e u275 ⟨A278, n279, c280, zs281, rfl, hz282, hd284, hn283⟩
            have g286 := hz282.below
            have hm285 := hm269.gr g286
            have hf287 := frs_of hz282 hn283
            have r288 := r272.gr g286
            have r289 := r273.gr g286
            have r290 := r274.gr g286
            have r291 := hf271.gr g286
            refine ⟨_, rfl, hK _ _ (fun _ => ⟨Gr.cell hm285.below k1, Gr.cell hm285.below k2, Gr.cell hm285.below k3, Gr.cell hm285.below k4, Gr.cell hm285.below k5, Gr.cell hm285.below k6, Gr.cell hm285.below k7⟩) ?_⟩
            clear hK K
            try simp only [Act.put, List.setIfInBounds_toArray, List.set_cons_zero, List.set_cons_succ]
            refine wpAnyU_take 8 (v := ?vv135) rfl (by kernel_rfl) (by kernel_rfl) (fun _ _ _ h => h) ⟨Gr.cell hm285.below k1, Gr.cell hm285.below k2, Gr.cell hm285.below k3, Gr.cell hm285.below k4, Gr.cell hm285.below k5, Gr.cell hm285.below k6, Gr.cell hm285.below k7⟩ (Or.inl ⟨rfl, ?yv135⟩) ?rv135
            case yv135 =>
              intro W hW
              obtain ⟨hW0, hW1, hW2, hW3, hW4, hW5, hW6⟩ := hW
              go_simp
              try with_reducible rfl
            try simp only [Act.put, List.setIfInBounds_toArray, List.set_cons_zero, List.set_cons_succ]
            refine wpAnyU_take 9 (v := ?vv136) rfl (by kernel_rfl) (by kernel_rfl) (fun _ _ _ h => h) ⟨Gr.cell hm285.below k1, Gr.cell hm285.below k2, Gr.cell hm285.below k3, Gr.cell hm285.below k4, Gr.cell hm285.below k5, Gr.cell hm285.below k6, Gr.cell hm285.below k7⟩ (Or.inl ⟨rfl, ?yv136⟩) ?rv136
            case yv136 =>
              intro W hW
              obtain ⟨hW0, hW1, hW2, hW3, hW4, hW5, hW6⟩ := hW
              go_simp
              try with_reducible rfl
            try simp only [Act.put, List.setIfInBounds_toArray, List.set_cons_zero, List.set_cons_succ]
            refine wpAnyU_take 10 (v := ?vv137) rfl (by kernel_rfl) (by kernel_rfl) (fun _ _ _ h => h) ⟨Gr.cell hm285.below k1, Gr.cell hm285.below k2, Gr.cell hm285.below k3, Gr.cell hm285.below k4, Gr.cell hm285.below k5, Gr.cell hm285.below k6, Gr.cell hm285.below k7⟩ (Or.inl ⟨rfl, ?yv137⟩) ?rv137
            case yv137 =>
              intro W hW
              obtain ⟨hW0, hW1, hW2, hW3, hW4, hW5, hW6⟩ := hW
              go_simp
              try with_reducible rfl
            try simp only [Act.put, List.setIfInBounds_toArray, List.set_cons_zero, List.set_cons_succ]
            refine wpAnyU_take 11 (v := ?vv138) rfl (by kernel_rfl) (by kernel_rfl) (fun _ _ _ h => h) ⟨Gr.cell hm285.below k1, Gr.cell hm285.below k2, Gr.cell hm285.below k3, Gr.cell hm285.below k4, Gr.cell hm285.below k5, Gr.cell hm285.below k6, Gr.cell hm285.below k7⟩ (Or.inl ⟨rfl, ?yv138⟩) ?rv138
            case yv138 =>
              intro W hW
              obtain ⟨hW0, hW1, hW2, hW3, hW4, hW5, hW6⟩ := hW
              go_simp
              try with_reducible rfl
            try simp only [Act.put, List.setIfInBounds_toArray, List.set_cons_zero, List.set_cons_succ]
            refine wpAnyU_one 12 (by kernel_rfl) rfl (fun K hK => ?_)
            go_simp
            refine hK _ _ (fun h => absurd h (by decide)) ?_
            clear hK K
            refine wpAnyU_done (by kernel_rfl) ?_ _
            go_wp2
            try simp only [Act.put, List.getElem_toArray, List.getElem_cons_succ, List.getElem_cons_zero, List.setIfInBounds_toArray, List.set_cons_succ, List.set_cons_zero]
            go_meet
            case rel => exact ⟨_, _, _, _, rfl, rfl, hm285.below, hf287, hd284, by have := hf287.len; have := congrArg List.length hd284; simp at *; omega⟩
          case rest =>
            obtain ⟨wu, rfl⟩ : ∃ wu : World, wu = wc := ⟨_, rfl⟩
            obtain ⟨C9, m9, f9, zu, rfl, rfl, hg9, hf9, hd9, hn9⟩ := hcut
            have hf9 := Fact.mk hf9
            have hgw := Fact.mk (Gr.trans hgw.out hg9)
            have hr8 := Fact.mk (hr8.out.gr hg9)
            have k1 := Gr.cell hg9 k1
            have k2 := Gr.cell hg9 k2
            have k3 := Gr.cell hg9 k3
            have k4 := Gr.cell hg9 k4
            have k5 := Gr.cell hg9 k5
            have k6 := Gr.cell hg9 k6
            have k7 := Gr.cell hg9 k7
            clear hg9
            go_upto_region 14 with (fail)
            go_cut [12] (fun s12 W => ∃ (A9 : Option Addr) (zs : List Fr), s12 = .slice A9 2 2 ∧ Gr wu W ∧ FrsOk 8 W A9 2 2 zs ∧ zs.map Fr.data = [(0, 3, iv [1]), (1, 9, iv [1, 2, 3, 77])])
            case first =>
              have hmS := (Mem.start wu).drew
              have hrS := hr8.out.gr (Gr.refl wu).drew
              refine wp_region_until (S := fun W => W.cell? ⟨g8, 0, none⟩ = some (.int .i64 0) ∧ W.cell? ⟨g8, 1, none⟩ = some (.int .i64 3) ∧ W.cell? ⟨g8, 2, none⟩ = some (.slice AF 1 eF)) 5 (by kernel_rfl) ?_
              generalize wu.drew = wd at hmS hrS ⊢
              refine wpAnyU_take 0 (v := ?vv141) rfl (by kernel_rfl) (by kernel_rfl) (fun _ _ _ h => h) ⟨Gr.cell hmS.below k3, Gr.cell hmS.below k4, Gr.cell hmS.below k5⟩ (Or.inl ⟨rfl, ?yv141⟩) ?rv141
              case yv141 =>
                intro W hW
                obtain ⟨hW0, hW1, hW2⟩ := hW
                go_simp
                try with_reducible rfl
              try simp only [Act.put, List.setIfInBounds_toArray, List.set_cons_zero, List.set_cons_succ]
              refine wpAnyU_one 1 (by kernel_rfl) rfl (fun K hK => ?_)
              go_simp
              have g296 := Gr.alloc (Gr.refl wd) (.cells [.int .i64 1, .int .i64 2, .int .i64 3, .int .i64 77].toArray 2)
              have r297 := hrS.gr g296
              have r294 : RdC (wd.alloc (.cells [.int .i64 1, .int .i64 2, .int .i64 3, .int .i64 77].toArray 2)) 1 (.slice (some ⟨wd.heap.size, 0, none⟩) 4 4) (nums .i64 [1, 2, 3, 77]) := RdC.lit _ (nums .i64 [1, 2, 3, 77]) _ 4 1 rfl (by simp [maxLen]) (One.nums _ _)
              have hm295 := hmS.gr g296
              generalize wd.heap.size = a293 at r294 ⊢
              generalize wd.alloc (.cells [.int .i64 1, .int .i64 2, .int .i64 3, .int .i64 77].toArray 2) = u292 at g296 r294 hm295 r297 ⊢
              refine hK _ _ (fun _ => ⟨Gr.cell hm295.below k3, Gr.cell hm295.below k4, Gr.cell hm295.below k5⟩) ?_
              clear hK K
              try simp only [Act.put, List.setIfInBounds_toArray, List.set_cons_zero, List.set_cons_succ]
              refine wpAnyU_one 2 (by kernel_rfl) rfl (fun K hK => ?_)
              refine step_call rfl 8 Tryz.f8 Tryz.func8 (by kernel_rfl) (by kernel_rfl) _ _ rfl #[.slice (some ⟨a293, 0, none⟩) 4 4] (by simp [Act.eval]) ?_
              refine (ints_ok u292 (some ⟨a293, 0, none⟩) 4 4 [1, 2, 3, 77] ⟨r294⟩ (by omega)).mono ?_
              rintro e u298 ⟨A299, c300, rfl, hn301⟩
              have g304 := hn301.gr
              have r302 : RdC u298 2 (.slice A299 4 c300) (fV (iv [1, 2, 3, 77])) := hn301.ok.rd
              have hm303 := hm295.gr g304
              have r305 := r297.gr g304
              have r306 := r294.gr g304
              refine ⟨_, rfl, hK _ _ (fun _ => ⟨Gr.cell hm303.below k3, Gr.cell hm303.below k4, Gr.cell hm303.below k5⟩) ?_⟩
              clear hK K
              try simp only [Act.put, List.setIfInBounds_toArray, List.set_cons_zero, List.set_cons_succ]
              refine wpAnyU_take 3 (v := ?vv142) rfl (by kernel_rfl) (by kernel_rfl) (fun _ _ _ h => h) ⟨Gr.cell hm303.below k3, Gr.cell hm303.below k4, Gr.cell hm303.below k5⟩ (Or.inl ⟨rfl, ?yv142⟩) ?rv142
              case yv142 =>
                intro W hW
                obtain ⟨hW0, hW1, hW2⟩ := hW
                go_simp
                try with_reducible rfl
              try simp only [Act.put, List.setIfInBounds_toArray, List.set_cons_zero, List.set_cons_succ]
              refine wpAnyU_one 4 (by kernel_rfl) rfl (fun K hK => ?_)
              go_simp
              have g310 := Gr.alloc (Gr.refl u298) (.cells [.int .i64 0, .int .i64 3, .slice AF 1 eF, .int .i64 1, .int .i64 9, .slice A299 4 c300].toArray 30)
              have r312 := r305.gr g310
              have r313 := r306.gr g310
              have r314 := r302.gr g310
              have hf311 : FrsOk 8 (u298.alloc (.cells [.int .i64 0, .int .i64 3, .slice AF 1 eF, .int .i64 1, .int .i64 9, .slice A299 4 c300].toArray 30)) (some ⟨u298.heap.size, 0, none⟩) 2 2 [⟨0, 3, AF, 1, eF, iv [1]⟩, ⟨1, 9, A299, 4, c300, iv [1, 2, 3, 77]⟩] := frs2 (RdC.lit _ (fR [⟨0, 3, AF, 1, eF, iv [1]⟩, ⟨1, 9, A299, 4, c300, iv [1, 2, 3, 77]⟩]) _ 2 3 rfl (by simp [maxLen]) (fR_one _)) ⟨r312, (by decide : 1 ≤ 8)⟩ ⟨r314, (by decide : 4 ≤ 8)⟩
              have hm309 := hm303.gr g310
              generalize u298.heap.size = a308 at hf311 ⊢
              generalize u298.alloc (.cells [.int .i64 0, .int .i64 3, .slice AF 1 eF, .int .i64 1, .int .i64 9, .slice A299 4 c300].toArray 30) = u307 at g310 hm309 hf311 r312 r313 r314 ⊢
              refine hK _ _ (fun _ => ⟨Gr.cell hm309.below k3, Gr.cell hm309.below k4, Gr.cell hm309.below k5⟩) ?_
              clear hK K
              try simp only [Act.put, List.setIfInBounds_toArray, List.set_cons_zero, List.set_cons_succ]
              refine wpAnyU_one 5 (by kernel_rfl) rfl (fun K hK => ?_)
              go_simp
              refine hK _ _ (fun h => absurd h (by decide)) ?_
              clear hK K
              refine wpAnyU_done (by kernel_rfl) ?_ _
              go_wp2
              try simp only [Act.put, List.getElem_toArray, List.getElem_cons_succ, List.getElem_cons_zero, List.setIfInBounds_toArray, List.set_cons_succ, List.set_cons_zero]
              go_meet
              case rel => exact ⟨_, _, rfl, hm309.below, hf311, rfl⟩
            case rest =>
              obtain ⟨wv, rfl⟩ : ∃ wv : World, wv = wc := ⟨_, rfl⟩
              obtain ⟨B12, zv, rfl, hg9, hf12, hd12⟩ := hcut
              have hf9 := Fact.mk (hf9.out.gr hg9)
              have hgw := Fact.mk (Gr.trans hgw.out hg9)
              have hr8 := Fact.mk (hr8.out.gr hg9)
              have k1 := Gr.cell hg9 k1
              have k2 := Gr.cell hg9 k2
              have k3 := Gr.cell hg9 k3
              have k4 := Gr.cell hg9 k4
              have k5 := Gr.cell hg9 k5
              have k6 := Gr.cell hg9 k6
              have k7 := Gr.cell hg9 k7
              clear hg9
              obtain rfl : m9 = 2 := by have h1 := hf9.out.len; have h2 := congrArg List.length hd9; simp at h2; omega
              go_wp2_with fail
              refine (sameFrames_ok wv C9 B12 9 2 f9 2 zu zv hf9 ⟨⟨hf12.rd, fun f hf => ⟨(hf12.each f hf).1, Nat.le_succ_of_le (hf12.each f hf).2⟩⟩⟩ ⟨hd9.trans hd12.symm⟩ (by omega) (by omega)).mono ?_
              rintro e wx ⟨rfl, hg9⟩
              have hgw := Fact.mk (Gr.trans hgw.out hg9)
              have hr8 := Fact.mk (hr8.out.gr hg9)
              have k1 := Gr.cell hg9 k1
              have k2 := Gr.cell hg9 k2
              have k3 := Gr.cell hg9 k3
              have k4 := Gr.cell hg9 k4
              have k5 := Gr.cell hg9 k5
              have k6 := Gr.cell hg9 k6
              have k7 := Gr.cell hg9 k7
              clear hg9
              go_upto_region 17 with (fail)
              go_cut [10] (fun s10 W => s10 = .bool false ∧ Gr wx W)
              case first =>
                have hmS := (Mem.start wx).drew
                have hrS := hr8.out.gr (Gr.refl wx).drew
                refine wp_region_until (S := fun W => W.cell? ⟨g1, 0, none⟩ = some (.slice none 0 0) ∧ W.cell? ⟨g1, 1, none⟩ = some (.slice (some ⟨gf, 0, none⟩) 2 2) ∧ W.cell? ⟨g8, 0, none⟩ = some (.int .i64 0) ∧ W.cell? ⟨g8, 1, none⟩ = some (.int .i64 3) ∧ W.cell? ⟨g8, 2, none⟩ = some (.slice AF 1 eF) ∧ W.cell? ⟨g7, 0, none⟩ = some (.int .i64 2) ∧ W.cell? ⟨g7, 1, none⟩ = some (.int .i64 77)) 11 (by kernel_rfl) ?_
                generalize wx.drew = wd at hmS hrS ⊢
                refine wpAnyU_take 0 (v := ?vv171) rfl (by kernel_rfl) (by kernel_rfl) (fun _ _ _ h => h) ⟨Gr.cell hmS.below k1, Gr.cell hmS.below k2, Gr.cell hmS.below k3, Gr.cell hmS.below k4, Gr.cell hmS.below k5, Gr.cell hmS.below k6, Gr.cell hmS.below k7⟩ (Or.inl ⟨rfl, ?yv171⟩) ?rv171
                case yv171 =>
                  intro W hW
                  obtain ⟨hW0, hW1, hW2, hW3, hW4, hW5, hW6⟩ := hW
                  go_simp
                  try with_reducible rfl
                try simp only [Act.put, List.setIfInBounds_toArray, List.set_cons_zero, List.set_cons_succ]
                refine wpAnyU_take 1 (v := ?vv172) rfl (by kernel_rfl) (by kernel_rfl) (fun _ _ _ h => h) ⟨Gr.cell hmS.below k1, Gr.cell hmS.below k2, Gr.cell hmS.below k3, Gr.cell hmS.below k4, Gr.cell hmS.below k5, Gr.cell hmS.below k6, Gr.cell hmS.below k7⟩ (Or.inl ⟨rfl, ?yv172⟩) ?rv172
                case yv172 =>
                  intro W hW
                  obtain ⟨hW0, hW1, hW2, hW3, hW4, hW5, hW6⟩ := hW
                  go_simp
                  try with_reducible rfl
                try simp only [Act.put, List.setIfInBounds_toArray, List.set_cons_zero, List.set_cons_succ]
                refine wpAnyU_take 6 (v := ?vv173) rfl (by kernel_rfl) (by kernel_rfl) (fun _ _ _ h => h) ⟨Gr.cell hmS.below k1, Gr.cell hmS.below k2, Gr.cell hmS.below k3, Gr.cell hmS.below k4, Gr.cell hmS.below k5, Gr.cell hmS.below k6, Gr.cell hmS.below k7⟩ (Or.inl ⟨rfl, ?yv173⟩) ?rv173
                case yv173 =>
                  intro W hW
                  obtain ⟨hW0, hW1, hW2, hW3, hW4, hW5, hW6⟩ := hW
                  go_simp
                  try with_reducible rfl
                try simp only [Act.put, List.setIfInBounds_toArray, List.set_cons_zero, List.set_cons_succ]
                refine wpAnyU_one 2 (by kernel_rfl) rfl (fun K hK => ?_)
                go_simp
                have g319 := Gr.alloc (Gr.refl wd) (.cells [.int .i64 1, .int .i64 2, .int .i64 3].toArray 2)
                have r320 := hrS.gr g319
                have r317 : RdC (wd.alloc (.cells [.int .i64 1, .int .i64 2, .int .i64 3].toArray 2)) 1 (.slice (some ⟨wd.heap.size, 0, none⟩) 3 3) (nums .i64 [1, 2, 3]) := RdC.lit _ (nums .i64 [1, 2, 3]) _ 3 1 rfl (by simp [maxLen]) (One.nums _ _)
                have hm318 := hmS.gr g319
                generalize wd.heap.size = a316 at r317 ⊢
                generalize wd.alloc (.cells [.int .i64 1, .int .i64 2, .int .i64 3].toArray 2) = u315 at g319 r317 hm318 r320 ⊢
                refine hK _ _ (fun _ => ⟨Gr.cell hm318.below k1, Gr.cell hm318.below k2, Gr.cell hm318.below k3, Gr.cell hm318.below k4, Gr.cell hm318.below k5, Gr.cell hm318.below k6, Gr.cell hm318.below k7⟩) ?_
                clear hK K
                try simp only [Act.put, List.setIfInBounds_toArray, List.set_cons_zero, List.set_cons_succ]
                refine wpAnyU_one 3 (by kernel_rfl) rfl (fun K hK => ?_)
                refine step_call rfl 8 Tryz.f8 Tryz.func8 (by kernel_rfl) (by kernel_rfl) _ _ rfl #[.slice (some ⟨a316, 0, none⟩) 3 3] (by simp [Act.eval]) ?_
                refine (ints_ok u315 (some ⟨a316, 0, none⟩) 3 3 [1, 2, 3] ⟨r317⟩ (by omega)).mono ?_
                rintro e u321 ⟨A322, c323, rfl, hn324⟩
                have g327 := hn324.gr
                have r325 : RdC u321 2 (.slice A322 3 c323) (fV (iv [1, 2, 3])) := hn324.ok.rd
                have hm326 := hm318.gr g327
                have r328 := r320.gr g327
                have r329 := r317.gr g327
                refine ⟨_, rfl, hK _ _ (fun _ => ⟨Gr.cell hm326.below k1, Gr.cell hm326.below k2, Gr.cell hm326.below k3, Gr.cell hm326.below k4, Gr.cell hm326.below k5, Gr.cell hm326.below k6, Gr.cell hm326.below k7⟩) ?_⟩
                clear hK K
                try simp only [Act.put, List.setIfInBounds_toArray, List.set_cons_zero, List.set_cons_succ]
                refine wpAnyU_take 4 (v := ?vv174) rfl (by kernel_rfl) (by kernel_rfl) (fun _ _ _ h => h) ⟨Gr.cell hm326.below k1, Gr.cell hm326.below k2, Gr.cell hm326.below k3, Gr.cell hm326.below k4, Gr.cell hm326.below k5, Gr.cell hm326.below k6, Gr.cell hm326.below k7⟩ (Or.inl ⟨rfl, ?yv174⟩) ?rv174
                case yv174 =>
                  intro W hW
                  obtain ⟨hW0, hW1, hW2, hW3, hW4, hW5, hW6⟩ := hW
                  go_simp
                  try with_reducible rfl
                try simp only [Act.put, List.setIfInBounds_toArray, List.set_cons_zero, List.set_cons_succ]
                refine wpAnyU_one 5 (by kernel_rfl) rfl (fun K hK => ?_)
                go_simp
                have g333 := Gr.alloc (Gr.refl u321) (.cells [.int .i64 0, .int .i64 3, .slice AF 1 eF, .int .i64 1, .int .i64 6, .slice A322 3 c323].toArray 30)
                have r335 := r328.gr g333
                have r336 := r329.gr g333
                have r337 := r325.gr g333
                have hf334 : FrsOk 8 (u321.alloc (.cells [.int .i64 0, .int .i64 3, .slice AF 1 eF, .int .i64 1, .int .i64 6, .slice A322 3 c323].toArray 30)) (some ⟨u321.heap.size, 0, none⟩) 2 2 [⟨0, 3, AF, 1, eF, iv [1]⟩, ⟨1, 6, A322, 3, c323, iv [1, 2, 3]⟩] := frs2 (RdC.lit _ (fR [⟨0, 3, AF, 1, eF, iv [1]⟩, ⟨1, 6, A322, 3, c323, iv [1, 2, 3]⟩]) _ 2 3 rfl (by simp [maxLen]) (fR_one _)) ⟨r335, (by decide : 1 ≤ 8)⟩ ⟨r337, (by decide : 3 ≤ 8)⟩
                have hm332 := hm326.gr g333
                generalize u321.heap.size = a331 at hf334 ⊢
                generalize u321.alloc (.cells [.int .i64 0, .int .i64 3, .slice AF 1 eF, .int .i64 1, .int .i64 6, .slice A322 3 c323].toArray 30) = u330 at g333 hm332 hf334 r335 r336 r337 ⊢
                refine hK _ _ (fun _ => ⟨Gr.cell hm332.below k1, Gr.cell hm332.below k2, Gr.cell hm332.below k3, Gr.cell hm332.below k4, Gr.cell hm332.below k5, Gr.cell hm332.below k6, Gr.cell hm332.below k7⟩) ?_
                clear hK K
                try simp only [Act.put, List.setIfInBounds_toArray, List.set_cons_zero, List.set_cons_succ]
                refine wpAnyU_one 7 (by kernel_rfl) rfl (fun K hK => ?_)
                refine step_call rfl 10 Tryz.f10 Tryz.func10 (by kernel_rfl) (by kernel_rfl) _ _ rfl #[.agg #[.slice none 0 0, .slice (some ⟨gf, 0, none⟩) 2 2], .slice (some ⟨a331, 0, none⟩) 2 2, .agg #[.int .i64 2, .int .i64 77]] (by simp [Act.eval]) ?_
                have hE339 := catch_ok u330 (kP gh gf) ⟨hpg.out.gr (Gr.trans hB1.out (Gr.trans hgw.out hm332.below))⟩ 8 (some ⟨a331, 0, none⟩) 2 2 [⟨0, 3, AF, 1, eF, iv [1]⟩, ⟨1, 6, A322, 3, c323, iv [1, 2, 3]⟩] ⟨hf334⟩ (2, 77) (by omega) (by omega)
                have hQ340 : catchD (kP gh gf) (2, 77) (List.map Fr.data [⟨0, 3, AF, 1, eF, iv [1]⟩, ⟨1, 6, A322, 3, c323, iv [1, 2, 3]⟩]) 2 = none := by rfl
                rw [hQ340] at hE339
                refine hE339.mono ?_
                rintro e u338 ⟨rfl, g341⟩
                have hm342 := hm332.gr g341
                have r343 := r335.gr g341
                have r344 := r336.gr g341
                have r345 := r337.gr g341
                have r346 := hf334.gr g341
                refine ⟨_, rfl, hK _ _ (fun _ => ⟨Gr.cell hm342.below k1, Gr.cell hm342.below k2, Gr.cell hm342.below k3, Gr.cell hm342.below k4, Gr.cell hm342.below k5, Gr.cell hm342.below k6, Gr.cell hm342.below k7⟩) ?_⟩
                clear hK K
                try simp only [Act.put, List.setIfInBounds_toArray, List.set_cons_zero, List.set_cons_succ]
                refine wpAnyU_take 8 (v := ?vv175) rfl (by kernel_rfl) (by kernel_rfl) (fun _ _ _ h => h) ⟨Gr.cell hm342.below k1, Gr.cell hm342.below k2, Gr.cell hm342.below k3, Gr.cell hm342.below k4, Gr.cell hm342.below k5, Gr.cell hm342.below k6, Gr.cell hm342.below k7⟩ (Or.inl ⟨rfl, ?yv175⟩) ?rv175
                case yv175 =>
                  intro W hW
                  obtain ⟨hW0, hW1, hW2, hW3, hW4, hW5, hW6⟩ := hW
                  go_simp
                  try with_reducible rfl
                try simp only [Act.put, List.setIfInBounds_toArray, List.set_cons_zero, List.set_cons_succ]
                refine wpAnyU_take 9 (v := ?vv176) rfl (by kernel_rfl) (by kernel_rfl) (fun _ _ _ h => h) ⟨Gr.cell hm342.below k1, Gr.cell hm342.below k2, Gr.cell hm342.below k3, Gr.cell hm342.below k4, Gr.cell hm342.below k5, Gr.cell hm342.below k6, Gr.cell hm342.below k7⟩ (Or.inl ⟨rfl, ?yv176⟩) ?rv176
                case yv176 =>
                  intro W hW
                  obtain ⟨hW0, hW1, hW2, hW3, hW4, hW5, hW6⟩ := hW
                  go_simp
                  try with_reducible rfl
                try simp only [Act.put, List.setIfInBounds_toArray, List.set_cons_zero, List.set_cons_succ]
                refine wpAnyU_take 10 (v := ?vv177) rfl (by kernel_rfl) (by kernel_rfl) (fun _ _ _ h => h) ⟨Gr.cell hm342.below k1, Gr.cell hm342.below k2, Gr.cell hm342.below k3, Gr.cell hm342.below k4, Gr.cell hm342.below k5, Gr.cell hm342.below k6, Gr.cell hm342.below k7⟩ (Or.inl ⟨rfl, ?yv177⟩) ?rv177
                case yv177 =>
                  intro W hW
                  obtain ⟨hW0, hW1, hW2, hW3, hW4, hW5, hW6⟩ := hW
                  go_simp
                  try with_reducible rfl
                try simp only [Act.put, List.setIfInBounds_toArray, List.set_cons_zero, List.set_cons_succ]
                refine wpAnyU_one 11 (by kernel_rfl) rfl (fun K hK => ?_)
                go_simp
                refine hK _ _ (fun h => absurd h (by decide)) ?_
                clear hK K
                refine wpAnyU_done (by kernel_rfl) ?_ _
                go_wp2
                try simp only [Act.put, List.getElem_toArray, List.getElem_cons_succ, List.getElem_cons_zero, List.setIfInBounds_toArray, List.set_cons_succ, List.set_cons_zero]
                go_meet
                case rel => exact ⟨rfl, hm342.below⟩
              case rest =>
                obtain ⟨wy, rfl⟩ : ∃ wy : World, wy = wc := ⟨_, rfl⟩
                obtain ⟨rfl, hg9⟩ := hcut
                have hgw := Fact.mk (Gr.trans hgw.out hg9)
                have hr8 := Fact.mk (hr8.out.gr hg9)
                have k1 := Gr.cell hg9 k1
                have k2 := Gr.cell hg9 k2
                have k3 := Gr.cell hg9 k3
                have k4 := Gr.cell hg9 k4
                have k5 := Gr.cell hg9 k5
                have k6 := Gr.cell hg9 k6
                have k7 := Gr.cell hg9 k7
                clear hg9
                have hgz := (Gr.refl wy).alloc (.cells [.int .i64 0, .int .i64 3, .slice AF 1 eF, .int .i64 1, .int .i64 5, .slice none 0 0].toArray 30)
                have k8 := Gr.cell hgz k6
                have k9 := Gr.cell hgz k7
                go_wp2_with fail
                have hgw := Fact.mk (Gr.trans hgw.out hgz)
                have hret := return_ok _ (kP gh gf) 8 (some ⟨wy.heap.size, 0, none⟩) 2 2 [⟨0, 3, AF, 1, eF, iv [1]⟩, ⟨1, 5, none, 0, 0, []⟩] ⟨frs2 (RdC.lit _ (fR [⟨0, 3, AF, 1, eF, iv [1]⟩, ⟨1, 5, none, 0, 0, []⟩]) 30 2 3 rfl (by simp [maxLen]) (fR_one _)) ⟨hr8.out.gr hgz, (by decide : 1 ≤ 8)⟩ ⟨RdC.nil _ _, (by decide : 0 ≤ 8)⟩⟩ (by omega) (by omega) (2, 77)
                refine hret.mono ?_
                rintro e wz ⟨A13, n13, c13, zz, rfl, hz, hdz, hnz⟩
                have hdz : zz.map Fr.data = [(0, 4, iv [1, 77])] := hdz.trans ((by rfl : _ = [((0 : Int), wrap64 (3 + 1), iv [1] ++ [(2, 77)])]).trans (by rw [wr4]; rfl))
                have hfz := Fact.mk (frs_of hz hnz)
                have hgw := Fact.mk (Gr.trans hgw.out hz.below)
                obtain rfl : n13 = 1 := by have h1 := hfz.out.len; have h2 := congrArg List.length hdz; simp at h2; omega
                clear hz hret hgz k1 k2 k3 k4 k5 k6 k7 k8 k9
                go_wp2_with fail
                have hgi := (Gr.refl wz).alloc (.cells [.int .i64 1, .int .i64 77].toArray 2)
                have hgw := Fact.mk (Gr.trans hgw.out hgi)
                have hfz := Fact.mk (hfz.out.gr hgi)
                refine (ints_ok _ (some ⟨_, 0, none⟩) 2 2 [1, 77] ⟨RdC.lit _ (nums .i64 [1, 77]) _ 2 1 rfl (by simp [maxLen]) (One.nums _ _)⟩ (by omega)).mono ?_
                rintro e wa ⟨A15, c15, rfl, hn15⟩
                have hgw := Fact.mk (Gr.trans hgw.out hn15.gr)
                have hfz := Fact.mk (hfz.out.gr hn15.gr)
                have hr15 := Fact.mk (show RdC wa 2 (.slice A15 2 c15) (fV (iv [1, 77])) from hn15.ok.rd)
                clear hn15 hgi
                go_wp2_with fail
                have hgb := (Gr.refl wa).alloc (.cells [.int .i64 0, .int .i64 4, .slice A15 2 c15].toArray 30)
                refine (sameFrames_ok _ A13 (some ⟨wa.heap.size, 0, none⟩) 9 1 c13 1 zz [⟨0, 4, A15, 2, c15, iv [1, 77]⟩] ⟨hfz.out.gr hgb⟩ ⟨frs1 (RdC.lit _ (fR [⟨0, 4, A15, 2, c15, iv [1, 77]⟩]) 30 1 3 rfl (by simp [maxLen]) (fR_one _)) ⟨hr15.out.gr hgb, (by decide : 2 ≤ 9)⟩⟩ ⟨hdz⟩ (by omega) (by omega)).mono ?_
                rintro e wb ⟨rfl, hg9⟩
                have hfin := Fact.mk (Gr.trans hg0 (Gr.trans hB1.out (Gr.trans hgw.out (Gr.trans hgb hg9))))
                clear hgb hg9
                go_wp2
                go_ret
                exact ⟨rfl, hfin.out⟩
end Go.Proofs.YtgflfpepfpekhaaGreat
namespace Go.Proofs.YtgflfpepfpekhaaGreat
open Go.RowKit Go.Mm
set_option maxHeartbeats 16000000
set_option maxRecDepth 100000
set_option linter.unusedSimpArgs false
theorem wp_bs {P : Program} {ops : Array Oper} {rest : List Oper} {o : Oper} {a : Act} {Q : Exit → Act → World → Prop} {w : World} (hw : Region.wanted o (yielded ops a.tmps) = true) (ty : TypeId) (n : Nat) (ps : Array (Nat × Operand)) (ho : o.op = .buildSlice ty n ps) (v : Value) (w' : World) (hr : (execOp a.eval o).run P w = .ok (.value v) w') (h : wpList P ops Q rest (a.put o.dst v) w') : wpList P ops Q (o :: rest) a w :=
  wpList_want hw fun K hK => by
    unfold Oper.wp
    rw [hr]
    exact hK _ _ h
theorem frs_nil {N : Nat} (w : World) : FrsOk N w none 0 0 [] := ⟨RdC.nil _ _, by simp⟩
def fnH (l : Int) (g : Nat) (hs : List H4) : Fn := ⟨⟨#[]⟩, 0, l, none, 0, 0, [], some ⟨g, 0, none⟩, hs.length, hs.length, hs⟩
theorem fnH_ok {w : World} {l : Int} {g : Nat} {hs : List H4} (h : RdC w 4 (.slice (some ⟨g, 0, none⟩) hs.length hs.length) (fH hs)) (hl : hs.length ≤ 1048576) : FnOk w (fnH l g hs) ∧ (fnH l g hs).hn ≤ 1048576 ∧ (fnH l g hs).cn ≤ 1048576 := ⟨⟨RdC.nil _ _, h⟩, hl, by simp [fnH]⟩
def endsE : List Int := [-9223372036854775808, -1, 0, 1, 2, 3, 9223372036854775807]
def deepF (A : Option Addr) (c k : Nat) : List Fr := ⟨1, 1, A, 2, c, iv [1, 2]⟩ :: (List.range k).map fun (i : Nat) => ⟨2, (i : Int), none, 0, 0, []⟩
theorem deepF_succ (A : Option Addr) (c k : Nat) : fR (deepF A c (k + 1)) = fR (deepF A c k) ++ [.int .i64 2, .int .i64 (k : Int), .slice none 0 0] := by
  simp [deepF, List.range_succ, fR, cR]
theorem deepF_ok {w : World} {A B : Option Addr} {c d k : Nat} (h : RdC w 3 (.slice B (k + 1) d) (fR (deepF A c k))) (hx : FrOk 8 w ⟨1, 1, A, 2, c, iv [1, 2]⟩) : FrsOk 8 w B (k + 1) d (deepF A c k) :=
  ⟨h, fun f hf => by
    simp only [deepF, List.mem_cons, List.mem_map] at hf
    rcases hf with rfl | ⟨i, _, rfl⟩
    · exact hx
    · exact ⟨RdC.nil _ _, by simp⟩⟩
theorem rd_ints5 {w : World} {A : Option Addr} {c n : Nat} (h : RdC w 2 (.slice A 5 c) (fV (iv [1, 2, 3, 4, 5]))) (hn : n ≤ 5) : RdC w 2 (.slice A n c) (fV (iv ([1, 2, 3, 4, 5].take n))) := by
  have h1 := h.pre n hn
  have e : (fV (iv [1, 2, 3, 4, 5])).take (n * 2) = fV (iv ([1, 2, 3, 4, 5].take n)) := by
    rw [← fV_take]
    simp [iv, List.map_take]
  rwa [e] at h1
theorem catches_ok (w : World) : Calls Tryz.prog 15 #[] w fun e w' => e = .returned (.bool true) ∧ Gr w w' := by
  go_enter Tryz.func15, Tryz.ntmps15
  go_upto_region 3 with (fail)
  have hm1 := ((Mem.start w).alloc (.cells (nums .i64 endsE).toArray 3)).alloc (.cells [.int .i64 1, .int .i64 1].toArray 36)
  simp only [World.size_alloc] at hm1
  generalize hgX : w.heap.size = ge at hm1 ⊢
  generalize hwX : (w.alloc (.cells (nums .i64 endsE).toArray 3)).alloc (.cells [.int .i64 1, .int .i64 1].toArray 36) = w1 at hm1
  try refine wp_world hwX ?_
  clear hwX hgX
  go_wp2_with fail
  have hm2 := hm1.alloc (.cells (nums .i64 [1, 2]).toArray 2)
  refine (ints_ok _ (some ⟨w1.heap.size, 0, none⟩) 2 2 [1, 2] ⟨hm2.rdblk m0 2 1 rfl (by simp [maxLen]) (One.nums _ _)⟩ (by omega)).mono ?_
  rintro e w3 ⟨A2, cB, rfl, hn3⟩
  have hm3 := hm2.new hn3
  generalize w1.heap.size = gi at hm3 ⊢
  clear hn3 hm2 hm1
  go_upto_region 4 with (fail)
  have hm4 := hm3.alloc (.cells [.int .i64 1, .int .i64 1, .slice A2 2 cB].toArray 30)
  generalize hgX : w3.heap.size = gl at hm4 ⊢
  generalize hwX : w3.alloc (.cells [.int .i64 1, .int .i64 1, .slice A2 2 cB].toArray 30) = w4 at hm4
  try refine wp_world hwX ?_
  clear hwX hgX hm3
  have FE : Fact (RdC w4 1 (.slice (some ⟨ge, 0, none⟩) 7 7) (nums .i64 endsE)) := ⟨hm4.rdblk (.tail _ m3) 7 1 rfl (by simp [maxLen]) (One.nums _ _)⟩
  have FV0 := Fact.mk (rng_blk hm4 m3)
  have FL0 := Fact.mk (rng_blk hm4 m0)
  have FLo0 : Fact (FrOk 8 w4 ⟨1, 1, A2, 2, cB, iv [1, 2]⟩) := ⟨⟨hm4.rd m1, by simp⟩⟩
  obtain ⟨gv, hgv⟩ : ∃ gv, gv = ge + 1 := ⟨_, rfl⟩
  rw [← hgv] at FV0
  simp only [← hgv]
  clear hgv
  have hg4 := Fact.mk hm4.below
  clear hm4
  go_wp2
  go_loopw [4] (fun s1 W => ∃ a : Nat, s1 = .int .i64 (-1 + (a : Int)) ∧ a ≤ 5 ∧ Gr w4 W) (fun s1 _ => 5 - (intOf s1 - -1).toNat)
  case atStart => exact ⟨0, rfl, by omega, Gr.refl _⟩
  case round =>
    obtain ⟨a, rfl, ha, hg1⟩ := hrel
    by_cases h1 : a < 5
    · have e1 : (-1 + (a : Int) < 4) = True := eq_true (by omega)
      replace hg1 := Fact.mk hg1
      go_wp2
      go_loopw [5] (fun s2 W => ∃ i : Nat, s2 = .int .i64 i ∧ i ≤ 7 ∧ Gr w4 W) (fun s2 _ => 7 - (intOf s2).toNat)
      case atStart => exact ⟨0, rfl, by omega, hg1.out⟩
      case round =>
        obtain ⟨i, rfl, hi, hg2⟩ := hrel
        clear hg1
        by_cases h2 : i < 7
        · have e2 : ((i : Int) < 7) = True := eq_true (by omega)
          replace hg2 := Fact.mk hg2
          go_wp2
          go_loopw [6] (fun s3 W => ∃ k : Nat, s3 = .int .i64 k ∧ k ≤ 7 ∧ Gr w4 W) (fun s3 _ => 7 - (intOf s3).toNat)
          case atStart => exact ⟨0, rfl, by omega, hg2.out⟩
          case round =>
            obtain ⟨k, rfl, hk, hg3⟩ := hrel
            clear hg2
            by_cases h3 : k < 7
            · have e3 : ((k : Int) < 7) = True := eq_true (by omega)
              obtain ⟨b1, o1, q1, c1, _⟩ := (FE.out.gr hg3).num i h2
              obtain ⟨b2, o2, q2, c2, _⟩ := (FE.out.gr hg3).num k h3
              cases q1
              cases q2
              generalize endsE.getD i 0 = x at c1
              generalize endsE.getD k 0 = y at c2
              rw [Nat.zero_add] at c1 c2
              replace hg3 := Fact.mk hg3
              go_upto_region 13 with (fail)
              go_region_held3 (fun W => Gr wr W ∧ W.cell? ⟨ge, i, none⟩ = some (.int .i64 x) ∧ W.cell? ⟨ge, k, none⟩ = some (.int .i64 y)) ((refine (fun hG => ⟨hG, hG.cell c1, hG.cell c2⟩ : Gr wr _ → _) ?_; repeat (first | with_reducible exact Gr.refl _ | assumption | with_reducible refine Gr.setc ?_ (Nat.le_refl _) _ | with_reducible refine Gr.drew ?_ | with_reducible refine Gr.alloc ?_ _))) (fail)
              go_upto_region 14 with (fail)
              have hm13 := ((Mem.start wr).alloc (.cells [.int .i64 x, .int .i64 y, .int .i64 4, .int .i64 1].toArray 43)).drew
              generalize hgX : wr.heap.size = b13 at hm13 ⊢
              generalize hwX : (wr.alloc (.cells [.int .i64 x, .int .i64 y, .int .i64 4, .int .i64 1].toArray 43)).drew = w13 at hm13
              try refine wp_world hwX ?_
              clear hwX hgX
              have hg13 := hm13.below
              have d1 := Gr.cell hg13 c1
              have d2 := Gr.cell hg13 c2
              go_region_held3 (fun W => Gr w13 W ∧ W.cell? ⟨ge, i, none⟩ = some (.int .i64 x) ∧ W.cell? ⟨ge, k, none⟩ = some (.int .i64 y)) ((refine (fun hG => ⟨hG, hG.cell d1, hG.cell d2⟩ : Gr w13 _ → _) ?_; repeat (first | with_reducible exact Gr.refl _ | assumption | with_reducible refine Gr.setc ?_ (Nat.le_refl _) _ | with_reducible refine Gr.drew ?_ | with_reducible refine Gr.alloc ?_ _))) (fail)
              go_upto_region 15 with (fail)
              have hm14 := ((Mem.start w13).alloc (.cells [.int .i64 0, .int .i64 2, .int .i64 y, .int .i64 x].toArray 43)).drew
              generalize hgX : w13.heap.size = b14 at hm14 ⊢
              generalize hwX : (w13.alloc (.cells [.int .i64 0, .int .i64 2, .int .i64 y, .int .i64 x].toArray 43)).drew = w14 at hm14
              try refine wp_world hwX ?_
              clear hwX hgX
              have hg14 := hm14.below
              have FA := Fact.mk (rng_gr (rng_blk hm13 m0) hg14)
              have FAb := Fact.mk (rng_blk hm14 m0)
              have hg14' := Fact.mk (Gr.trans hg3.out (Gr.trans hg13 hg14))
              clear hm13 hm14 hg13 hg14 c1 c2 d1 d2 hg3
              go_upto_region 16 with (first | (refine wp_rng rfl 43 _ rfl b13 0 rfl [.int .i64 x, .int .i64 y, .int .i64 4, .int .i64 1] FA.out row_Hh szHh ?_) | (refine wp_rng rfl 43 _ rfl b14 0 rfl [.int .i64 0, .int .i64 2, .int .i64 y, .int .i64 x] FAb.out row_Hh szHh ?_) | (refine wp_bs rfl 44 2 _ rfl (.slice (some ⟨w14.heap.size, 0, none⟩) 2 2) (w14.alloc (.cells (fH [(x, y, 4, 1), (0, 2, y, x)]).toArray 43)) (by kernel_rfl) ?_))
              have hm5 := ((((Mem.start w14).alloc (.cells (fH [(x, y, 4, 1), (0, 2, y, x)]).toArray 43)).alloc (.cells (fH [(0, 2, 9, 0)]).toArray 43)).alloc (.cells (fF [fnH (-1 + (a : Int)) w14.heap.size [(x, y, 4, 1), (0, 2, y, x)], fnH 0 (w14.heap.size + 1) [(0, 2, 9, 0)]]).toArray 47)).alloc (.cells [.slice none 0 0, .slice (some ⟨w14.heap.size + 1 + 1, 0, none⟩) 2 2].toArray 26)
              simp only [World.size_alloc] at hm5
              generalize hgX : w14.heap.size = gh at hm5 ⊢
              generalize hwX : (((w14.alloc (.cells (fH [(x, y, 4, 1), (0, 2, y, x)]).toArray 43)).alloc (.cells (fH [(0, 2, 9, 0)]).toArray 43)).alloc (.cells (fF [fnH (-1 + (a : Int)) gh [(x, y, 4, 1), (0, 2, y, x)], fnH 0 (gh + 1) [(0, 2, 9, 0)]]).toArray 47)).alloc (.cells [.slice none 0 0, .slice (some ⟨gh + 1 + 1, 0, none⟩) 2 2].toArray 26) = w2 at hm5
              try refine wp_world hwX ?_
              clear hwX hgX FA FAb
              have FH1 : FnOk w2 (fnH (-1 + (a : Int)) gh [(x, y, 4, 1), (0, 2, y, x)]) ∧ _ := fnH_ok (hm5.rdblk m3 2 4 rfl (by simp [maxLen]) (One.flatMap cH_one _)) (by simp)
              have FH2 : FnOk w2 (fnH 0 (gh + 1) [(0, 2, 9, 0)]) ∧ _ := fnH_ok (hm5.rdblk m2 1 4 rfl (by simp [maxLen]) (One.flatMap cH_one _)) (by simp)
              have FP : Fact (PgOk w2 (pgB (gh + 1 + 1) [fnH (-1 + (a : Int)) gh [(x, y, 4, 1), (0, 2, y, x)], fnH 0 (gh + 1) [(0, 2, 9, 0)]])) := ⟨pgB_ok (hm5.rdblk m1 2 5 rfl (by simp [maxLen]) (One.flatMap cF_one _)) (fun f hf => by simp only [List.mem_cons, List.not_mem_nil, or_false] at hf; rcases hf with rfl | rfl; exact FH1; exact FH2) (by simp)⟩
              generalize fnH (-1 + (a : Int)) gh [(x, y, 4, 1), (0, 2, y, x)] = F1 at FP
              generalize fnH 0 (gh + 1) [(0, 2, 9, 0)] = F2 at FP
              have FB0 := Fact.mk (rng_blk hm5 m0)
              obtain ⟨gp, hgp⟩ : ∃ gp, gp = gh + 1 + 1 + 1 := ⟨_, rfl⟩
              rw [← hgp] at FB0
              simp only [← hgp]
              clear hgp
              obtain ⟨gf, hgf⟩ : ∃ gf, gf = gh + 1 + 1 := ⟨_, rfl⟩
              rw [← hgf] at FB0 FP
              simp only [← hgf]
              clear hgf FH1 FH2
              have hg5 := Fact.mk (Gr.trans hg14'.out hm5.below)
              clear hm5 hg14'
              go_wp2
              go_loopw [10] (fun s4 W => ∃ n : Nat, s4 = .int .i64 n ∧ n ≤ 5 ∧ Gr w2 W) (fun s4 _ => 5 - (intOf s4).toNat)
              case atStart => exact ⟨0, rfl, by omega, Gr.refl _⟩
              case round =>
                obtain ⟨n, rfl, hn, hg6⟩ := hrel
                by_cases h4 : n < 5
                · have e4 : ((n : Int) < 5) = True := eq_true (by omega)
                  go_wp2_with fail
                  have hm6 := (Mem.start wr).alloc (.cells (nums .i64 [1, 2, 3, 4, 5]).toArray 2)
                  refine (ints_ok _ (some ⟨wr.heap.size, 0, none⟩) 5 5 [1, 2, 3, 4, 5] ⟨hm6.rdblk m0 5 1 rfl (by simp [maxLen]) (One.nums _ _)⟩ (by omega)).mono ?_
                  rintro e w6 ⟨A, c, rfl, hn6⟩
                  have hm7 := hm6.new hn6
                  have hcap := OwnAt.cap (hm7.ok _ m0)
                  have hc1 : 5 ≤ c := by omega
                  have hc2 : n ≤ c := by omega
                  clear hm6 hn6 hcap
                  go_upto_region 20 with (fail)
                  obtain ⟨q, hq⟩ : ∃ q : Int, q = (n : Int) % 3 := ⟨_, rfl⟩
                  simp only [← hq]
                  clear hq
                  have hm8 := hm7.alloc (.cells [.int .i64 0, .int .i64 q, .slice A n c].toArray 30)
                  generalize hgX : w6.heap.size = gx at hm8 ⊢
                  generalize hwX : w6.alloc (.cells [.int .i64 0, .int .i64 q, .slice A n c].toArray 30) = w5 at hm8
                  try refine wp_world hwX ?_
                  clear hwX hgX hm7
                  have G2 := Fact.mk (Gr.trans hg6 hm8.below)
                  have G4 := Gr.trans hg5.out G2.out
                  have FP := Fact.mk (FP.out.gr G2.out)
                  have FB := Fact.mk (rng_gr FB0.out G2.out)
                  have FL := Fact.mk (rng_gr FL0.out G4)
                  have FV := Fact.mk (rng_gr FV0.out G4)
                  have FLo := Fact.mk (FLo0.out.gr G4)
                  have FX := Fact.mk (rng_blk hm8 m0)
                  have FXo : Fact (FrOk 8 w5 ⟨0, q, A, n, c, iv ([1, 2, 3, 4, 5].take n)⟩) := ⟨⟨rd_ints5 (hm8.rd m1) (by omega), by show n ≤ 8; omega⟩⟩
                  have FQo : Fact (FrOk 8 w5 ⟨7, 0, none, 0, 0, []⟩) := ⟨⟨RdC.nil _ _, by simp⟩⟩
                  have hpk : Fact ((pgB gf [F1, F2]).kn ≤ 1048576) := ⟨by simp [pgB]⟩
                  clear hm8 G4 hg6 hc1 hc2
                  go_wp2_with (first | (refine wp_rng rfl 26 _ rfl gp 0 rfl [.slice none 0 0, .slice (some ⟨gf, 0, none⟩) 2 2] (rng_gr FB.out (Gr.refl w5)) row_P szP ?_) | (refine wp_rng rfl 30 _ rfl gx 0 rfl [.int .i64 0, .int .i64 q, .slice A n c] (rng_gr FX.out (Gr.refl w5)) row_R szR ?_) | (refine wp_rng rfl 30 _ rfl gl 0 rfl [.int .i64 1, .int .i64 1, .slice A2 2 cB] (rng_gr FL.out (Gr.refl w5)) row_R szR ?_) | (refine wp_rng rfl 36 _ rfl gv 0 rfl [.int .i64 1, .int .i64 1] (rng_gr FV.out (Gr.alloc (Gr.refl w5) _)) row_Vv sz_V ?_))
                  have FS1 : FrsOk 8 (w5.alloc (.cells (fR [⟨0, q, A, n, c, iv ([1, 2, 3, 4, 5].take n)⟩]).toArray 30)) (some ⟨w5.heap.size, 0, none⟩) 1 1 [⟨0, q, A, n, c, iv ([1, 2, 3, 4, 5].take n)⟩] := frs1 (RdC.lit _ (fR [⟨0, q, A, n, c, iv ([1, 2, 3, 4, 5].take n)⟩]) _ 1 3 rfl (by simp [maxLen]) (fR_one _)) ((FXo.out).gr (Gr.alloc (Gr.refl w5) _))
                  refine (catch_walk _ (pgB gf [F1, F2]) ⟨FP.out.gr (Gr.alloc (Gr.refl w5) _)⟩ hpk.out 8 (some ⟨w5.heap.size, 0, none⟩) 1 1 [⟨0, q, A, n, c, iv ([1, 2, 3, 4, 5].take n)⟩] ⟨FS1⟩ (by omega) (by omega) 1 1).mono ?_
                  rintro e y1 ⟨rfl, hz1⟩
                  have gy1 := Gr.trans (Gr.alloc (Gr.refl w5) _) hz1
                  clear FS1 hz1
                  go_wp2_with (first | (refine wp_rng rfl 26 _ rfl gp 0 rfl [.slice none 0 0, .slice (some ⟨gf, 0, none⟩) 2 2] (rng_gr FB.out gy1) row_P szP ?_) | (refine wp_rng rfl 30 _ rfl gx 0 rfl [.int .i64 0, .int .i64 q, .slice A n c] (rng_gr FX.out gy1) row_R szR ?_) | (refine wp_rng rfl 30 _ rfl gl 0 rfl [.int .i64 1, .int .i64 1, .slice A2 2 cB] (rng_gr FL.out gy1) row_R szR ?_) | (refine wp_rng rfl 36 _ rfl gv 0 rfl [.int .i64 1, .int .i64 1] (rng_gr FV.out (Gr.alloc gy1 _)) row_Vv sz_V ?_))
                  have FS2 : FrsOk 8 (y1.alloc (.cells (fR [⟨1, 1, A2, 2, cB, iv [1, 2]⟩, ⟨0, q, A, n, c, iv ([1, 2, 3, 4, 5].take n)⟩]).toArray 30)) (some ⟨y1.heap.size, 0, none⟩) 2 2 [⟨1, 1, A2, 2, cB, iv [1, 2]⟩, ⟨0, q, A, n, c, iv ([1, 2, 3, 4, 5].take n)⟩] := frs2 (RdC.lit _ (fR [⟨1, 1, A2, 2, cB, iv [1, 2]⟩, ⟨0, q, A, n, c, iv ([1, 2, 3, 4, 5].take n)⟩]) _ 2 3 rfl (by simp [maxLen]) (fR_one _)) ((FLo.out).gr (Gr.alloc gy1 _)) ((FXo.out).gr (Gr.alloc gy1 _))
                  refine (catch_walk _ (pgB gf [F1, F2]) ⟨FP.out.gr (Gr.alloc gy1 _)⟩ hpk.out 8 (some ⟨y1.heap.size, 0, none⟩) 2 2 [⟨1, 1, A2, 2, cB, iv [1, 2]⟩, ⟨0, q, A, n, c, iv ([1, 2, 3, 4, 5].take n)⟩] ⟨FS2⟩ (by omega) (by omega) 1 1).mono ?_
                  rintro e y2 ⟨rfl, hz2⟩
                  have gy2 := Gr.trans (Gr.alloc gy1 _) hz2
                  clear FS2 hz2
                  go_wp2_with (first | (refine wp_rng rfl 26 _ rfl gp 0 rfl [.slice none 0 0, .slice (some ⟨gf, 0, none⟩) 2 2] (rng_gr FB.out gy2) row_P szP ?_) | (refine wp_rng rfl 30 _ rfl gx 0 rfl [.int .i64 0, .int .i64 q, .slice A n c] (rng_gr FX.out gy2) row_R szR ?_) | (refine wp_rng rfl 30 _ rfl gl 0 rfl [.int .i64 1, .int .i64 1, .slice A2 2 cB] (rng_gr FL.out gy2) row_R szR ?_) | (refine wp_rng rfl 36 _ rfl gv 0 rfl [.int .i64 1, .int .i64 1] (rng_gr FV.out (Gr.alloc gy2 _)) row_Vv sz_V ?_))
                  have FS3 : FrsOk 8 (y2.alloc (.cells (fR [⟨0, q, A, n, c, iv ([1, 2, 3, 4, 5].take n)⟩, ⟨7, 0, none, 0, 0, []⟩]).toArray 30)) (some ⟨y2.heap.size, 0, none⟩) 2 2 [⟨0, q, A, n, c, iv ([1, 2, 3, 4, 5].take n)⟩, ⟨7, 0, none, 0, 0, []⟩] := frs2 (RdC.lit _ (fR [⟨0, q, A, n, c, iv ([1, 2, 3, 4, 5].take n)⟩, ⟨7, 0, none, 0, 0, []⟩]) _ 2 3 rfl (by simp [maxLen]) (fR_one _)) ((FXo.out).gr (Gr.alloc gy2 _)) ((FQo.out).gr (Gr.alloc gy2 _))
                  refine (catch_walk _ (pgB gf [F1, F2]) ⟨FP.out.gr (Gr.alloc gy2 _)⟩ hpk.out 8 (some ⟨y2.heap.size, 0, none⟩) 2 2 [⟨0, q, A, n, c, iv ([1, 2, 3, 4, 5].take n)⟩, ⟨7, 0, none, 0, 0, []⟩] ⟨FS3⟩ (by omega) (by omega) 1 1).mono ?_
                  rintro e y3 ⟨rfl, hz3⟩
                  have gy3 := Gr.trans (Gr.alloc gy2 _) hz3
                  clear FS3 hz3
                  go_wp2_with (first | (refine wp_rng rfl 26 _ rfl gp 0 rfl [.slice none 0 0, .slice (some ⟨gf, 0, none⟩) 2 2] (rng_gr FB.out gy3) row_P szP ?_) | (refine wp_rng rfl 30 _ rfl gx 0 rfl [.int .i64 0, .int .i64 q, .slice A n c] (rng_gr FX.out gy3) row_R szR ?_) | (refine wp_rng rfl 30 _ rfl gl 0 rfl [.int .i64 1, .int .i64 1, .slice A2 2 cB] (rng_gr FL.out gy3) row_R szR ?_) | (refine wp_rng rfl 36 _ rfl gv 0 rfl [.int .i64 1, .int .i64 1] (rng_gr FV.out (Gr.alloc gy3 _)) row_Vv sz_V ?_))
                  have FS4 : FrsOk 8 (y3.alloc (.cells (fR [⟨0, q, A, n, c, iv ([1, 2, 3, 4, 5].take n)⟩, ⟨1, 1, A2, 2, cB, iv [1, 2]⟩]).toArray 30)) (some ⟨y3.heap.size, 0, none⟩) 2 2 [⟨0, q, A, n, c, iv ([1, 2, 3, 4, 5].take n)⟩, ⟨1, 1, A2, 2, cB, iv [1, 2]⟩] := frs2 (RdC.lit _ (fR [⟨0, q, A, n, c, iv ([1, 2, 3, 4, 5].take n)⟩, ⟨1, 1, A2, 2, cB, iv [1, 2]⟩]) _ 2 3 rfl (by simp [maxLen]) (fR_one _)) ((FXo.out).gr (Gr.alloc gy3 _)) ((FLo.out).gr (Gr.alloc gy3 _))
                  refine (return_walk _ (pgB gf [F1, F2]) ⟨FP.out.gr (Gr.alloc gy3 _)⟩ hpk.out 8 (some ⟨y3.heap.size, 0, none⟩) 2 2 [⟨0, q, A, n, c, iv ([1, 2, 3, 4, 5].take n)⟩, ⟨1, 1, A2, 2, cB, iv [1, 2]⟩] ⟨FS4⟩ (by omega) (by omega) 1 1).mono ?_
                  rintro e y4 ⟨rfl, hz4⟩
                  have gy4 := Gr.trans (Gr.alloc gy3 _) hz4
                  clear FS4 hz4
                  have hg7 := Fact.mk (Gr.trans G2.out gy4)
                  clear gy1 gy2 gy3 gy4
                  go_wp2
                  go_roundw
                  case rel => exact ⟨n + 1, by go_num, by omega, hg7.out⟩
                  case measure => exact measC h4
                · have e4 : ((n : Int) < 5) = False := eq_false (by omega)
                  have hg7 := Fact.mk (Gr.trans hg5.out hg6)
                  go_wp2
                  go_roundw
                  case rel => exact ⟨k + 1, by go_num, by omega, hg7.out⟩
                  case measure => exact measC h3
            · have e3 : ((k : Int) < 7) = False := eq_false (by omega)
              go_wp2
              go_roundw
              case rel => exact ⟨i + 1, by go_num, by omega, hg3⟩
              case measure => exact measC h2
        · have e2 : ((i : Int) < 7) = False := eq_false (by omega)
          go_wp2
          go_roundw
          case rel => exact ⟨a + 1, by go_num, by omega, hg2⟩
          case measure => exact measD h1
    · have e1 : (-1 + (a : Int) < 4) = False := eq_false (by omega)
      obtain ⟨iR, hiR, rz0, rz1, rz2⟩ := info_parts inf_R
      have FL := Fact.mk (rng_gr FL0.out hg1)
      go_upto_region 23 with (refine wp_rng rfl 30 _ rfl gl 0 rfl [.int .i64 1, .int .i64 1, .slice A2 2 cB] FL.out row_R szR ?_)
      have hm6 := (Mem.start wr).alloc (.cells (fR [⟨1, 1, A2, 2, cB, iv [1, 2]⟩]).toArray 30)
      have hm7 := Mem.blk_own (n := 1) (size := 3) hm6 rfl (by simp [maxLen]) (fR_one _)
      clear hm6 FL
      go_wp2
      go_loopw [12, 13] (fun s12 s13 W => ∃ (k : Nat) (B : Option Addr) (d : Nat), s13 = .int .i64 k ∧ k ≤ 120 ∧ s12 = .slice B (k + 1) d ∧ Mem wr W [Own 3 (.slice B (k + 1) d) (fR (deepF A2 cB k))]) (fun _ s13 _ => 120 - (intOf s13).toNat)
      case atStart => exact ⟨0, _, _, rfl, by omega, rfl, hm7⟩
      case round =>
        obtain ⟨k, B, d, rfl, hk, rfl, hmr⟩ := hrel
        clear hm7
        by_cases h2 : k < 120
        · have e2 : ((k : Int) < 120) = True := eq_true (by omega)
          go_wp2_with (at_builtin; refine wp_app rfl _ _ _ rfl 30 iR _ 3 40 ty_Rs hiR rz0 rz1 rz2 rfl B (k + 1) d _ rfl (L := [Blk _ _]) (hmr.alloc _).swap _ 1 1 [.int .i64 2, .int .i64 (k : Int), .slice none 0 0] rfl (RdC.lit _ _ _ _ _ rfl (by simp [maxLen]) (cR_one ⟨2, (k : Int), none, 0, 0, []⟩)) (by unfold maxLen; omega) (by omega) ?_; intro A5 c5 w5 hm5)
          go_roundw
          case rel => exact ⟨k + 1, A5, c5, by go_num, by omega, rfl, by rw [deepF_succ]; exact hm5.drop2⟩
          case measure => exact measC h2
        · obtain rfl : k = 120 := by omega
          have hcap := OwnAt.cap (hmr.ok _ m0)
          have hc1 : 121 ≤ d := by omega
          have hc2 : ((1 : Int) ≤ (d : Int)) = True := eq_true (by omega)
          go_upto_region 28 with (fail)
          have hm8 := ((hmr.alloc (.cells (fH [(0, 2, 9, 0)]).toArray 43)).alloc (.cells (fF [fnB 0 0, fnH 0 wr.heap.size [(0, 2, 9, 0)]]).toArray 47)).alloc (.cells [.slice none 0 0, .slice (some ⟨wr.heap.size + 1, 0, none⟩) 2 2].toArray 26)
          simp only [World.size_alloc] at hm8
          generalize hgX : wr.heap.size = gh at hm8 ⊢
          generalize hwX : ((wr.alloc (.cells (fH [(0, 2, 9, 0)]).toArray 43)).alloc (.cells (fF [fnB 0 0, fnH 0 gh [(0, 2, 9, 0)]]).toArray 47)).alloc (.cells [.slice none 0 0, .slice (some ⟨gh + 1, 0, none⟩) 2 2].toArray 26) = w8 at hm8
          try refine wp_world hwX ?_
          clear hwX hgX hmr hcap
          have FH2 : FnOk w8 (fnH 0 gh [(0, 2, 9, 0)]) ∧ _ := fnH_ok (hm8.rdblk m2 1 4 rfl (by simp [maxLen]) (One.flatMap cH_one _)) (by simp)
          have FP : Fact (PgOk w8 (pgB (gh + 1) [fnB 0 0, fnH 0 gh [(0, 2, 9, 0)]])) := ⟨pgB_ok (hm8.rdblk m1 2 5 rfl (by simp [maxLen]) (One.flatMap cF_one _)) (fun f hf => by simp only [List.mem_cons, List.not_mem_nil, or_false] at hf; rcases hf with rfl | rfl; exact fnB_ok _ _ _; exact FH2) (by simp)⟩
          generalize fnB 0 0 = F1 at FP
          generalize fnH 0 gh [(0, 2, 9, 0)] = F2 at FP
          have hpk : Fact ((pgB (gh + 1) [F1, F2]).kn ≤ 1048576) := ⟨by simp [pgB]⟩
          have G4 := Gr.trans hg1 hm8.below
          have FD : Fact (FrsOk 8 w8 B 121 d (deepF A2 cB 120)) := ⟨deepF_ok (hm8.rd m3) (FLo0.out.gr G4)⟩
          have FD1 : Fact (FrsOk 8 w8 B 1 d [⟨1, 1, A2, 2, cB, iv [1, 2]⟩]) := ⟨frs1 ((hm8.rd m3).pre 1 (by omega)) (FLo0.out.gr G4)⟩
          have c1 := hm8.cell m0 0 rfl
          have c2 := hm8.cell m0 1 rfl
          have c3 : w8.cell? ⟨gv, 0, none⟩ = some (.int .i64 1) := rng_gr FV0.out G4 0 _ rfl
          have c4 : w8.cell? ⟨gv, 1, none⟩ = some (.int .i64 1) := rng_gr FV0.out G4 1 _ rfl
          obtain ⟨gp, hgp⟩ : ∃ gp, gp = gh + 1 + 1 := ⟨_, rfl⟩
          rw [← hgp] at c1 c2
          simp only [← hgp]
          clear hgp
          obtain ⟨gf, hgf⟩ : ∃ gf, gf = gh + 1 := ⟨_, rfl⟩
          rw [← hgf] at c2 FP hpk
          simp only [← hgf]
          clear hgf FH2
          have hg7 := Fact.mk (Gr.trans hg4.out G4)
          clear hm8 G4 hg1
          refine wp_region_until (S := fun W => W.cell? ⟨gp, 0, none⟩ = some (.slice none 0 0) ∧ W.cell? ⟨gp, 1, none⟩ = some (.slice (some ⟨gf, 0, none⟩) 2 2) ∧ W.cell? ⟨gv, 0, none⟩ = some (.int .i64 1) ∧ W.cell? ⟨gv, 1, none⟩ = some (.int .i64 1)) 21 (by kernel_rfl) ?_
          have hgS := Gr.drew (Gr.refl w8)
          generalize w8.drew = wd at hgS ⊢
          refine wpAnyU_take 0 (v := ?vz1) rfl (by kernel_rfl) (by kernel_rfl) (fun _ _ _ h => h) ⟨Gr.cell hgS c1, Gr.cell hgS c2, Gr.cell hgS c3, Gr.cell hgS c4⟩ (Or.inl ⟨rfl, ?yz1⟩) ?rz1
          case yz1 =>
            intro W hW
            obtain ⟨hW0, hW1, hW2, hW3⟩ := hW
            go_simp
            try with_reducible rfl
          try simp only [Act.put, List.getElem_toArray, List.getElem_cons_succ, List.getElem_cons_zero, List.setIfInBounds_toArray, List.set_cons_zero, List.set_cons_succ]
          refine wpAnyU_take 1 (v := ?vz2) rfl (by kernel_rfl) (by kernel_rfl) (fun _ _ _ h => h) ⟨Gr.cell hgS c1, Gr.cell hgS c2, Gr.cell hgS c3, Gr.cell hgS c4⟩ (Or.inl ⟨rfl, ?yz2⟩) ?rz2
          case yz2 =>
            intro W hW
            obtain ⟨hW0, hW1, hW2, hW3⟩ := hW
            go_simp
            try with_reducible rfl
          try simp only [Act.put, List.getElem_toArray, List.getElem_cons_succ, List.getElem_cons_zero, List.setIfInBounds_toArray, List.set_cons_zero, List.set_cons_succ]
          refine wpAnyU_take 2 (v := ?vz3) rfl (by kernel_rfl) (by kernel_rfl) (fun _ _ _ h => h) ⟨Gr.cell hgS c1, Gr.cell hgS c2, Gr.cell hgS c3, Gr.cell hgS c4⟩ (Or.inl ⟨rfl, ?yz3⟩) ?rz3
          case yz3 =>
            intro W hW
            obtain ⟨hW0, hW1, hW2, hW3⟩ := hW
            go_simp
            try with_reducible rfl
          try simp only [Act.put, List.getElem_toArray, List.getElem_cons_succ, List.getElem_cons_zero, List.setIfInBounds_toArray, List.set_cons_zero, List.set_cons_succ]
          refine wpAnyU_one 3 (by kernel_rfl) rfl (fun K hK => ?_)
          refine step_call rfl 25 Tryz.f25 Tryz.func25 (by kernel_rfl) (by kernel_rfl) _ _ rfl #[.agg #[.slice none 0 0, .slice (some ⟨gf, 0, none⟩) 2 2], .slice B 121 d, .agg #[.int .i64 1, .int .i64 1]] (by simp [Act.eval]) ?_
          refine (catch_walk wd (pgB gf [F1, F2]) ⟨FP.out.gr hgS⟩ hpk.out 8 B 121 d (deepF A2 cB 120) ⟨FD.out.gr hgS⟩ (by omega) (by omega) 1 1).mono ?_
          rintro e u3 ⟨rfl, g4⟩
          have g5 := Gr.trans hgS g4
          refine ⟨_, rfl, hK _ _ (fun _ => ⟨Gr.cell g5 c1, Gr.cell g5 c2, Gr.cell g5 c3, Gr.cell g5 c4⟩) ?_⟩
          clear hK K
          try simp only [Act.put, List.getElem_toArray, List.getElem_cons_succ, List.getElem_cons_zero, List.setIfInBounds_toArray, List.set_cons_zero, List.set_cons_succ]
          refine wpAnyU_take 4 (v := ?vz4) rfl (by kernel_rfl) (by kernel_rfl) (fun _ _ _ h => h) ⟨Gr.cell g5 c1, Gr.cell g5 c2, Gr.cell g5 c3, Gr.cell g5 c4⟩ (Or.inl ⟨rfl, ?yz4⟩) ?rz4
          case yz4 =>
            intro W hW
            obtain ⟨hW0, hW1, hW2, hW3⟩ := hW
            go_simp
            try with_reducible rfl
          try simp only [Act.put, List.getElem_toArray, List.getElem_cons_succ, List.getElem_cons_zero, List.setIfInBounds_toArray, List.set_cons_zero, List.set_cons_succ]
          refine wpAnyU_take 5 (v := ?vz5) rfl (by kernel_rfl) (by kernel_rfl) (fun _ _ _ h => h) ⟨Gr.cell g5 c1, Gr.cell g5 c2, Gr.cell g5 c3, Gr.cell g5 c4⟩ (Or.inl ⟨rfl, ?yz5⟩) ?rz5
          case yz5 =>
            intro W hW
            obtain ⟨hW0, hW1, hW2, hW3⟩ := hW
            go_simp
            try with_reducible rfl
          try simp only [Act.put, List.getElem_toArray, List.getElem_cons_succ, List.getElem_cons_zero, List.setIfInBounds_toArray, List.set_cons_zero, List.set_cons_succ]
          refine wpAnyU_take 6 (v := ?vz6) rfl (by kernel_rfl) (by kernel_rfl) (fun _ _ _ h => h) ⟨Gr.cell g5 c1, Gr.cell g5 c2, Gr.cell g5 c3, Gr.cell g5 c4⟩ (Or.inl ⟨rfl, ?yz6⟩) ?rz6
          case yz6 =>
            intro W hW
            obtain ⟨hW0, hW1, hW2, hW3⟩ := hW
            go_simp
            try with_reducible rfl
          try simp only [Act.put, List.getElem_toArray, List.getElem_cons_succ, List.getElem_cons_zero, List.setIfInBounds_toArray, List.set_cons_zero, List.set_cons_succ]
          refine wpAnyU_take 7 (v := ?vz7) rfl (by kernel_rfl) (by kernel_rfl) (fun _ _ _ h => h) ⟨Gr.cell g5 c1, Gr.cell g5 c2, Gr.cell g5 c3, Gr.cell g5 c4⟩ (Or.inl ⟨rfl, ?yz7⟩) ?rz7
          case yz7 =>
            intro W hW
            obtain ⟨hW0, hW1, hW2, hW3⟩ := hW
            go_simp
            try with_reducible rfl
          try simp only [Act.put, List.getElem_toArray, List.getElem_cons_succ, List.getElem_cons_zero, List.setIfInBounds_toArray, List.set_cons_zero, List.set_cons_succ]
          refine wpAnyU_one 8 (by kernel_rfl) rfl (fun K hK => ?_)
          refine step_callw rfl 26 Tryz.f26 Tryz.func26 (by kernel_rfl) (by kernel_rfl) _ _ rfl #[.agg #[.slice none 0 0, .slice (some ⟨gf, 0, none⟩) 2 2], .slice B 121 d, .agg #[.int .i64 1, .int .i64 1]] (by simp [Act.eval]) ?_
          refine (return_walk u3 (pgB gf [F1, F2]) ⟨FP.out.gr g5⟩ hpk.out 8 B 121 d (deepF A2 cB 120) ⟨FD.out.gr g5⟩ (by omega) (by omega) 1 1).mono ?_
          rintro e u6 ⟨rfl, g7⟩
          have g8 := Gr.trans g5 g7
          refine ⟨_, rfl, hK _ _ (fun _ => ⟨Gr.cell g8 c1, Gr.cell g8 c2, Gr.cell g8 c3, Gr.cell g8 c4⟩) ?_⟩
          clear hK K
          try simp only [Act.put, List.getElem_toArray, List.getElem_cons_succ, List.getElem_cons_zero, List.setIfInBounds_toArray, List.set_cons_zero, List.set_cons_succ]
          refine wpAnyU_take 9 (v := ?vz8) rfl (by kernel_rfl) (by kernel_rfl) (fun _ _ _ h => h) ⟨Gr.cell g8 c1, Gr.cell g8 c2, Gr.cell g8 c3, Gr.cell g8 c4⟩ (Or.inl ⟨rfl, ?yz8⟩) ?rz8
          case yz8 =>
            intro W hW
            obtain ⟨hW0, hW1, hW2, hW3⟩ := hW
            go_simp
            try with_reducible rfl
          try simp only [Act.put, List.getElem_toArray, List.getElem_cons_succ, List.getElem_cons_zero, List.setIfInBounds_toArray, List.set_cons_zero, List.set_cons_succ]
          refine wpAnyU_take 10 (v := ?vz9) rfl (by kernel_rfl) (by kernel_rfl) (fun _ _ _ h => h) ⟨Gr.cell g8 c1, Gr.cell g8 c2, Gr.cell g8 c3, Gr.cell g8 c4⟩ (Or.inl ⟨rfl, ?yz9⟩) ?rz9
          case yz9 =>
            intro W hW
            obtain ⟨hW0, hW1, hW2, hW3⟩ := hW
            go_simp
            try with_reducible rfl
          try simp only [Act.put, List.getElem_toArray, List.getElem_cons_succ, List.getElem_cons_zero, List.setIfInBounds_toArray, List.set_cons_zero, List.set_cons_succ]
          refine wpAnyU_take 11 (v := ?vz10) rfl (by kernel_rfl) (by kernel_rfl) (fun _ _ _ h => h) ⟨Gr.cell g8 c1, Gr.cell g8 c2, Gr.cell g8 c3, Gr.cell g8 c4⟩ (Or.inl ⟨rfl, ?yz10⟩) ?rz10
          case yz10 =>
            intro W hW
            obtain ⟨hW0, hW1, hW2, hW3⟩ := hW
            go_simp
            try with_reducible rfl
          try simp only [Act.put, List.getElem_toArray, List.getElem_cons_succ, List.getElem_cons_zero, List.setIfInBounds_toArray, List.set_cons_zero, List.set_cons_succ]
          refine wpAnyU_take 12 (v := ?vz11) rfl (by kernel_rfl) (by kernel_rfl) (fun _ _ _ h => h) ⟨Gr.cell g8 c1, Gr.cell g8 c2, Gr.cell g8 c3, Gr.cell g8 c4⟩ (Or.inl ⟨rfl, ?yz11⟩) ?rz11
          case yz11 =>
            intro W hW
            obtain ⟨hW0, hW1, hW2, hW3⟩ := hW
            go_simp
            try with_reducible rfl
          try simp only [Act.put, List.getElem_toArray, List.getElem_cons_succ, List.getElem_cons_zero, List.setIfInBounds_toArray, List.set_cons_zero, List.set_cons_succ]
          refine wpAnyU_one 13 (by kernel_rfl) rfl (fun K hK => ?_)
          refine step_callw rfl 26 Tryz.f26 Tryz.func26 (by kernel_rfl) (by kernel_rfl) _ _ rfl #[.agg #[.slice none 0 0, .slice (some ⟨gf, 0, none⟩) 2 2], .slice none 0 0, .agg #[.int .i64 1, .int .i64 1]] (by simp [Act.eval]) ?_
          refine (return_walk u6 (pgB gf [F1, F2]) ⟨FP.out.gr g8⟩ hpk.out 8 none 0 0 [] ⟨(frs_nil _).gr g8⟩ (by omega) (by omega) 1 1).mono ?_
          rintro e u9 ⟨rfl, g10⟩
          have g11 := Gr.trans g8 g10
          refine ⟨_, rfl, hK _ _ (fun _ => ⟨Gr.cell g11 c1, Gr.cell g11 c2, Gr.cell g11 c3, Gr.cell g11 c4⟩) ?_⟩
          clear hK K
          try simp only [Act.put, List.getElem_toArray, List.getElem_cons_succ, List.getElem_cons_zero, List.setIfInBounds_toArray, List.set_cons_zero, List.set_cons_succ]
          refine wpAnyU_take 14 (v := ?vz12) rfl (by kernel_rfl) (by kernel_rfl) (fun _ _ _ h => h) ⟨Gr.cell g11 c1, Gr.cell g11 c2, Gr.cell g11 c3, Gr.cell g11 c4⟩ (Or.inl ⟨rfl, ?yz12⟩) ?rz12
          case yz12 =>
            intro W hW
            obtain ⟨hW0, hW1, hW2, hW3⟩ := hW
            go_simp
            try with_reducible rfl
          try simp only [Act.put, List.getElem_toArray, List.getElem_cons_succ, List.getElem_cons_zero, List.setIfInBounds_toArray, List.set_cons_zero, List.set_cons_succ]
          refine wpAnyU_take 15 (v := ?vz13) rfl (by kernel_rfl) (by kernel_rfl) (fun _ _ _ h => h) ⟨Gr.cell g11 c1, Gr.cell g11 c2, Gr.cell g11 c3, Gr.cell g11 c4⟩ (Or.inl ⟨rfl, ?yz13⟩) ?rz13
          case yz13 =>
            intro W hW
            obtain ⟨hW0, hW1, hW2, hW3⟩ := hW
            go_simp
            try with_reducible rfl
          try simp only [Act.put, List.getElem_toArray, List.getElem_cons_succ, List.getElem_cons_zero, List.setIfInBounds_toArray, List.set_cons_zero, List.set_cons_succ]
          refine wpAnyU_take 16 (v := ?vz14) rfl (by kernel_rfl) (by kernel_rfl) (fun _ _ _ h => h) ⟨Gr.cell g11 c1, Gr.cell g11 c2, Gr.cell g11 c3, Gr.cell g11 c4⟩ (Or.inl ⟨rfl, ?yz14⟩) ?rz14
          case yz14 =>
            intro W hW
            obtain ⟨hW0, hW1, hW2, hW3⟩ := hW
            go_simp
            try with_reducible rfl
          try simp only [Act.put, List.getElem_toArray, List.getElem_cons_succ, List.getElem_cons_zero, List.setIfInBounds_toArray, List.set_cons_zero, List.set_cons_succ]
          refine wpAnyU_take 17 (v := ?vz15) rfl (by kernel_rfl) (by kernel_rfl) (fun _ _ _ h => h) ⟨Gr.cell g11 c1, Gr.cell g11 c2, Gr.cell g11 c3, Gr.cell g11 c4⟩ (Or.inl ⟨rfl, ?yz15⟩) ?rz15
          case yz15 =>
            intro W hW
            obtain ⟨hW0, hW1, hW2, hW3⟩ := hW
            go_simp
            try with_reducible rfl
          try simp only [Act.put, List.getElem_toArray, List.getElem_cons_succ, List.getElem_cons_zero, List.setIfInBounds_toArray, List.set_cons_zero, List.set_cons_succ]
          refine wpAnyU_take 18 (v := ?vz16) rfl (by kernel_rfl) (by kernel_rfl) (fun _ _ _ h => h) ⟨Gr.cell g11 c1, Gr.cell g11 c2, Gr.cell g11 c3, Gr.cell g11 c4⟩ (Or.inl ⟨rfl, ?yz16⟩) ?rz16
          case yz16 =>
            intro W hW
            obtain ⟨hW0, hW1, hW2, hW3⟩ := hW
            go_simp
            try with_reducible rfl
          try simp only [Act.put, List.getElem_toArray, List.getElem_cons_succ, List.getElem_cons_zero, List.setIfInBounds_toArray, List.set_cons_zero, List.set_cons_succ]
          refine wpAnyU_take 19 (v := ?vz17) rfl (by kernel_rfl) (by kernel_rfl) (fun _ _ _ h => h) ⟨Gr.cell g11 c1, Gr.cell g11 c2, Gr.cell g11 c3, Gr.cell g11 c4⟩ (Or.inl ⟨rfl, ?yz17⟩) ?rz17
          case yz17 =>
            intro W hW
            obtain ⟨hW0, hW1, hW2, hW3⟩ := hW
            go_simp
            try with_reducible rfl
          try simp only [Act.put, List.getElem_toArray, List.getElem_cons_succ, List.getElem_cons_zero, List.setIfInBounds_toArray, List.set_cons_zero, List.set_cons_succ]
          refine wpAnyU_one 20 (by kernel_rfl) rfl (fun K hK => ?_)
          refine step_callw rfl 26 Tryz.f26 Tryz.func26 (by kernel_rfl) (by kernel_rfl) _ _ rfl #[.agg #[.slice none 0 0, .slice (some ⟨gf, 0, none⟩) 2 2], .slice B 1 d, .agg #[.int .i64 1, .int .i64 1]] (by simp [Act.eval]) ?_
          refine (return_walk u9 (pgB gf [F1, F2]) ⟨FP.out.gr g11⟩ hpk.out 8 B 1 d [⟨1, 1, A2, 2, cB, iv [1, 2]⟩] ⟨FD1.out.gr g11⟩ (by omega) (by omega) 1 1).mono ?_
          rintro e u12 ⟨rfl, g13⟩
          have g14 := Gr.trans g11 g13
          refine ⟨_, rfl, hK _ _ (fun _ => ⟨Gr.cell g14 c1, Gr.cell g14 c2, Gr.cell g14 c3, Gr.cell g14 c4⟩) ?_⟩
          clear hK K
          try simp only [Act.put, List.getElem_toArray, List.getElem_cons_succ, List.getElem_cons_zero, List.setIfInBounds_toArray, List.set_cons_zero, List.set_cons_succ]
          refine wpAnyU_one 21 (by kernel_rfl) rfl (fun K hK => ?_)
          go_simp
          refine hK _ _ (fun h => absurd h (by decide)) ?_
          clear hK K
          refine wpAnyU_one 22 (by kernel_rfl) rfl (fun K hK => ?_)
          go_simp
          refine hK _ _ (fun h => absurd h (by decide)) ?_
          clear hK K
          refine wpAnyU_done (by kernel_rfl) ?_ _
          have hg9 := Fact.mk (Gr.trans hg7.out g14)
          clear hgS
          go_wp2
          go_ret
          exact ⟨rfl, hg9.out⟩
end Go.Proofs.YtgflfpepfpekhaaGreat
namespace Go.Proofs.YtgflfpepfpekhaaGreat
open Go.RowKit Go.Mm
set_option maxHeartbeats 4000000
set_option maxRecDepth 100000
set_option linter.unusedSimpArgs false
def nilsE (n : Nat) : List V2 := List.replicate n (0, 0)
theorem nilsE_succ (n : Nat) : fV (nilsE (n + 1)) = fV (nilsE n) ++ [.int .i64 0, .int .i64 0] := by
  unfold nilsE
  rw [List.replicate_succ']
  simp [fV, cV]
theorem nilsE_ok (w : World) (n : Nat) (hn : n ≤ 8192) (N : Int) (hN : N = n) :
    Calls Tryz.prog 23 #[.int .i64 N] w fun e w' => ∃ (A : Option Addr) (c : Nat), e = .returned (.slice A n c) ∧ Mem w w' [Own 2 (.slice A n c) (fV (nilsE n))] := by
  subst hN
  obtain ⟨iV, hiV, hz0, hz1, hz2⟩ := info_parts inf_V
  go_enter Tryz.func23, Tryz.ntmps23
  go_wp2
  go_loopw [3, 4] (fun s3 s4 w' => ∃ (k : Nat) (A : Option Addr) (c : Nat), s4 = .int .i64 k ∧ k ≤ n ∧ s3 = .slice A k c ∧ Mem w w' [Own 2 (.slice A k c) (fV (nilsE k))]) (fun _ s4 _ => n - (intOf s4).toNat)
  case atStart => exact ⟨0, none, 0, rfl, by omega, rfl, (Mem.start w).nil 2 none⟩
  case round =>
    obtain ⟨k, A, c, rfl, hk, rfl, hmr⟩ := hrel
    by_cases hlt : k < n
    · go_wp2_with (at_builtin; refine wp_app rfl _ _ _ rfl 36 iV _ 2 16 ty_Vs hiV hz0 hz1 hz2 rfl A k c _ rfl (L := [Blk _ _]) (hmr.alloc _).swap _ 1 1 [.int .i64 0, .int .i64 0] rfl (RdC.lit _ _ _ _ _ rfl (by simp [maxLen]) (cV_one (0, 0))) (by unfold maxLen; omega) (by omega) ?_; intro A5 c5 w5 hm5)
      go_roundw
      case rel => exact ⟨k + 1, A5, c5, by go_num, by omega, rfl, by rw [nilsE_succ]; exact hm5.drop2⟩
      case measure => exact measC hlt
    · obtain rfl : k = n := by omega
      go_wp2
      go_ret
      exact ⟨A, c, rfl, hmr⟩
theorem rd_ints {w : World} {A : Option Addr} {c n : Nat} (h : RdC w 2 (.slice A 4 c) (fV (iv [7, 8, 9, 10]))) (hn : n ≤ 4) : RdC w 2 (.slice A n c) (fV (iv ([7, 8, 9, 10].take n))) := by
  have h1 := h.pre n hn
  have e : (fV (iv [7, 8, 9, 10])).take (n * 2) = fV (iv ([7, 8, 9, 10].take n)) := by
    rw [← fV_take]
    simp [iv, List.map_take]
  rwa [e] at h1
def localsE : List Int := [-1, 0, 1, 2, 63, 64, 65, 9223372036854775807]
theorem enters_ok (w : World) : Calls Tryz.prog 13 #[] w fun e w' => e = .returned (.bool true) ∧ Gr w w' := by
  go_enter Tryz.func13, Tryz.ntmps13
  go_upto_region 2 with (fail)
  have hm1 := (Mem.start w).alloc (.cells (nums .i64 localsE).toArray 3)
  generalize hgX : w.heap.size = gl at hm1 ⊢
  generalize hwX : w.alloc (.cells (nums .i64 localsE).toArray 3) = w1 at hm1
  refine wp_world hwX ?_
  clear hwX hgX
  have FL : Fact (RdC w1 1 (.slice (some ⟨gl, 0, none⟩) 8 8) (nums .i64 localsE)) := ⟨hm1.rdblk m0 8 1 rfl (by simp [maxLen]) (One.nums _ _)⟩
  have hg1 := Fact.mk hm1.below
  clear hm1
  go_wp2
  go_loopw [2] (fun s1 W => ∃ i : Nat, s1 = .int .i64 i ∧ i ≤ 8 ∧ Gr w1 W) (fun s1 _ => 8 - (intOf s1).toNat)
  case atStart => exact ⟨0, rfl, by omega, Gr.refl _⟩
  case round =>
    obtain ⟨i, rfl, hi, hg2⟩ := hrel
    by_cases h1 : i < 8
    · have e1 : ((i : Int) < 8) = True := eq_true (by omega)
      replace hg2 := Fact.mk hg2
      go_wp2
      go_loopw [3] (fun s2 W => ∃ j : Nat, s2 = .int .i64 (-1 + (j : Int)) ∧ j ≤ 5 ∧ Gr w1 W) (fun s2 _ => 5 - (intOf s2 - -1).toNat)
      case atStart => exact ⟨0, rfl, by omega, hg2.out⟩
      case round =>
        obtain ⟨j, rfl, hj, hg3⟩ := hrel
        clear hg2
        by_cases h2 : j < 5
        · have e2 : (-1 + (j : Int) < 4) = True := eq_true (by omega)
          obtain ⟨b1, o1, q1, r1, _⟩ := (FL.out.gr hg3).num i h1
          cases q1
          generalize localsE.getD i 0 = lc at r1
          rw [Nat.zero_add] at r1
          replace hg3 := Fact.mk hg3
          go_upto_region 9 with (fail)
          have hm3 := ((Mem.start wr).alloc (.cells (fF [fnB 0 0, fnB (-1 + (j : Int)) lc]).toArray 47)).alloc (.cells [.slice none 0 0, .slice (some ⟨wr.heap.size, 0, none⟩) 2 2].toArray 26)
          simp only [World.size_alloc] at hm3
          generalize hgX : wr.heap.size = gf at hm3 ⊢
          generalize hwX : ((wr.alloc (.cells (fF [fnB 0 0, fnB (-1 + (j : Int)) lc]).toArray 47)).alloc (.cells [.slice none 0 0, .slice (some ⟨gf, 0, none⟩) 2 2].toArray 26)) = w2 at hm3
          refine wp_world hwX ?_
          clear hwX hgX r1
          have FP : Fact (PgOk w2 (pgB gf [fnB 0 0, fnB (-1 + (j : Int)) lc])) := ⟨pgB_ok (hm3.rdblk m1 2 5 rfl (by simp [maxLen]) (One.flatMap cF_one _)) (fun f hf => by simp only [List.mem_cons, List.not_mem_nil, or_false] at hf; rcases hf with rfl | rfl <;> exact fnB_ok _ _ _) (by simp)⟩
          have FB := Fact.mk (rng_blk hm3 m0)
          obtain ⟨gp, hgp⟩ : ∃ gp, gp = gf + 1 := ⟨_, rfl⟩
          rw [← hgp] at FB
          simp only [← hgp]
          clear hgp
          have hg3' := Fact.mk (Gr.trans hg3.out hm3.below)
          clear hm3 hg3
          go_wp2
          go_loopw [5] (fun s3 W => ∃ n : Nat, s3 = .int .i64 n ∧ n ≤ 4 ∧ Gr w2 W) (fun s3 _ => 4 - (intOf s3).toNat)
          case atStart => exact ⟨0, rfl, by omega, Gr.refl _⟩
          case round =>
            obtain ⟨n, rfl, hn, hg5⟩ := hrel
            by_cases h3 : n < 4
            · have e3 : ((n : Int) < 4) = True := eq_true (by omega)
              replace hg5 := Fact.mk hg5
              go_wp2
              go_loopw [6] (fun s4 W => ∃ m : Nat, s4 = .int .i64 (-1 + (m : Int)) ∧ m ≤ 5 ∧ Gr w2 W) (fun s4 _ => 5 - (intOf s4 - -1).toNat)
              case atStart => exact ⟨0, rfl, by omega, hg5.out⟩
              case round =>
                obtain ⟨m, rfl, hm, hg4⟩ := hrel
                clear hg5
                by_cases h4 : m < 5
                · have e4 : (-1 + (m : Int) < 4) = True := eq_true (by omega)
                  have c1 : wr.cell? ⟨gp, 0, none⟩ = some (.slice none 0 0) := rng_gr FB.out hg4 0 _ rfl
                  have c2 : wr.cell? ⟨gp, 1, none⟩ = some (.slice (some ⟨gf, 0, none⟩) 2 2) := rng_gr FB.out hg4 1 _ rfl
                  replace hg4 := Fact.mk hg4
                  go_upto_region 15 with (fail)
                  refine wp_region_until (S := fun W => W.cell? ⟨gp, 0, none⟩ = some (.slice none 0 0) ∧ W.cell? ⟨gp, 1, none⟩ = some (.slice (some ⟨gf, 0, none⟩) 2 2)) 6 (by kernel_rfl) ?_
                  have hgS := Gr.drew (Gr.refl wr)
                  generalize wr.drew = wd at hgS ⊢
                  refine wpAnyU_take 0 (v := ?vv1) rfl (by kernel_rfl) (by kernel_rfl) (fun _ _ _ h => h) ⟨Gr.cell hgS c1, Gr.cell hgS c2⟩ (Or.inl ⟨rfl, ?yv1⟩) ?rv1
                  case yv1 =>
                    intro W hW
                    obtain ⟨hW0, hW1⟩ := hW
                    go_simp
                    try with_reducible rfl
                  try simp only [Act.put, List.setIfInBounds_toArray, List.set_cons_zero, List.set_cons_succ]
                  refine wpAnyU_take 1 (v := ?vv2) rfl (by kernel_rfl) (by kernel_rfl) (fun _ _ _ h => h) ⟨Gr.cell hgS c1, Gr.cell hgS c2⟩ (Or.inl ⟨rfl, ?yv2⟩) ?rv2
                  case yv2 =>
                    intro W hW
                    obtain ⟨hW0, hW1⟩ := hW
                    go_simp
                    try with_reducible rfl
                  try simp only [Act.put, List.setIfInBounds_toArray, List.set_cons_zero, List.set_cons_succ]
                  refine wpAnyU_take 4 (v := ?vv3) rfl (by kernel_rfl) (by kernel_rfl) (fun _ _ _ h => h) ⟨Gr.cell hgS c1, Gr.cell hgS c2⟩ (Or.inl ⟨rfl, ?yv3⟩) ?rv3
                  case yv3 =>
                    intro W hW
                    obtain ⟨hW0, hW1⟩ := hW
                    go_simp
                    try with_reducible rfl
                  try simp only [Act.put, List.setIfInBounds_toArray, List.set_cons_zero, List.set_cons_succ]
                  refine wpAnyU_one 2 (by kernel_rfl) rfl (fun K hK => ?_)
                  go_simp
                  have g3 := Gr.alloc (Gr.refl wd) (.cells [.int .i64 7, .int .i64 8, .int .i64 9, .int .i64 10].toArray 2)
                  have r5 : RdC (wd.alloc (.cells [.int .i64 7, .int .i64 8, .int .i64 9, .int .i64 10].toArray 2)) 1 (.slice (some ⟨wd.heap.size, 0, none⟩) 4 4) (nums .i64 [7, 8, 9, 10]) := RdC.lit wd (nums .i64 [7, 8, 9, 10]) 2 4 1 rfl (by simp [maxLen]) (One.nums _ _)
                  have g4 := Gr.trans hgS g3
                  generalize wd.heap.size = a2 at r5 ⊢
                  generalize wd.alloc (.cells [.int .i64 7, .int .i64 8, .int .i64 9, .int .i64 10].toArray 2) = u1 at g3 g4 r5 ⊢
                  clear g3
                  refine hK _ _ (fun _ => ⟨Gr.cell g4 c1, Gr.cell g4 c2⟩) ?_
                  clear hK K
                  try simp only [Act.put, List.getElem_toArray, List.getElem_cons_succ, List.getElem_cons_zero, List.setIfInBounds_toArray, List.set_cons_zero, List.set_cons_succ]
                  refine wpAnyU_one 3 (by kernel_rfl) rfl (fun K hK => ?_)
                  refine step_call rfl 8 Tryz.f8 Tryz.func8 (by kernel_rfl) (by kernel_rfl) _ _ rfl #[.slice (some ⟨a2, 0, none⟩) 4 4] (by simp [Act.eval]) ?_
                  refine (ints_ok u1 (some ⟨a2, 0, none⟩) 4 4 [7, 8, 9, 10] ⟨r5⟩ (by omega)).mono ?_
                  rintro e u6 ⟨A7, c8, rfl, hn9⟩
                  have g10 := hn9.gr
                  have r11 : RdC u6 2 (.slice A7 4 c8) (fV (iv [7, 8, 9, 10])) := hn9.ok.rd
                  have hcap := OwnAt.cap hn9.ok
                  have hcap4 : n ≤ c8 := by omega
                  have hcap5 : 4 ≤ c8 := by omega
                  have r12 := r5.gr g10
                  have g13 := Gr.trans g4 g10
                  refine ⟨_, rfl, hK _ _ (fun _ => ⟨Gr.cell g13 c1, Gr.cell g13 c2⟩) ?_⟩
                  clear hK K
                  try simp only [Act.put, List.getElem_toArray, List.getElem_cons_succ, List.getElem_cons_zero, List.setIfInBounds_toArray, List.set_cons_zero, List.set_cons_succ]
                  refine wpAnyU_take 5 (v := ?vv4) rfl (by kernel_rfl) (by kernel_rfl) (fun _ _ _ h => h) ⟨Gr.cell g13 c1, Gr.cell g13 c2⟩ (Or.inl ⟨rfl, ?yv4⟩) ?rv4
                  case yv4 =>
                    intro W hW
                    obtain ⟨hW0, hW1⟩ := hW
                    go_simp
                    try with_reducible rfl
                  try simp only [Act.put, List.setIfInBounds_toArray, List.set_cons_zero, List.set_cons_succ]
                  refine wpAnyU_one 6 (by kernel_rfl) rfl (fun K hK => ?_)
                  refine step_call rfl 22 Tryz.f22 Tryz.func22 (by kernel_rfl) (by kernel_rfl) _ _ rfl #[.agg #[.slice none 0 0, .slice (some ⟨gf, 0, none⟩) 2 2], .int .i64 (-1 + (m : Int)), .slice A7 n c8] (by simp [Act.eval]) ?_
                  refine (enter_walk u6 (pgB gf [fnB 0 0, fnB (-1 + (j : Int)) lc]) ⟨FP.out.gr (Gr.trans hg4.out g13)⟩ (by simp [pgB]) (-1 + (m : Int)) A7 n c8 (iv ([7, 8, 9, 10].take n)) ⟨rd_ints r11 (by omega)⟩ (by omega)).mono ?_
                  rintro e u14 ⟨rfl, g15⟩
                  have r16 := r12.gr g15
                  have r17 := r11.gr g15
                  have g18 := Gr.trans g13 g15
                  refine ⟨_, rfl, hK _ _ (fun _ => ⟨Gr.cell g18 c1, Gr.cell g18 c2⟩) ?_⟩
                  clear hK K
                  try simp only [Act.put, List.getElem_toArray, List.getElem_cons_succ, List.getElem_cons_zero, List.setIfInBounds_toArray, List.set_cons_zero, List.set_cons_succ]
                  refine wpAnyU_one 7 (by kernel_rfl) rfl (fun K hK => ?_)
                  go_simp
                  refine hK _ _ (fun h => absurd h (by decide)) ?_
                  clear hK K
                  refine wpAnyU_done (by kernel_rfl) ?_ _
                  have hg9 := Fact.mk (Gr.trans hg4.out g18)
                  clear hgS
                  go_wp2
                  go_roundw
                  case rel => exact ⟨m + 1, by go_num, by omega, hg9.out⟩
                  case measure => exact measD h4
                · have e4 : (-1 + (m : Int) < 4) = False := eq_false (by omega)
                  go_wp2
                  go_roundw
                  case rel => exact ⟨n + 1, by go_num, by omega, hg4⟩
                  case measure => exact measC h3
            · have e3 : ((n : Int) < 4) = False := eq_false (by omega)
              have hg6 := Fact.mk (Gr.trans hg3'.out hg5)
              go_wp2
              go_roundw
              case rel => exact ⟨j + 1, by go_num, by omega, hg6.out⟩
              case measure => exact measD h2
        · have e2 : (-1 + (j : Int) < 4) = False := eq_false (by omega)
          go_wp2
          go_roundw
          case rel => exact ⟨i + 1, by go_num, by omega, hg3⟩
          case measure => exact measC h1
    · have e1 : ((i : Int) < 8) = False := eq_false (by omega)
      have hg3 := Fact.mk (Gr.trans hg1.out hg2)
      go_upto_region 18 with (fail)
      have hm3 := ((Mem.start wr).alloc (.cells (fF [fnB 64 64, fnB 65 65]).toArray 47)).alloc (.cells [.slice none 0 0, .slice (some ⟨wr.heap.size, 0, none⟩) 2 2].toArray 26)
      simp only [World.size_alloc] at hm3
      generalize hgX : wr.heap.size = gf at hm3 ⊢
      generalize hwX : ((wr.alloc (.cells (fF [fnB 64 64, fnB 65 65]).toArray 47)).alloc (.cells [.slice none 0 0, .slice (some ⟨gf, 0, none⟩) 2 2].toArray 26)) = w8 at hm3
      refine wp_world hwX ?_
      clear hwX hgX
      have FP : Fact (PgOk w8 (pgB gf [fnB 64 64, fnB 65 65])) := ⟨pgB_ok (hm3.rdblk m1 2 5 rfl (by simp [maxLen]) (One.flatMap cF_one _)) (fun f hf => by simp only [List.mem_cons, List.not_mem_nil, or_false] at hf; rcases hf with rfl | rfl <;> exact fnB_ok _ _ _) (by simp)⟩
      have c1 := hm3.cell m0 0 rfl
      have c2 := hm3.cell m0 1 rfl
      obtain ⟨gp, hgp⟩ : ∃ gp, gp = gf + 1 := ⟨_, rfl⟩
      rw [← hgp] at c1 c2
      simp only [← hgp]
      clear hgp
      have hg5 := Fact.mk (Gr.trans hg3.out hm3.below)
      clear hm3 hg3
      refine wp_region_until (S := fun W => W.cell? ⟨gp, 0, none⟩ = some (.slice none 0 0) ∧ W.cell? ⟨gp, 1, none⟩ = some (.slice (some ⟨gf, 0, none⟩) 2 2)) 13 (by kernel_rfl) ?_
      have hgS := Gr.drew (Gr.refl w8)
      generalize w8.drew = wd at hgS ⊢
      refine wpAnyU_take 0 (v := ?vx1) rfl (by kernel_rfl) (by kernel_rfl) (fun _ _ _ h => h) ⟨Gr.cell hgS c1, Gr.cell hgS c2⟩ (Or.inl ⟨rfl, ?yx1⟩) ?rx1
      case yx1 =>
        intro W hW
        obtain ⟨hW0, hW1⟩ := hW
        go_simp
        try with_reducible rfl
      try simp only [Act.put, List.setIfInBounds_toArray, List.set_cons_zero, List.set_cons_succ]
      refine wpAnyU_one 1 (by kernel_rfl) rfl (fun K hK => ?_)
      refine step_call rfl 23 Tryz.f23 Tryz.func23 (by kernel_rfl) (by kernel_rfl) _ _ rfl #[.int .i64 64] (by simp [Act.eval]) ?_
      refine (nilsE_ok wd 64 (by omega) 64 rfl).mono ?_
      rintro e u19 ⟨A20, c21, rfl, hn22⟩
      have g23 := hn22.below
      have r24 : RdC u19 2 (.slice A20 64 c21) (fV (nilsE 64)) := hn22.rd m0
      have g25 := Gr.trans hgS g23
      refine ⟨_, rfl, hK _ _ (fun _ => ⟨Gr.cell g25 c1, Gr.cell g25 c2⟩) ?_⟩
      clear hK K
      try simp only [Act.put, List.getElem_toArray, List.getElem_cons_succ, List.getElem_cons_zero, List.setIfInBounds_toArray, List.set_cons_zero, List.set_cons_succ]
      refine wpAnyU_one 2 (by kernel_rfl) rfl (fun K hK => ?_)
      refine step_call rfl 22 Tryz.f22 Tryz.func22 (by kernel_rfl) (by kernel_rfl) _ _ rfl #[.agg #[.slice none 0 0, .slice (some ⟨gf, 0, none⟩) 2 2], .int .i64 0, .slice A20 64 c21] (by simp [Act.eval]) ?_
      refine (enter_walk u19 (pgB gf [fnB 64 64, fnB 65 65]) ⟨FP.out.gr g25⟩ (by simp [pgB]) 0 A20 64 c21 (nilsE 64) ⟨r24⟩ (by omega)).mono ?_
      rintro e u26 ⟨rfl, g27⟩
      have r28 := r24.gr g27
      have g29 := Gr.trans g25 g27
      refine ⟨_, rfl, hK _ _ (fun _ => ⟨Gr.cell g29 c1, Gr.cell g29 c2⟩) ?_⟩
      clear hK K
      try simp only [Act.put, List.getElem_toArray, List.getElem_cons_succ, List.getElem_cons_zero, List.setIfInBounds_toArray, List.set_cons_zero, List.set_cons_succ]
      refine wpAnyU_take 3 (v := ?vx2) rfl (by kernel_rfl) (by kernel_rfl) (fun _ _ _ h => h) ⟨Gr.cell g29 c1, Gr.cell g29 c2⟩ (Or.inl ⟨rfl, ?yx2⟩) ?rx2
      case yx2 =>
        intro W hW
        obtain ⟨hW0, hW1⟩ := hW
        go_simp
        try with_reducible rfl
      try simp only [Act.put, List.setIfInBounds_toArray, List.set_cons_zero, List.set_cons_succ]
      refine wpAnyU_take 4 (v := ?vx3) rfl (by kernel_rfl) (by kernel_rfl) (fun _ _ _ h => h) ⟨Gr.cell g29 c1, Gr.cell g29 c2⟩ (Or.inl ⟨rfl, ?yx3⟩) ?rx3
      case yx3 =>
        intro W hW
        obtain ⟨hW0, hW1⟩ := hW
        go_simp
        try with_reducible rfl
      try simp only [Act.put, List.setIfInBounds_toArray, List.set_cons_zero, List.set_cons_succ]
      refine wpAnyU_one 5 (by kernel_rfl) rfl (fun K hK => ?_)
      refine step_callw rfl 23 Tryz.f23 Tryz.func23 (by kernel_rfl) (by kernel_rfl) _ _ rfl #[.int .i64 65] (by simp [Act.eval]) ?_
      refine (nilsE_ok u26 65 (by omega) 65 rfl).mono ?_
      rintro e u30 ⟨A31, c32, rfl, hn33⟩
      have g34 := hn33.below
      have r35 : RdC u30 2 (.slice A31 65 c32) (fV (nilsE 65)) := hn33.rd m0
      have r36 := r28.gr g34
      have g37 := Gr.trans g29 g34
      refine ⟨_, rfl, hK _ _ (fun _ => ⟨Gr.cell g37 c1, Gr.cell g37 c2⟩) ?_⟩
      clear hK K
      try simp only [Act.put, List.getElem_toArray, List.getElem_cons_succ, List.getElem_cons_zero, List.setIfInBounds_toArray, List.set_cons_zero, List.set_cons_succ]
      refine wpAnyU_one 6 (by kernel_rfl) rfl (fun K hK => ?_)
      refine step_callw rfl 22 Tryz.f22 Tryz.func22 (by kernel_rfl) (by kernel_rfl) _ _ rfl #[.agg #[.slice none 0 0, .slice (some ⟨gf, 0, none⟩) 2 2], .int .i64 1, .slice A31 65 c32] (by simp [Act.eval]) ?_
      refine (enter_walk u30 (pgB gf [fnB 64 64, fnB 65 65]) ⟨FP.out.gr g37⟩ (by simp [pgB]) 1 A31 65 c32 (nilsE 65) ⟨r35⟩ (by omega)).mono ?_
      rintro e u38 ⟨rfl, g39⟩
      have r40 := r35.gr g39
      have g41 := Gr.trans g37 g39
      refine ⟨_, rfl, hK _ _ (fun _ => ⟨Gr.cell g41 c1, Gr.cell g41 c2⟩) ?_⟩
      clear hK K
      try simp only [Act.put, List.getElem_toArray, List.getElem_cons_succ, List.getElem_cons_zero, List.setIfInBounds_toArray, List.set_cons_zero, List.set_cons_succ]
      refine wpAnyU_take 7 (v := ?vx4) rfl (by kernel_rfl) (by kernel_rfl) (fun _ _ _ h => h) ⟨Gr.cell g41 c1, Gr.cell g41 c2⟩ (Or.inl ⟨rfl, ?yx4⟩) ?rx4
      case yx4 =>
        intro W hW
        obtain ⟨hW0, hW1⟩ := hW
        go_simp
        try with_reducible rfl
      try simp only [Act.put, List.setIfInBounds_toArray, List.set_cons_zero, List.set_cons_succ]
      refine wpAnyU_take 8 (v := ?vx5) rfl (by kernel_rfl) (by kernel_rfl) (fun _ _ _ h => h) ⟨Gr.cell g41 c1, Gr.cell g41 c2⟩ (Or.inl ⟨rfl, ?yx5⟩) ?rx5
      case yx5 =>
        intro W hW
        obtain ⟨hW0, hW1⟩ := hW
        go_simp
        try with_reducible rfl
      try simp only [Act.put, List.setIfInBounds_toArray, List.set_cons_zero, List.set_cons_succ]
      refine wpAnyU_take 9 (v := ?vx6) rfl (by kernel_rfl) (by kernel_rfl) (fun _ _ _ h => h) ⟨Gr.cell g41 c1, Gr.cell g41 c2⟩ (Or.inl ⟨rfl, ?yx6⟩) ?rx6
      case yx6 =>
        intro W hW
        obtain ⟨hW0, hW1⟩ := hW
        go_simp
        try with_reducible rfl
      try simp only [Act.put, List.setIfInBounds_toArray, List.set_cons_zero, List.set_cons_succ]
      refine wpAnyU_one 10 (by kernel_rfl) rfl (fun K hK => ?_)
      refine step_callw rfl 23 Tryz.f23 Tryz.func23 (by kernel_rfl) (by kernel_rfl) _ _ rfl #[.int .i64 65] (by simp [Act.eval]) ?_
      refine (nilsE_ok u38 65 (by omega) 65 rfl).mono ?_
      rintro e u42 ⟨A43, c44, rfl, hn45⟩
      have g46 := hn45.below
      have r47 : RdC u42 2 (.slice A43 65 c44) (fV (nilsE 65)) := hn45.rd m0
      have r48 := r40.gr g46
      have g49 := Gr.trans g41 g46
      refine ⟨_, rfl, hK _ _ (fun _ => ⟨Gr.cell g49 c1, Gr.cell g49 c2⟩) ?_⟩
      clear hK K
      try simp only [Act.put, List.getElem_toArray, List.getElem_cons_succ, List.getElem_cons_zero, List.setIfInBounds_toArray, List.set_cons_zero, List.set_cons_succ]
      refine wpAnyU_one 11 (by kernel_rfl) rfl (fun K hK => ?_)
      refine step_callw rfl 22 Tryz.f22 Tryz.func22 (by kernel_rfl) (by kernel_rfl) _ _ rfl #[.agg #[.slice none 0 0, .slice (some ⟨gf, 0, none⟩) 2 2], .int .i64 0, .slice A43 65 c44] (by simp [Act.eval]) ?_
      refine (enter_walk u42 (pgB gf [fnB 64 64, fnB 65 65]) ⟨FP.out.gr g49⟩ (by simp [pgB]) 0 A43 65 c44 (nilsE 65) ⟨r47⟩ (by omega)).mono ?_
      rintro e u50 ⟨rfl, g51⟩
      have r52 := r47.gr g51
      have g53 := Gr.trans g49 g51
      refine ⟨_, rfl, hK _ _ (fun _ => ⟨Gr.cell g53 c1, Gr.cell g53 c2⟩) ?_⟩
      clear hK K
      try simp only [Act.put, List.getElem_toArray, List.getElem_cons_succ, List.getElem_cons_zero, List.setIfInBounds_toArray, List.set_cons_zero, List.set_cons_succ]
      refine wpAnyU_take 12 (v := ?vx7) rfl (by kernel_rfl) (by kernel_rfl) (fun _ _ _ h => h) ⟨Gr.cell g53 c1, Gr.cell g53 c2⟩ (Or.inl ⟨rfl, ?yx7⟩) ?rx7
      case yx7 =>
        intro W hW
        obtain ⟨hW0, hW1⟩ := hW
        go_simp
        try with_reducible rfl
      try simp only [Act.put, List.setIfInBounds_toArray, List.set_cons_zero, List.set_cons_succ]
      refine wpAnyU_one 13 (by kernel_rfl) rfl (fun K hK => ?_)
      go_simp
      refine hK _ _ (fun h => absurd h (by decide)) ?_
      clear hK K
      refine wpAnyU_done (by kernel_rfl) ?_ _
      have hg9 := Fact.mk (Gr.trans hg5.out g53)
      clear hgS
      go_wp2
      go_ret
      exact ⟨rfl, hg9.out⟩
end Go.Proofs.YtgflfpepfpekhaaGreat
namespace Go.Proofs.YtgflfpepfpekhaaGreat
open Go.RowKit Go.Mm
set_option maxHeartbeats 1000000
set_option maxRecDepth 100000
set_option linter.unusedSimpArgs false
theorem nums_drop (k : IntKind) (xs : List Int) (n : Nat) : nums k (xs.drop n) = (nums k xs).drop n := by simp [nums, List.map_drop]
theorem take_snocS (xs : List Int) (k : Nat) (h : k < xs.length) : xs.take (k + 1) = xs.take k ++ [xs.getD k 0] := by
  rw [List.take_succ_eq_append_getElem h]; simp [h]
theorem copyLongsS_ok (w : World) (A : Option Addr) (n c : Nat) (xs : List Int) (hx : Fact (RdC w 1 (.slice A n c) (nums .i64 xs))) (hn : n ≤ 16777216) :
    Calls Tryz.prog 52 #[.slice A n c] w fun e w' => ∃ A' c', e = .returned (.slice A' n c') ∧ New w w' (Own 1 (.slice A' n c') (nums .i64 xs)) := by
  obtain ⟨iV, hi, hz0, hz1, hz2⟩ := info_parts inf_long
  have hl := Fact.mk hx.out.nlen
  go_enter Tryz.func52, Tryz.ntmps52
  go_wp2
  go_loopw [3, 4] (fun l v w' => ∃ (k : Nat) (A' : Option Addr) (c' : Nat), v = .int .i64 k ∧ k ≤ n ∧ l = .slice A' k c' ∧ Mem w w' [Own 1 (.slice A' k c') (nums .i64 (xs.take k))]) (fun _ v _ => n - (intOf v).toNat)
  case atStart => exact ⟨0, none, 0, rfl, by omega, rfl, (Mem.start w).nil 1 none⟩
  case round =>
    obtain ⟨k, A', c', rfl, hk, rfl, hm⟩ := hrel
    by_cases hlt : k < n
    · obtain ⟨b, o, rfl, g1, _⟩ := hx.out.num k hlt
      have g1 := Gr.cell hm.below g1
      have ht := Fact.mk (take_snocS xs k (by have := hl.out; omega))
      generalize xs.getD k 0 = x at g1 ht
      go_wp2_with (at_builtin; refine wp_app rfl _ _ _ rfl 2 iV _ 1 8 ty_longs hi hz0 hz1 hz2 rfl A' k c' _ rfl (L := [Blk _ _]) (hm.alloc _).swap _ 1 1 [.int .i64 x] rfl (RdC.lit _ _ _ _ _ rfl (by simp [maxLen]) (One.nums .i64 [x])) (by unfold maxLen; omega) (by omega) ?_; intro A1 c1 w1 HM1)
      go_roundw
      case rel => exact ⟨k + 1, A1, c1, by go_num, by omega, rfl, by rw [ht.out, nums_append]; exact HM1.only⟩
      case measure => simp [intOf]; omega
    · obtain rfl : k = n := by omega
      rw [List.take_of_length_le (by have := hl.out; omega)] at hm
      go_wp2
      go_ret
      exact ⟨A', c', rfl, hm.new_of⟩
theorem refPush_ok (w : World) (A B : Option Addr) (n c m d : Nat) (xs ys : List Int) (hx : Fact (RdC w 1 (.slice A n c) (nums .i64 xs))) (hy : Fact (RdC w 1 (.slice B m d) (nums .i64 ys))) (hn : n + m ≤ 16777216) :
    Calls Tryz.prog 54 #[.slice A n c, .slice B m d] w fun e w' => ∃ A' c', e = .returned (.slice A' (n + m) c') ∧ New w w' (Own 1 (.slice A' (n + m) c') (nums .i64 (xs ++ ys))) := by
  obtain ⟨iV, hi, hz0, hz1, hz2⟩ := info_parts inf_long
  have hl := Fact.mk hy.out.nlen
  go_enter Tryz.func54, Tryz.ntmps54
  go_wp2_with fail
  refine (copyLongsS_ok w A n c xs hx (by omega)).mono ?_
  rintro e w1 ⟨A1, c1, rfl, hn1⟩
  have hm1 := (Mem.start w).new hn1
  go_wp2
  go_loopw [5, 6] (fun l v w' => ∃ (k : Nat) (A' : Option Addr) (c' : Nat), v = .int .i64 k ∧ k ≤ m ∧ l = .slice A' (n + k) c' ∧ Mem w w' [Own 1 (.slice A' (n + k) c') (nums .i64 (xs ++ ys.take k))]) (fun _ v _ => m - (intOf v).toNat)
  case atStart => exact ⟨0, A1, c1, rfl, by omega, rfl, by simpa using hm1⟩
  case round =>
    clear hm1 hn1
    obtain ⟨k, A', c', rfl, hk, rfl, hm⟩ := hrel
    by_cases hlt : k < m
    · obtain ⟨b, o, rfl, g1, _⟩ := hy.out.num k hlt
      have g1 := Gr.cell hm.below g1
      have ht := Fact.mk (take_snocS ys k (by have := hl.out; omega))
      generalize ys.getD k 0 = x at g1 ht
      go_wp2_with (at_builtin; refine wp_app rfl _ _ _ rfl 2 iV _ 1 8 ty_longs hi hz0 hz1 hz2 rfl A' (n + k) c' _ rfl (L := [Blk _ _]) (hm.alloc _).swap _ 1 1 [.int .i64 x] rfl (RdC.lit _ _ _ _ _ rfl (by simp [maxLen]) (One.nums .i64 [x])) (by unfold maxLen; omega) (by omega) ?_; intro A1 c1 w1 HM1)
      go_roundw
      case rel => exact ⟨k + 1, A1, c1, by go_num, by omega, rfl, by rw [ht.out, ← List.append_assoc, nums_append]; exact HM1.only⟩
      case measure => simp [intOf]; omega
    · obtain rfl : k = m := by omega
      rw [List.take_of_length_le (by have := hl.out; omega)] at hm
      go_wp2
      go_ret
      exact ⟨A', c', rfl, hm.new_of⟩
theorem refCut_no (w : World) (A : Option Addr) (n c : Nat) (K : Int) (hK : K < 0 ∨ (n : Int) < K) :
    Calls Tryz.prog 80 #[.slice A n c, .int .i64 K] w fun e w' => e = .returned (.tuple #[.slice A n c, .bool false]) ∧ w' = w := by
  go_enter Tryz.func80, Tryz.ntmps80
  rcases hK with hk | hk
  · go_wp2
    go_ret2
    exact ⟨rfl, rfl⟩
  · have hk0 : (K < 0) = False := by simp; omega
    go_wp2
    go_ret2
    exact ⟨rfl, rfl⟩
theorem refCut_ok (w : World) (A : Option Addr) (n c : Nat) (xs : List Int) (hx : Fact (RdC w 1 (.slice A n c) (nums .i64 xs))) (hn : n ≤ 16777216) (k : Nat) (hk : k ≤ n) (K : Int) (hK : K = k) :
    Calls Tryz.prog 80 #[.slice A n c, .int .i64 K] w fun e w' => ∃ A' c', e = .returned (.tuple #[.slice A' k c', .bool true]) ∧ New w w' (Own 1 (.slice A' k c') (nums .i64 (xs.take k))) := by
  subst hK
  have hcn : n ≤ c := by obtain ⟨_, _, _, e, _, h, _⟩ := hx.out; cases e; exact h
  have hkc : k ≤ c := by omega
  have hr : Fact (RdC w 1 (.slice A k c) (nums .i64 (xs.take k))) := ⟨by have h := hx.out.pre k hk; rw [Nat.mul_one, ← nums_take] at h; exact h⟩
  go_enter Tryz.func80, Tryz.ntmps80
  go_wp2_with fail
  refine (copyLongsS_ok w A k c (xs.take k) hr (by omega)).mono ?_
  rintro e w1 ⟨A1, c1, rfl, hn1⟩
  go_wp2
  go_ret2
  exact ⟨A1, c1, rfl, hn1⟩
theorem refTop_no (w : World) (A : Option Addr) (n c : Nat) (K : Int) (hK : K < 0 ∨ (n : Int) ≤ K) :
    Calls Tryz.prog 78 #[.slice A n c, .int .i64 K] w fun e w' => e = .returned (.tuple #[.int .i64 0, .bool false]) ∧ w' = w := by
  go_enter Tryz.func78, Tryz.ntmps78
  rcases hK with hk | hk
  · go_wp2
    go_ret2
    exact ⟨rfl, rfl⟩
  · have hk0 : (K < 0) = False := by simp; omega
    go_wp2
    go_ret2
    exact ⟨rfl, rfl⟩
theorem refTop_ok (w : World) (A : Option Addr) (n c : Nat) (xs : List Int) (hx : Fact (RdC w 1 (.slice A n c) (nums .i64 xs))) (hn : n ≤ 16777216) (k : Nat) (hk : k < n) (K : Int) (hK : K = k) :
    Calls Tryz.prog 78 #[.slice A n c, .int .i64 K] w fun e w' => e = .returned (.tuple #[.int .i64 (xs.getD (n - 1 - k) 0), .bool true]) ∧ w' = w := by
  subst hK
  obtain ⟨b, o, rfl, g1, _⟩ := hx.out.num (n - 1 - k) (by omega)
  generalize xs.getD (n - 1 - k) 0 = x at g1
  have e1 : (n : Int) - 1 - (k : Int) = ((n - 1 - k : Nat) : Int) := by omega
  have e2 : n - 1 - k < n := by omega
  go_enter Tryz.func78, Tryz.ntmps78
  go_wp2
  go_ret2
  exact ⟨rfl, rfl⟩
def markL (i : Nat) : Int := -100 - (i : Int)
def marksL (k : Nat) : List Int := (List.range k).map markL
theorem marksL_succ (k : Nat) : marksL (k + 1) = marksL k ++ [markL k] := by simp [marksL, List.range_succ]
theorem lentL_ok (w : World) (A : Option Addr) (n c : Nat) (xs : List Int) (hx : Fact (RdC w 1 (.slice A n c) (nums .i64 xs))) (hn : n ≤ 16777216) :
    Calls Tryz.prog 51 #[.slice A n c] w fun e w' => ∃ A' c', e = .returned (.slice A' (n + 64) c') ∧ New w w' (Own 1 (.slice A' (n + 64) c') (nums .i64 (xs ++ marksL 64))) := by
  obtain ⟨iV, hi, hz0, hz1, hz2⟩ := info_parts inf_long
  go_enter Tryz.func51, Tryz.ntmps51
  go_wp2_with fail
  refine (copyLongsS_ok w A n c xs hx (by omega)).mono ?_
  rintro e w1 ⟨A1, c1, rfl, hn1⟩
  have hm1 := (Mem.start w).new hn1
  go_wp2
  go_loopw [3, 4] (fun l v w' => ∃ (k : Nat) (A' : Option Addr) (c' : Nat), v = .int .i64 k ∧ k ≤ 64 ∧ l = .slice A' (n + k) c' ∧ Mem w w' [Own 1 (.slice A' (n + k) c') (nums .i64 (xs ++ marksL k))]) (fun _ v _ => 64 - (intOf v).toNat)
  case atStart => exact ⟨0, A1, c1, rfl, by omega, rfl, by simpa [marksL] using hm1⟩
  case round =>
    clear hm1 hn1
    obtain ⟨k, A', c', rfl, hk, rfl, hm⟩ := hrel
    by_cases hlt : k < 64
    · go_wp2_with (at_builtin; refine wp_app rfl _ _ _ rfl 2 iV _ 1 8 ty_longs hi hz0 hz1 hz2 rfl A' (n + k) c' _ rfl (L := [Blk _ _]) (hm.alloc _).swap _ 1 1 [.int .i64 (-100 - (k : Int))] rfl (RdC.lit _ _ _ _ _ rfl (by simp [maxLen]) (One.nums .i64 [-100 - (k : Int)])) (by unfold maxLen; omega) (by omega) ?_; intro A1 c1 w1 HM1)
      go_roundw
      case rel => exact ⟨k + 1, A1, c1, by go_num, by omega, rfl, by rw [marksL_succ, ← List.append_assoc, nums_append]; exact HM1.only⟩
      case measure => simp [intOf]; omega
    · obtain rfl : k = 64 := by omega
      go_wp2
      go_ret
      exact ⟨A', c', rfl, hm.new_of⟩
theorem keptL_ok (w0 w : World) (L : List Chunk) (A B : Option Addr) (n c d : Nat) (xs : List Int) (hm : Mem w0 w (Own 1 (.slice A (n + 64) c) (nums .i64 (xs ++ marksL 64)) :: L)) (hy : Fact (RdC w0 1 (.slice B n d) (nums .i64 xs))) (hn : n ≤ 16777216) :
    Calls Tryz.prog 55 #[.slice A (n + 64) c, .slice B n d] w fun e w' => e = .returned (.bool true) ∧ Mem w0 w' L := by
  have hl := Fact.mk hy.out.nlen
  obtain ⟨gb, ob, rfl⟩ := OwnAt.addr (hm.ok _ m0) (by have := OwnAt.cap (hm.ok _ m0); omega)
  go_enter Tryz.func55, Tryz.ntmps55
  go_wp2
  go_loopw [5] (fun v w' => ∃ (k : Nat) (zs : List Int), v = .int .i64 k ∧ k ≤ n + 64 ∧ Mem w0 w' (Own 1 (.slice (some ⟨gb, ob, none⟩) (n + 64) c) (nums .i64 zs) :: L) ∧ Fact (zs.length = n + 64 ∧ ∀ j, k ≤ j → zs.getD j 0 = (xs ++ marksL 64).getD j 0)) (fun v _ => n + 64 - (intOf v).toNat)
  case atStart => exact ⟨0, xs ++ marksL 64, rfl, by omega, hm, ⟨by have := hl.out; simp [marksL]; omega, fun j _ => rfl⟩⟩
  case round =>
    clear hm
    obtain ⟨k, zs, rfl, hk, hm, hz⟩ := hrel
    by_cases hlt : k < n + 64
    · have hzk := hz.out.2 k (Nat.le_refl _)
      have hkl : k < zs.length := by have := hz.out.1; omega
      have hj0 : (nums .i64 zs)[k]? = some (.int .i64 (zs.getD k 0)) := nums_getD .i64 zs k hkl
      obtain ⟨g1, g2⟩ := hm.own_cell m0 k hj0
      have hm2 := hm.own_set k (by simpa using hkl) (.int .i64 (-99)) rfl
      rw [nums_set] at hm2
      have hnext : Fact ((zs.set k (-99)).length = n + 64 ∧ ∀ j, k + 1 ≤ j → (zs.set k (-99)).getD j 0 = (xs ++ marksL 64).getD j 0) := ⟨by
        have h1 := hz.out.1
        refine ⟨by simpa using h1, fun j hj => ?_⟩
        rw [getD_set _ _ _ _ _ hkl, if_neg (by omega)]
        exact hz.out.2 j (by omega)⟩
      by_cases hk2 : k < n
      · obtain ⟨b, o, rfl, a1, _⟩ := hy.out.num k hk2
        have a1 := Gr.cell hm.below a1
        have e1 : (xs ++ marksL 64).getD k 0 = xs.getD k 0 := by rw [List.getD_eq_getElem?_getD, List.getElem?_append_left (by have := hl.out; omega), ← List.getD_eq_getElem?_getD]
        rw [hzk, e1] at g1
        clear hzk e1 hj0 hm
        generalize xs.getD k 0 = x at a1 g1
        go_wp2
        go_roundw
        case rel => exact ⟨k + 1, zs.set k (-99), by go_num, by omega, hm2, hnext⟩
        case measure => simp [intOf]; omega
      · have e1 : (xs ++ marksL 64).getD k 0 = -100 - ((k : Int) - (n : Int)) := by
          rw [List.getD_eq_getElem?_getD, List.getElem?_append_right (by have := hl.out; omega), hl.out]
          have h1 : k - n < 64 := by omega
          rw [marksL, List.getElem?_map, List.getElem?_range h1]
          simp [markL]; omega
        rw [hzk, e1] at g1
        have e2 : IntKind.i64.wrap ((k : Int) - (n : Int)) = (k : Int) - n := IntWalk.i64_in _ (by omega)
        have e3 : IntKind.i64.wrap (-100 - ((k : Int) - (n : Int))) = -100 - ((k : Int) - n) := IntWalk.i64_in _ (by omega)
        clear hzk e1 hj0 hm
        go_wp2
        go_roundw
        case rel => exact ⟨k + 1, zs.set k (-99), by go_num, by omega, hm2, hnext⟩
        case measure => simp [intOf]; omega
    · go_wp2
      go_ret
      exact ⟨rfl, hm.tail⟩
theorem popNo2_ok (w0 w : World) (L : List Chunk) (g : Nat) (A : Option Addr) (n c : Nat) (t : TypeId) (hm : Mem w0 w L) (hg : Blk g (.cells [.slice A n c].toArray t) ∈ L) (hn : n ≤ 16777216) (k : Int) (hk : k < 0 ∨ (n : Int) < k) (hk2 : k ≤ 9223372036854775807) :
    Calls Tryz.prog 57 #[.pointer (some ⟨g, 0, none⟩), .int .i64 k] w fun e w' => e = .returned (.tuple #[.slice none 0 0, .bool false]) ∧ w' = w := by
  have c1 := hm.cell hg 0 rfl
  go_enter Tryz.func57, Tryz.ntmps57
  rcases hk with hk | hk
  · go_wp2
    go_ret2
    exact ⟨rfl, rfl⟩
  · have hk0 : (k < 0) = False := by simp; omega
    have e1 : IntKind.i64.wrap ((n : Int) - k) = n - k := IntWalk.i64_in _ (by omega)
    have hk1 : ((n : Int) - k < 0) = True := by simp; omega
    go_wp2
    go_ret2
    exact ⟨rfl, rfl⟩
theorem topNo_ok (w0 w : World) (L : List Chunk) (g : Nat) (A : Option Addr) (n c : Nat) (t : TypeId) (hm : Mem w0 w L) (hg : Blk g (.cells [.slice A n c].toArray t) ∈ L) (k : Int) (hk : k < 0 ∨ (n : Int) ≤ k) :
    Calls Tryz.prog 79 #[.pointer (some ⟨g, 0, none⟩), .int .i64 k] w fun e w' => e = .returned (.tuple #[.int .i64 0, .bool false]) ∧ w' = w := by
  have c1 := hm.cell hg 0 rfl
  go_enter Tryz.func79, Tryz.ntmps79
  rcases hk with hk | hk
  · go_wp2
    go_ret2
    exact ⟨rfl, rfl⟩
  · have hk0 : (k < 0) = False := by simp; omega
    go_wp2
    go_ret2
    exact ⟨rfl, rfl⟩
theorem refPop_no (w : World) (A : Option Addr) (n c : Nat) (K : Int) (hK : K < 0 ∨ (n : Int) < K) :
    Calls Tryz.prog 56 #[.slice A n c, .int .i64 K] w fun e w' => e = .returned (.tuple #[.slice A n c, .slice none 0 0, .bool false]) ∧ w' = w := by
  go_enter Tryz.func56, Tryz.ntmps56
  rcases hK with hk | hk
  · go_wp2
    go_ret3
    exact ⟨rfl, rfl⟩
  · have hk0 : (K < 0) = False := by simp; omega
    go_wp2
    go_ret3
    exact ⟨rfl, rfl⟩
end Go.Proofs.YtgflfpepfpekhaaGreat
namespace Go.Proofs.YtgflfpepfpekhaaGreat
open Go.RowKit Go.Mm
set_option maxHeartbeats 2000000
set_option maxRecDepth 100000
set_option linter.unusedSimpArgs false
theorem refPop_ok (w : World) (A : Option Addr) (n c : Nat) (xs : List Int) (hx : Fact (RdC w 1 (.slice A n c) (nums .i64 xs))) (hn : n ≤ 16777216) (k : Nat) (hk : k ≤ n) (K : Int) (hK : K = k) (hA : c ≠ 0 → ∃ b o, A = some ⟨b, o, none⟩) :
    Calls Tryz.prog 56 #[.slice A n c, .int .i64 K] w fun e w' => ∃ A1 c1 A2 c2, e = .returned (.tuple #[.slice A1 (n - k) c1, .slice A2 k c2, .bool true]) ∧ Mem w w' [Own 1 (.slice A2 k c2) (nums .i64 (xs.drop (n - k))), Own 1 (.slice A1 (n - k) c1) (nums .i64 (xs.take (n - k)))] := by
  subst hK
  have hcn : n ≤ c := by obtain ⟨_, _, _, e, _, h, _⟩ := hx.out; cases e; exact h
  obtain ⟨q, hq⟩ : ∃ q, Fact (n - k = q) := ⟨_, ⟨rfl⟩⟩
  rw [hq.out]
  have hqn : q ≤ n := by have := hq.out; omega
  have hqc : q ≤ c := by omega
  have e1 : (n : Int) - (k : Int) = (q : Int) := by have := hq.out; omega
  have e2 : n - q = k := by have := hq.out; omega
  have e0 : ((k : Int) > (n : Int)) = False := eq_false (by omega)
  have hr1 : Fact (RdC w 1 (.slice A q c) (nums .i64 (xs.take q))) := ⟨by have h := hx.out.pre q hqn; rw [Nat.mul_one, ← nums_take] at h; exact h⟩
  by_cases hc : q = c
  · obtain rfl : n = c := by omega
    obtain rfl : k = 0 := by omega
    obtain rfl : n = q := by omega
    clear e1 e2 e0 hq hc hqc hqn hcn hA
    have hr2 : ∀ (X : Option Addr), Fact (RdC w 1 (.slice X 0 0) (nums .i64 (xs.drop n))) := fun X => ⟨by
      rw [List.drop_eq_nil_of_le (by have := hx.out.nlen; omega)]
      exact RdC.empty _ _ _ _ (by simp)⟩
    go_enter Tryz.func56, Tryz.ntmps56
    go_upto_region 4 with (fail)
    go_cut [4, 5, 6] (fun s4 s5 s6 W => ∃ A1 c1 A2 c2, s4 = .slice A1 n c1 ∧ s5 = .slice A2 0 c2 ∧ s6 = .bool true ∧ Mem w W [Own 1 (.slice A2 0 c2) (nums .i64 (xs.drop n)), Own 1 (.slice A1 n c1) (nums .i64 (xs.take n))])
    case first =>
      have hgS := (Gr.refl w).drew
      have hmS := (Mem.start w).drew
      refine wp_region_until (S := fun W => True) 8 (by kernel_rfl) ?_
      generalize w.drew = wd at hgS hmS ⊢
      refine wpAnyU_take 0 (v := ?vv41) rfl (by kernel_rfl) (by kernel_rfl) (fun _ _ _ h => h) trivial (Or.inl ⟨rfl, ?yv41⟩) ?rv41
      case yv41 =>
        intro W hW
        go_simp
        try with_reducible rfl
      try simp only [Act.put, List.getElem_toArray, List.getElem_cons_succ, List.getElem_cons_zero, List.setIfInBounds_toArray, List.set_cons_zero, List.set_cons_succ]
      refine wpAnyU_take 1 (v := ?vv42) rfl (by kernel_rfl) (by kernel_rfl) (fun _ _ _ h => h) trivial (Or.inl ⟨rfl, ?yv42⟩) ?rv42
      case yv42 =>
        intro W hW
        go_simp
        try with_reducible rfl
      try simp only [Act.put, List.getElem_toArray, List.getElem_cons_succ, List.getElem_cons_zero, List.setIfInBounds_toArray, List.set_cons_zero, List.set_cons_succ]
      refine wpAnyU_take 2 (v := ?vv43) rfl (by kernel_rfl) (by kernel_rfl) (fun _ _ _ h => h) trivial (Or.inl ⟨rfl, ?yv43⟩) ?rv43
      case yv43 =>
        intro W hW
        go_simp
        try with_reducible rfl
      try simp only [Act.put, List.getElem_toArray, List.getElem_cons_succ, List.getElem_cons_zero, List.setIfInBounds_toArray, List.set_cons_zero, List.set_cons_succ]
      refine wpAnyU_take 4 (v := ?vv44) rfl (by kernel_rfl) (by kernel_rfl) (fun _ _ _ h => h) trivial (Or.inl ⟨rfl, ?yv44⟩) ?rv44
      case yv44 =>
        intro W hW
        go_simp
        try with_reducible rfl
      try simp only [Act.put, List.getElem_toArray, List.getElem_cons_succ, List.getElem_cons_zero, List.setIfInBounds_toArray, List.set_cons_zero, List.set_cons_succ]
      refine wpAnyU_take 5 (v := ?vv45) rfl (by kernel_rfl) (by kernel_rfl) (fun _ _ _ h => h) trivial (Or.inl ⟨rfl, ?yv45⟩) ?rv45
      case yv45 =>
        intro W hW
        go_simp
        try with_reducible rfl
      try simp only [Act.put, List.getElem_toArray, List.getElem_cons_succ, List.getElem_cons_zero, List.setIfInBounds_toArray, List.set_cons_zero, List.set_cons_succ]
      refine wpAnyU_take 6 (v := ?vv46) rfl (by kernel_rfl) (by kernel_rfl) (fun _ _ _ h => h) trivial (Or.inl ⟨rfl, ?yv46⟩) ?rv46
      case yv46 =>
        intro W hW
        go_simp
        try with_reducible rfl
      try simp only [Act.put, List.getElem_toArray, List.getElem_cons_succ, List.getElem_cons_zero, List.setIfInBounds_toArray, List.set_cons_zero, List.set_cons_succ]
      refine wpAnyU_one 3 (by kernel_rfl) rfl (fun K hK => ?_)
      refine step_callw rfl 52 Tryz.f52 Tryz.func52 (by kernel_rfl) (by kernel_rfl) _ _ rfl #[.slice A n n] (by simp [Act.eval]) ?_
      refine (copyLongsS_ok wd A n n (xs.take n) ⟨hr1.out.gr hgS⟩ (by omega)).mono ?_
      rintro e u1 ⟨A2, c3, rfl, hz4⟩
      have g5 := Gr.trans hgS hz4.gr
      have hm6 := hmS.new hz4
      refine ⟨_, rfl, hK _ _ (fun _ => trivial) ?_⟩
      clear hK K
      try simp only [Act.put, List.getElem_toArray, List.getElem_cons_succ, List.getElem_cons_zero, List.setIfInBounds_toArray, List.set_cons_zero, List.set_cons_succ]
      refine wpAnyU_one 7 (by kernel_rfl) rfl (fun K hK => ?_)
      refine step_callw rfl 52 Tryz.f52 Tryz.func52 (by kernel_rfl) (by kernel_rfl) _ _ rfl #[.slice A 0 0] (by simp [Act.eval]) ?_
      refine (copyLongsS_ok u1 A 0 0 (xs.drop n) ⟨(hr2 A).out.gr g5⟩ (by omega)).mono ?_
      rintro e u7 ⟨A8, c9, rfl, hz10⟩
      have g11 := Gr.trans g5 hz10.gr
      have hm12 := hm6.new hz10
      refine ⟨_, rfl, hK _ _ (fun _ => trivial) ?_⟩
      clear hK K
      try simp only [Act.put, List.getElem_toArray, List.getElem_cons_succ, List.getElem_cons_zero, List.setIfInBounds_toArray, List.set_cons_zero, List.set_cons_succ]
      refine wpAnyU_one 8 (by kernel_rfl) rfl (fun K hK => ?_)
      go_simp
      refine hK _ _ (fun h => absurd h (by decide)) ?_
      clear hK K
      refine wpAnyU_one 9 (by kernel_rfl) rfl (fun K hK => ?_)
      go_simp
      refine hK _ _ (fun h => absurd h (by decide)) ?_
      clear hK K
      refine wpAnyU_one 10 (by kernel_rfl) rfl (fun K hK => ?_)
      go_simp
      refine hK _ _ (fun h => absurd h (by decide)) ?_
      clear hK K
      refine wpAnyU_done (by kernel_rfl) ?_ _
      go_wp2
      try simp only [Act.put, List.getElem_toArray, List.getElem_cons_succ, List.getElem_cons_zero, List.setIfInBounds_toArray, List.set_cons_succ, List.set_cons_zero]
      go_meet
      case rel => exact ⟨_, _, _, _, rfl, rfl, rfl, hm12⟩
    case rest =>
      obtain ⟨A1, c1, A2, c2, rfl, rfl, rfl, hm⟩ := hcut
      go_wp2
      go_ret3
      exact ⟨A1, c1, A2, c2, rfl, hm⟩
  · obtain ⟨ab, ao, rfl⟩ := hA (by omega)
    have hc' : (c = q) = False := eq_false (by omega)
    have hr2 : Fact (RdC w 1 (.slice (some ⟨ab, ao + q, none⟩) k (c - q)) (nums .i64 (xs.drop q))) := ⟨by have h := hx.out.behind q hqn; rw [Nat.mul_one, ← nums_drop, e2] at h; exact h⟩
    go_enter Tryz.func56, Tryz.ntmps56
    go_upto_region 4 with (fail)
    go_cut [4, 5, 6] (fun s4 s5 s6 W => ∃ A1 c1 A2 c2, s4 = .slice A1 q c1 ∧ s5 = .slice A2 k c2 ∧ s6 = .bool true ∧ Mem w W [Own 1 (.slice A2 k c2) (nums .i64 (xs.drop q)), Own 1 (.slice A1 q c1) (nums .i64 (xs.take q))])
    case first =>
      have hgS := (Gr.refl w).drew
      have hmS := (Mem.start w).drew
      refine wp_region_until (S := fun W => True) 8 (by kernel_rfl) ?_
      generalize w.drew = wd at hgS hmS ⊢
      refine wpAnyU_take 0 (v := ?vv4_a_1) rfl (by kernel_rfl) (by kernel_rfl) (fun _ _ _ h => h) trivial (Or.inl ⟨rfl, ?yv4_a_1⟩) ?rv4_a_1
      case yv4_a_1 =>
        intro W hW
        go_simp
        try with_reducible rfl
      try simp only [Act.put, List.getElem_toArray, List.getElem_cons_succ, List.getElem_cons_zero, List.setIfInBounds_toArray, List.set_cons_zero, List.set_cons_succ]
      refine wpAnyU_take 1 (v := ?vv4_a_2) rfl (by kernel_rfl) (by kernel_rfl) (fun _ _ _ h => h) trivial (Or.inl ⟨rfl, ?yv4_a_2⟩) ?rv4_a_2
      case yv4_a_2 =>
        intro W hW
        go_simp
        try with_reducible rfl
      try simp only [Act.put, List.getElem_toArray, List.getElem_cons_succ, List.getElem_cons_zero, List.setIfInBounds_toArray, List.set_cons_zero, List.set_cons_succ]
      refine wpAnyU_take 2 (v := ?vv4_a_3) rfl (by kernel_rfl) (by kernel_rfl) (fun _ _ _ h => h) trivial (Or.inl ⟨rfl, ?yv4_a_3⟩) ?rv4_a_3
      case yv4_a_3 =>
        intro W hW
        go_simp
        try with_reducible rfl
      try simp only [Act.put, List.getElem_toArray, List.getElem_cons_succ, List.getElem_cons_zero, List.setIfInBounds_toArray, List.set_cons_zero, List.set_cons_succ]
      refine wpAnyU_take 4 (v := ?vv4_a_4) rfl (by kernel_rfl) (by kernel_rfl) (fun _ _ _ h => h) trivial (Or.inl ⟨rfl, ?yv4_a_4⟩) ?rv4_a_4
      case yv4_a_4 =>
        intro W hW
        go_simp
        try with_reducible rfl
      try simp only [Act.put, List.getElem_toArray, List.getElem_cons_succ, List.getElem_cons_zero, List.setIfInBounds_toArray, List.set_cons_zero, List.set_cons_succ]
      refine wpAnyU_take 5 (v := ?vv4_a_5) rfl (by kernel_rfl) (by kernel_rfl) (fun _ _ _ h => h) trivial (Or.inl ⟨rfl, ?yv4_a_5⟩) ?rv4_a_5
      case yv4_a_5 =>
        intro W hW
        go_simp
        try with_reducible rfl
      try simp only [Act.put, List.getElem_toArray, List.getElem_cons_succ, List.getElem_cons_zero, List.setIfInBounds_toArray, List.set_cons_zero, List.set_cons_succ]
      refine wpAnyU_take 6 (v := ?vv4_a_6) rfl (by kernel_rfl) (by kernel_rfl) (fun _ _ _ h => h) trivial (Or.inl ⟨rfl, ?yv4_a_6⟩) ?rv4_a_6
      case yv4_a_6 =>
        intro W hW
        go_simp
        try with_reducible rfl
      try simp only [Act.put, List.getElem_toArray, List.getElem_cons_succ, List.getElem_cons_zero, List.setIfInBounds_toArray, List.set_cons_zero, List.set_cons_succ]
      refine wpAnyU_one 3 (by kernel_rfl) rfl (fun K hK => ?_)
      refine step_callw rfl 52 Tryz.f52 Tryz.func52 (by kernel_rfl) (by kernel_rfl) _ _ rfl #[.slice (some ⟨ab, ao, none⟩) q c] (by simp [Act.eval]) ?_
      refine (copyLongsS_ok wd (some ⟨ab, ao, none⟩) q c (xs.take q) ⟨hr1.out.gr hgS⟩ (by omega)).mono ?_
      rintro e u13 ⟨A14, c15, rfl, hz16⟩
      have g17 := Gr.trans hgS hz16.gr
      have hm18 := hmS.new hz16
      refine ⟨_, rfl, hK _ _ (fun _ => trivial) ?_⟩
      clear hK K
      try simp only [Act.put, List.getElem_toArray, List.getElem_cons_succ, List.getElem_cons_zero, List.setIfInBounds_toArray, List.set_cons_zero, List.set_cons_succ]
      refine wpAnyU_one 7 (by kernel_rfl) rfl (fun K hK => ?_)
      refine step_callw rfl 52 Tryz.f52 Tryz.func52 (by kernel_rfl) (by kernel_rfl) _ _ rfl #[.slice (some ⟨ab, ao + q, none⟩) k (c - q)] (by simp [Act.eval]) ?_
      refine (copyLongsS_ok u13 (some ⟨ab, ao + q, none⟩) k (c - q) (xs.drop q) ⟨hr2.out.gr g17⟩ (by omega)).mono ?_
      rintro e u19 ⟨A20, c21, rfl, hz22⟩
      have g23 := Gr.trans g17 hz22.gr
      have hm24 := hm18.new hz22
      refine ⟨_, rfl, hK _ _ (fun _ => trivial) ?_⟩
      clear hK K
      try simp only [Act.put, List.getElem_toArray, List.getElem_cons_succ, List.getElem_cons_zero, List.setIfInBounds_toArray, List.set_cons_zero, List.set_cons_succ]
      refine wpAnyU_one 8 (by kernel_rfl) rfl (fun K hK => ?_)
      go_simp
      refine hK _ _ (fun h => absurd h (by decide)) ?_
      clear hK K
      refine wpAnyU_one 9 (by kernel_rfl) rfl (fun K hK => ?_)
      go_simp
      refine hK _ _ (fun h => absurd h (by decide)) ?_
      clear hK K
      refine wpAnyU_one 10 (by kernel_rfl) rfl (fun K hK => ?_)
      go_simp
      refine hK _ _ (fun h => absurd h (by decide)) ?_
      clear hK K
      refine wpAnyU_done (by kernel_rfl) ?_ _
      go_wp2
      try simp only [Act.put, List.getElem_toArray, List.getElem_cons_succ, List.getElem_cons_zero, List.setIfInBounds_toArray, List.set_cons_succ, List.set_cons_zero]
      go_meet
      case rel => exact ⟨_, _, _, _, rfl, rfl, rfl, hm24⟩
    case rest =>
      obtain ⟨A1, c1, A2, c2, rfl, rfl, rfl, hm⟩ := hcut
      go_wp2
      go_ret3
      exact ⟨A1, c1, A2, c2, rfl, hm⟩
end Go.Proofs.YtgflfpepfpekhaaGreat
namespace Go.Proofs.YtgflfpepfpekhaaGreat
open Go.RowKit Go.Mm
set_option maxHeartbeats 1000000
set_option maxRecDepth 100000
set_option linter.unusedSimpArgs false
/-- A stack of numbers and the row of the same numbers. -/
def stk (g : Nat) (t : TypeId) (A : Option Addr) (n c : Nat) (R : Option Addr) (rc : Nat) (xs : List Int) (L : List Chunk) : List Chunk :=
  Blk g (.cells [.slice A n c].toArray t) :: Own 1 (.slice A n c) (nums .i64 xs) :: Own 1 (.slice R n rc) (nums .i64 xs) :: L
theorem stepL_ok (w0 w : World) (L : List Chunk) (g : Nat) (A R : Option Addr) (n c rc : Nat) (xs : List Int) (t : TypeId) (hm : Mem w0 w (stk g t A n c R rc xs L)) (hn : n ≤ 16777216) (on kd N : Int) (LA : Option Addr) (ln lc : Nat) (hN : N ≤ 9223372036854775807) (kind : Int) :
    Calls Tryz.prog 59 #[.pointer (some ⟨g, 0, none⟩), .slice R n rc, .agg #[.int .i64 on, .int .i64 kd, .int .i64 N, .slice LA ln lc], .int .i64 kind] w fun e w' => ∃ A' n' c' R' rc' xs', e = .returned (.tuple #[.slice R' n' rc', .bool true]) ∧ n' ≤ n ∧ Mem w0 w' (stk g t A' n' c' R' rc' xs' L) := by
  unfold stk at hm ⊢
  have hr : Fact (RdC w 1 (.slice R n rc) (nums .i64 xs)) := ⟨hm.rd m2⟩
  go_enter Tryz.func59, Tryz.ntmps59
  go_upto_region 1 with (fail)
  have hm1 := ((Mem.start w).alloc (.cells [.int .i64 on, .int .i64 kd, .int .i64 N, .slice LA ln lc].toArray 66))
  generalize hgX : w.heap.size = g6 at hm1 ⊢
  generalize hwX : (w.alloc (.cells [.int .i64 on, .int .i64 kd, .int .i64 N, .slice LA ln lc].toArray 66)) = w1 at hm1
  try refine wp_world hwX ?_
  clear hwX hgX
  have hr1 := Fact.mk (hr.out.gr hm1.below)
  have hmm := hm.gr hm1.below
  have hmg := hmm
  have k2 := hm1.cell m0 2 rfl
  by_cases h2 : kind = 2
  · subst h2
    by_cases hin : N < 0 ∨ (n : Int) ≤ N
    · go_wp2_with fail
      refine (refTop_no w1 R n rc N hin).mono ?_
      rintro e w2 ⟨rfl, rfl⟩
      go_wp2_with fail
      refine (topNo_ok w0 w2 _ g A n c t hmm m0 N hin).mono ?_
      rintro e w3 ⟨rfl, rfl⟩
      have fin := Fact.mk hmm
      go_wp2
      go_ret2
      exact ⟨A, n, c, R, rc, xs, rfl, Nat.le_refl _, fin.out⟩
    · obtain ⟨k, rfl⟩ : ∃ k : Nat, N = (k : Int) := ⟨N.toNat, by omega⟩
      have hk : k < n := by omega
      go_wp2_with fail
      obtain ⟨v, hv⟩ : ∃ v, Fact (xs.getD (n - 1 - k) 0 = v) := ⟨_, ⟨rfl⟩⟩
      refine (refTop_ok w1 R n rc xs hr1 hn k hk _ rfl).mono ?_
      rintro e w2 ⟨rfl, rfl⟩
      rw [hv.out]
      go_wp2_with fail
      refine (topL_ok w0 w2 _ g A n c xs t hmm m0 ⟨hmm.rd m1⟩ hn k (by omega) _ rfl).mono ?_
      rintro e w3 ⟨rfl, hg3⟩
      have fin := Fact.mk (hmm.gr hg3)
      have hd : decide (k < n) = true := by simp [hk]
      rw [if_pos hk, hd, hv.out]
      go_wp2
      go_ret2
      exact ⟨A, n, c, R, rc, xs, rfl, Nat.le_refl _, fin.out⟩
  · by_cases h3 : kind = 3
    · subst h3
      by_cases hin : N < 0 ∨ (n : Int) < N
      · go_wp2_with fail
        refine (refCut_no w1 R n rc N hin).mono ?_
        rintro e w2 ⟨rfl, rfl⟩
        go_wp2_with fail
        refine (cutNo_ok w0 w2 _ g A n c t hmm m0 N hin).mono ?_
        rintro e w3 ⟨rfl, rfl⟩
        have fin := Fact.mk hmm
        go_wp2
        go_ret2
        exact ⟨A, n, c, R, rc, xs, rfl, Nat.le_refl _, fin.out⟩
      · obtain ⟨k, rfl⟩ : ∃ k : Nat, N = (k : Int) := ⟨N.toNat, by omega⟩
        have hk : k ≤ n := by omega
        go_wp2_with fail
        refine (refCut_ok w1 R n rc xs hr1 hn k hk _ rfl).mono ?_
        rintro e w2 ⟨R', rc', rfl, hn2⟩
        have hm2 := hmm.new hn2
        have k2 := Gr.cell hn2.gr k2
        go_wp2_with fail
        refine (cutL_ok w0 w2 _ g A n c xs t (hm2.sel 4 [1, 2, 0] (by decide)) hn k hk _ rfl).mono ?_
        rintro e w3 ⟨rfl, hm3⟩
        have fin := Fact.mk hm3
        go_wp2
        go_ret2
        exact ⟨A, k, k, R', rc', xs.take k, rfl, hk, fin.out⟩
    · go_wp2_with fail
      refine (lenL_ok w0 w1 _ g A n c t hmm m0).mono ?_
      rintro e w2 ⟨rfl, rfl⟩
      have fin := Fact.mk hmm
      go_wp2
      go_ret2
      exact ⟨A, n, c, R, rc, xs, rfl, Nat.le_refl _, fin.out⟩
end Go.Proofs.YtgflfpepfpekhaaGreat
