import Derived.Test.YtgflfpepfpekhaaFramesUnwind
import Derived.Test.YtgflfpepfpekhaaRoundLaw
import Derived.Test.YtgflfpepfpekhaaFrQ
namespace Go.Proofs.Ytgflfpepfpekhaa
open Go.RowKit Go.Mm Go.WideShapes
set_option maxHeartbeats 4000000
set_option maxRecDepth 100000
set_option linter.unusedSimpArgs false
theorem getD_snoc {α : Type} (l : List α) (x d : α) (q : Nat) (h : l.length = q) : (l ++ [x]).getD q d = x := by subst h; simp [List.getD_eq_getElem?_getD]
theorem round_walk (w : World) (p : Pg) (hp : Fact (PgOk w p)) (A : Option Addr) (n c : Nat) (xs : List Fr) (N : Nat) (hx : Fact (FrsOk N w A n c xs)) (hn : n ≤ 1048576) (hN : N ≤ 1048576) (hN2 : 64 ≤ N) (fn : Int) (B : Option Addr) (m d : Nat) (args : List V2) (ha : Fact (RdC w 2 (.slice B m d) (fV args))) (hm : m ≤ 1048576) (v1 v2 : Int) :
    Calls Try.prog 10 #[vP p, .slice A n c, .agg #[.int .i64 fn, .slice B m d, .int .i64 v1, .int .i64 v2]] w fun e w' => e = .returned (.bool true) ∧ Gr w w' := by
  obtain ⟨iR, ri, rz0, rz1, rz2⟩ := info_parts inf_R
  obtain ⟨iV, vi, vz0, vz1, vz2⟩ := info_parts inf_V
  have hent := fun (W : World) (hg : Gr w W) (C : Option Addr) (e : Nat) (h : Fact (RdC W 2 (.slice C m e) (fV args))) => (enter_ok W p ⟨hp.out.gr hg⟩ fn C m e args h (by omega)).mono (fun _ _ h => enter_one h)
  have hal : Fact (args.length = m) := ⟨rdV_len ha.out⟩
  have hgood := Fact.mk (fun h : enterG (fnAt p fn) args.length = true => enterG_true (args := args) hp.out h)
  rw [hal.out] at hgood
  obtain ⟨kA, kn, kc, consts, fA, fnn, fc, fns⟩ := p
  simp only [vP] at hent ⊢
  simp only at hgood
  generalize enterG (fnAt ⟨kA, kn, kc, consts, fA, fnn, fc, fns⟩ fn) m = E at hent hgood
  generalize enterD (fnAt ⟨kA, kn, kc, consts, fA, fnn, fc, fns⟩ fn) fn args = ED at hent hgood
  go_enter Try.func10, Try.ntmps10
  go_upto_region 1 with (fail)
  have hm := (((Mem.start w).alloc (.cells [.slice kA kn kc, .slice fA fnn fc].toArray 25)).alloc (.cells [.int .i64 fn, .slice B m d, .int .i64 v1, .int .i64 v2].toArray 83))
  simp only [World.size_alloc] at hm
  generalize hgX : w.heap.size = g at hm ⊢
  generalize hwX : ((w.alloc (.cells [.slice kA kn kc, .slice fA fnn fc].toArray 25)).alloc (.cells [.int .i64 fn, .slice B m d, .int .i64 v1, .int .i64 v2].toArray 83)) = w1 at hm
  try refine wp_world hwX ?_
  clear hwX hgX
  go_wp2_with fail
  refine (shown_ok w1).mono ?_
  rintro e w2 ⟨rfl, hg2⟩
  have hm2 := hm.gr hg2
  clear hm hg2
  have hg0 := Fact.mk hm2.below
  have k1 : w2.cell? ⟨g, 0, none⟩ = some (.slice kA kn kc) := hm2.cell m1 0 rfl
  have k2 : w2.cell? ⟨g, 1, none⟩ = some (.slice fA fnn fc) := hm2.cell m1 1 rfl
  have k3 : w2.cell? ⟨g + 1, 0, none⟩ = some (.int .i64 fn) := hm2.cell m0 0 rfl
  have k4 : w2.cell? ⟨g + 1, 1, none⟩ = some (.slice B m d) := hm2.cell m0 1 rfl
  have k5 : w2.cell? ⟨g + 1, 2, none⟩ = some (.int .i64 v1) := hm2.cell m0 2 rfl
  have k6 : w2.cell? ⟨g + 1, 3, none⟩ = some (.int .i64 v2) := hm2.cell m0 3 rfl
  clear hm2
  go_upto_region 3 with (fail)
  go_cut [7, 8] (fun s7 s8 W => ∃ (g7 : Nat) (yfn ypc : Int) (yA : Option Addr) (yn yc : Nat) (ysl : List V2) (b : Bool), s7 = .pointer (some ⟨g7, 0, none⟩) ∧ s8 = .bool b ∧ Fact (b = E) ∧ Fact ((yfn, ypc, ysl) = ED) ∧ Mem w2 W [Blk g7 (.cells [.int .i64 yfn, .int .i64 ypc, .slice yA yn yc].toArray 30), slot ⟨yfn, ypc, yA, yn, yc, ysl⟩])
  case first =>
    as_aux_lemma =>
      have hgS := (Gr.refl w2).drew
      have hmS := (Mem.start w2).drew
      refine wp_region_until (S := fun W => W.cell? ⟨g, 0, none⟩ = some (.slice kA kn kc) ∧ W.cell? ⟨g, 1, none⟩ = some (.slice fA fnn fc) ∧ W.cell? ⟨g + 1, 0, none⟩ = some (.int .i64 fn) ∧ W.cell? ⟨g + 1, 1, none⟩ = some (.slice B m d)) 12 (by kernel_rfl) ?_
      generalize w2.drew = wd at hgS hmS ⊢
      refine wpAnyU_take 0 (v := ?vv31) rfl (by kernel_rfl) (by kernel_rfl) (fun _ _ _ h => h) ⟨Gr.cell hgS k1, Gr.cell hgS k2, Gr.cell hgS k3, Gr.cell hgS k4⟩ (Or.inl ⟨rfl, ?yv31⟩) ?rv31
      case yv31 =>
        intro W hW
        obtain ⟨hW0, hW1, hW2, hW3⟩ := hW
        go_simp
        try with_reducible rfl
      try simp only [Act.put, List.getElem_toArray, List.getElem_cons_succ, List.getElem_cons_zero, List.setIfInBounds_toArray, List.set_cons_zero, List.set_cons_succ]
      refine wpAnyU_take 1 (v := ?vv32) rfl (by kernel_rfl) (by kernel_rfl) (fun _ _ _ h => h) ⟨Gr.cell hgS k1, Gr.cell hgS k2, Gr.cell hgS k3, Gr.cell hgS k4⟩ (Or.inl ⟨rfl, ?yv32⟩) ?rv32
      case yv32 =>
        intro W hW
        obtain ⟨hW0, hW1, hW2, hW3⟩ := hW
        go_simp
        try with_reducible rfl
      try simp only [Act.put, List.getElem_toArray, List.getElem_cons_succ, List.getElem_cons_zero, List.setIfInBounds_toArray, List.set_cons_zero, List.set_cons_succ]
      refine wpAnyU_take 2 (v := ?vv33) rfl (by kernel_rfl) (by kernel_rfl) (fun _ _ _ h => h) ⟨Gr.cell hgS k1, Gr.cell hgS k2, Gr.cell hgS k3, Gr.cell hgS k4⟩ (Or.inl ⟨rfl, ?yv33⟩) ?rv33
      case yv33 =>
        intro W hW
        obtain ⟨hW0, hW1, hW2, hW3⟩ := hW
        go_simp
        try with_reducible rfl
      try simp only [Act.put, List.getElem_toArray, List.getElem_cons_succ, List.getElem_cons_zero, List.setIfInBounds_toArray, List.set_cons_zero, List.set_cons_succ]
      refine wpAnyU_take 3 (v := ?vv34) rfl (by kernel_rfl) (by kernel_rfl) (fun _ _ _ h => h) ⟨Gr.cell hgS k1, Gr.cell hgS k2, Gr.cell hgS k3, Gr.cell hgS k4⟩ (Or.inl ⟨rfl, ?yv34⟩) ?rv34
      case yv34 =>
        intro W hW
        obtain ⟨hW0, hW1, hW2, hW3⟩ := hW
        go_simp
        try with_reducible rfl
      try simp only [Act.put, List.getElem_toArray, List.getElem_cons_succ, List.getElem_cons_zero, List.setIfInBounds_toArray, List.set_cons_zero, List.set_cons_succ]
      refine wpAnyU_take 4 (v := ?vv35) rfl (by kernel_rfl) (by kernel_rfl) (fun _ _ _ h => h) ⟨Gr.cell hgS k1, Gr.cell hgS k2, Gr.cell hgS k3, Gr.cell hgS k4⟩ (Or.inl ⟨rfl, ?yv35⟩) ?rv35
      case yv35 =>
        intro W hW
        obtain ⟨hW0, hW1, hW2, hW3⟩ := hW
        go_simp
        try with_reducible rfl
      try simp only [Act.put, List.getElem_toArray, List.getElem_cons_succ, List.getElem_cons_zero, List.setIfInBounds_toArray, List.set_cons_zero, List.set_cons_succ]
      refine wpAnyU_two 5 10 (by kernel_rfl) rfl rfl (fun K hK => ?_) (fun K hK => ?_)
      · refine step_callw rfl 49 Try.f49 Try.func49 (by kernel_rfl) (by kernel_rfl) _ _ rfl #[.slice B m d] (by simp [Act.eval]) ?_
        refine (copyValues_ok wd B m d args ⟨ha.out.gr (Gr.trans hg0.out hgS)⟩ (by omega)).mono ?_
        rintro e u1 ⟨A2, c3, rfl, hz4⟩
        have g5 := Gr.trans hgS hz4.gr
        have hm6 := hmS.gr hz4.gr
        have r7 : RdC u1 2 (.slice A2 m c3) (fV args) := hz4.ok.rd
        refine ⟨_, rfl, hK _ _ (fun _ => ⟨Gr.cell g5 k1, Gr.cell g5 k2, Gr.cell g5 k3, Gr.cell g5 k4⟩) ?_⟩
        clear hK K
        try simp only [Act.put, List.getElem_toArray, List.getElem_cons_succ, List.getElem_cons_zero, List.setIfInBounds_toArray, List.set_cons_zero, List.set_cons_succ]
        refine wpAnyU_two 6 10 (by kernel_rfl) rfl rfl (fun K hK => ?_) (fun K hK => ?_)
        · refine step_callw rfl 16 Try.f16 Try.func16 (by kernel_rfl) (by kernel_rfl) _ _ rfl #[.agg #[.slice kA kn kc, .slice fA fnn fc], .int .i64 fn, .slice A2 m c3] (by simp [Act.eval]) ?_
          refine (hent u1 (Gr.trans hg0.out g5) A2 c3 ⟨r7⟩).mono ?_
          rintro e u8 ⟨y9f, y9p, y9A, y9n, y9c, y9s, b10, rfl, hb11, hd12, hn13⟩
          have g14 := Gr.trans g5 hn13.gr
          have hm15 := hm6.new hn13
          refine ⟨_, rfl, hK _ _ (fun _ => ⟨Gr.cell g14 k1, Gr.cell g14 k2, Gr.cell g14 k3, Gr.cell g14 k4⟩) ?_⟩
          clear hK K
          try simp only [Act.put, List.getElem_toArray, List.getElem_cons_succ, List.getElem_cons_zero, List.setIfInBounds_toArray, List.set_cons_zero, List.set_cons_succ]
          refine wpAnyU_take 7 (v := ?vv36) rfl (by kernel_rfl) (by kernel_rfl) (fun _ _ _ h => h) ⟨Gr.cell g14 k1, Gr.cell g14 k2, Gr.cell g14 k3, Gr.cell g14 k4⟩ (Or.inl ⟨rfl, ?yv36⟩) ?rv36
          case yv36 =>
            intro W hW
            obtain ⟨hW0, hW1, hW2, hW3⟩ := hW
            go_simp
            try with_reducible rfl
          try simp only [Act.put, List.getElem_toArray, List.getElem_cons_succ, List.getElem_cons_zero, List.setIfInBounds_toArray, List.set_cons_zero, List.set_cons_succ]
          refine wpAnyU_take 8 (v := ?vv37) rfl (by kernel_rfl) (by kernel_rfl) (fun _ _ _ h => h) ⟨Gr.cell g14 k1, Gr.cell g14 k2, Gr.cell g14 k3, Gr.cell g14 k4⟩ (Or.inl ⟨rfl, ?yv37⟩) ?rv37
          case yv37 =>
            intro W hW
            obtain ⟨hW0, hW1, hW2, hW3⟩ := hW
            go_simp
            try with_reducible rfl
          try simp only [Act.put, List.getElem_toArray, List.getElem_cons_succ, List.getElem_cons_zero, List.setIfInBounds_toArray, List.set_cons_zero, List.set_cons_succ]
          refine wpAnyU_take 9 (v := ?vv38) rfl (by kernel_rfl) (by kernel_rfl) (fun _ _ _ h => h) ⟨Gr.cell g14 k1, Gr.cell g14 k2, Gr.cell g14 k3, Gr.cell g14 k4⟩ (Or.inl ⟨rfl, ?yv38⟩) ?rv38
          case yv38 =>
            intro W hW
            obtain ⟨hW0, hW1, hW2, hW3⟩ := hW
            go_simp
            try with_reducible rfl
          try simp only [Act.put, List.getElem_toArray, List.getElem_cons_succ, List.getElem_cons_zero, List.setIfInBounds_toArray, List.set_cons_zero, List.set_cons_succ]
          refine wpAnyU_one 10 (by kernel_rfl) rfl (fun K hK => ?_)
          go_simp
          have g19 := Gr.alloc g14 (.cells [.int .i64 0, .int .i64 0, .slice none 0 0].toArray 30)
          have hm18 := hm15.alloc (.cells [.int .i64 0, .int .i64 0, .slice none 0 0].toArray 30)
          generalize u8.heap.size = a17 at hm18 ⊢
          generalize u8.alloc (.cells [.int .i64 0, .int .i64 0, .slice none 0 0].toArray 30) = u16 at g19 hm18 ⊢
          refine hK _ _ (fun _ => ⟨Gr.cell g19 k1, Gr.cell g19 k2, Gr.cell g19 k3, Gr.cell g19 k4⟩) ?_
          clear hK K
          try simp only [Act.put, List.getElem_toArray, List.getElem_cons_succ, List.getElem_cons_zero, List.setIfInBounds_toArray, List.set_cons_zero, List.set_cons_succ]
          refine wpAnyU_one 11 (by kernel_rfl) rfl (fun K hK => ?_)
          have qa170 := hm18.cell m0 0 rfl
          have fa170 := hm18.free m0 0
          have qa171 := hm18.cell m0 1 rfl
          have fa171 := hm18.free m0 1
          have qa172 := hm18.cell m0 2 rfl
          have fa172 := hm18.free m0 2
          have hm20 := ((hm18.set 0 (.int .i64 y9f)).set 1 (.int .i64 y9p)).set 2 (.slice y9A y9n y9c)
          have g21 := hm20.below
          go_simp
          refine hK _ _ (fun _ => ⟨Gr.cell g21 k1, Gr.cell g21 k2, Gr.cell g21 k3, Gr.cell g21 k4⟩) ?_
          clear hK K
          try simp only [Act.put, List.getElem_toArray, List.getElem_cons_succ, List.getElem_cons_zero, List.setIfInBounds_toArray, List.set_cons_zero, List.set_cons_succ]
          refine wpAnyU_one 12 (by kernel_rfl) rfl (fun K hK => ?_)
          go_simp
          refine hK _ _ (fun h => absurd h (by decide)) ?_
          clear hK K
          refine wpAnyU_done (by kernel_rfl) ?_ _
          go_wp2
          try simp only [Act.put, List.getElem_toArray, List.getElem_cons_succ, List.getElem_cons_zero, List.setIfInBounds_toArray, List.set_cons_succ, List.set_cons_zero]
          go_meet
          case rel => exact ⟨_, y9f, y9p, y9A, y9n, y9c, y9s, _, rfl, rfl, hb11, hd12, hm20⟩
        · go_simp
          have g25 := Gr.alloc g5 (.cells [.int .i64 0, .int .i64 0, .slice none 0 0].toArray 30)
          have hm24 := hm6.alloc (.cells [.int .i64 0, .int .i64 0, .slice none 0 0].toArray 30)
          have r26 := r7.gr (Gr.alloc (Gr.refl u1) (.cells [.int .i64 0, .int .i64 0, .slice none 0 0].toArray 30))
          generalize u1.heap.size = a23 at hm24 ⊢
          generalize u1.alloc (.cells [.int .i64 0, .int .i64 0, .slice none 0 0].toArray 30) = u22 at g25 hm24 r26 ⊢
          refine hK _ _ (fun _ => ⟨Gr.cell g25 k1, Gr.cell g25 k2, Gr.cell g25 k3, Gr.cell g25 k4⟩) ?_
          clear hK K
          try simp only [Act.put, List.getElem_toArray, List.getElem_cons_succ, List.getElem_cons_zero, List.setIfInBounds_toArray, List.set_cons_zero, List.set_cons_succ]
          refine wpAnyU_one 6 (by kernel_rfl) rfl (fun K hK => ?_)
          refine step_callw rfl 16 Try.f16 Try.func16 (by kernel_rfl) (by kernel_rfl) _ _ rfl #[.agg #[.slice kA kn kc, .slice fA fnn fc], .int .i64 fn, .slice A2 m c3] (by simp [Act.eval]) ?_
          refine (hent u22 (Gr.trans hg0.out g25) A2 c3 ⟨r26⟩).mono ?_
          rintro e u27 ⟨y28f, y28p, y28A, y28n, y28c, y28s, b29, rfl, hb30, hd31, hn32⟩
          have g33 := Gr.trans g25 hn32.gr
          have hm34 := hm24.new hn32
          refine ⟨_, rfl, hK _ _ (fun _ => ⟨Gr.cell g33 k1, Gr.cell g33 k2, Gr.cell g33 k3, Gr.cell g33 k4⟩) ?_⟩
          clear hK K
          try simp only [Act.put, List.getElem_toArray, List.getElem_cons_succ, List.getElem_cons_zero, List.setIfInBounds_toArray, List.set_cons_zero, List.set_cons_succ]
          refine wpAnyU_take 7 (v := ?vv39) rfl (by kernel_rfl) (by kernel_rfl) (fun _ _ _ h => h) ⟨Gr.cell g33 k1, Gr.cell g33 k2, Gr.cell g33 k3, Gr.cell g33 k4⟩ (Or.inl ⟨rfl, ?yv39⟩) ?rv39
          case yv39 =>
            intro W hW
            obtain ⟨hW0, hW1, hW2, hW3⟩ := hW
            go_simp
            try with_reducible rfl
          try simp only [Act.put, List.getElem_toArray, List.getElem_cons_succ, List.getElem_cons_zero, List.setIfInBounds_toArray, List.set_cons_zero, List.set_cons_succ]
          refine wpAnyU_take 8 (v := ?vv310) rfl (by kernel_rfl) (by kernel_rfl) (fun _ _ _ h => h) ⟨Gr.cell g33 k1, Gr.cell g33 k2, Gr.cell g33 k3, Gr.cell g33 k4⟩ (Or.inl ⟨rfl, ?yv310⟩) ?rv310
          case yv310 =>
            intro W hW
            obtain ⟨hW0, hW1, hW2, hW3⟩ := hW
            go_simp
            try with_reducible rfl
          try simp only [Act.put, List.getElem_toArray, List.getElem_cons_succ, List.getElem_cons_zero, List.setIfInBounds_toArray, List.set_cons_zero, List.set_cons_succ]
          refine wpAnyU_take 9 (v := ?vv311) rfl (by kernel_rfl) (by kernel_rfl) (fun _ _ _ h => h) ⟨Gr.cell g33 k1, Gr.cell g33 k2, Gr.cell g33 k3, Gr.cell g33 k4⟩ (Or.inl ⟨rfl, ?yv311⟩) ?rv311
          case yv311 =>
            intro W hW
            obtain ⟨hW0, hW1, hW2, hW3⟩ := hW
            go_simp
            try with_reducible rfl
          try simp only [Act.put, List.getElem_toArray, List.getElem_cons_succ, List.getElem_cons_zero, List.setIfInBounds_toArray, List.set_cons_zero, List.set_cons_succ]
          refine wpAnyU_one 11 (by kernel_rfl) rfl (fun K hK => ?_)
          have hm35 := hm34.swap
          have qa230 := hm35.cell m0 0 rfl
          have fa230 := hm35.free m0 0
          have qa231 := hm35.cell m0 1 rfl
          have fa231 := hm35.free m0 1
          have qa232 := hm35.cell m0 2 rfl
          have fa232 := hm35.free m0 2
          have hm36 := ((hm35.set 0 (.int .i64 y28f)).set 1 (.int .i64 y28p)).set 2 (.slice y28A y28n y28c)
          have g37 := hm36.below
          go_simp
          refine hK _ _ (fun _ => ⟨Gr.cell g37 k1, Gr.cell g37 k2, Gr.cell g37 k3, Gr.cell g37 k4⟩) ?_
          clear hK K
          try simp only [Act.put, List.getElem_toArray, List.getElem_cons_succ, List.getElem_cons_zero, List.setIfInBounds_toArray, List.set_cons_zero, List.set_cons_succ]
          refine wpAnyU_one 12 (by kernel_rfl) rfl (fun K hK => ?_)
          go_simp
          refine hK _ _ (fun h => absurd h (by decide)) ?_
          clear hK K
          refine wpAnyU_done (by kernel_rfl) ?_ _
          go_wp2
          try simp only [Act.put, List.getElem_toArray, List.getElem_cons_succ, List.getElem_cons_zero, List.setIfInBounds_toArray, List.set_cons_succ, List.set_cons_zero]
          go_meet
          case rel => exact ⟨_, y28f, y28p, y28A, y28n, y28c, y28s, _, rfl, rfl, hb30, hd31, hm36⟩
      · go_simp
        have g41 := Gr.alloc hgS (.cells [.int .i64 0, .int .i64 0, .slice none 0 0].toArray 30)
        have hm40 := hmS.alloc (.cells [.int .i64 0, .int .i64 0, .slice none 0 0].toArray 30)
        generalize wd.heap.size = a39 at hm40 ⊢
        generalize wd.alloc (.cells [.int .i64 0, .int .i64 0, .slice none 0 0].toArray 30) = u38 at g41 hm40 ⊢
        refine hK _ _ (fun _ => ⟨Gr.cell g41 k1, Gr.cell g41 k2, Gr.cell g41 k3, Gr.cell g41 k4⟩) ?_
        clear hK K
        try simp only [Act.put, List.getElem_toArray, List.getElem_cons_succ, List.getElem_cons_zero, List.setIfInBounds_toArray, List.set_cons_zero, List.set_cons_succ]
        refine wpAnyU_one 5 (by kernel_rfl) rfl (fun K hK => ?_)
        refine step_callw rfl 49 Try.f49 Try.func49 (by kernel_rfl) (by kernel_rfl) _ _ rfl #[.slice B m d] (by simp [Act.eval]) ?_
        refine (copyValues_ok u38 B m d args ⟨ha.out.gr (Gr.trans hg0.out g41)⟩ (by omega)).mono ?_
        rintro e u42 ⟨A43, c44, rfl, hz45⟩
        have g46 := Gr.trans g41 hz45.gr
        have hm47 := hm40.gr hz45.gr
        have r48 : RdC u42 2 (.slice A43 m c44) (fV args) := hz45.ok.rd
        refine ⟨_, rfl, hK _ _ (fun _ => ⟨Gr.cell g46 k1, Gr.cell g46 k2, Gr.cell g46 k3, Gr.cell g46 k4⟩) ?_⟩
        clear hK K
        try simp only [Act.put, List.getElem_toArray, List.getElem_cons_succ, List.getElem_cons_zero, List.setIfInBounds_toArray, List.set_cons_zero, List.set_cons_succ]
        refine wpAnyU_one 6 (by kernel_rfl) rfl (fun K hK => ?_)
        refine step_callw rfl 16 Try.f16 Try.func16 (by kernel_rfl) (by kernel_rfl) _ _ rfl #[.agg #[.slice kA kn kc, .slice fA fnn fc], .int .i64 fn, .slice A43 m c44] (by simp [Act.eval]) ?_
        refine (hent u42 (Gr.trans hg0.out g46) A43 c44 ⟨r48⟩).mono ?_
        rintro e u49 ⟨y50f, y50p, y50A, y50n, y50c, y50s, b51, rfl, hb52, hd53, hn54⟩
        have g55 := Gr.trans g46 hn54.gr
        have hm56 := hm47.new hn54
        refine ⟨_, rfl, hK _ _ (fun _ => ⟨Gr.cell g55 k1, Gr.cell g55 k2, Gr.cell g55 k3, Gr.cell g55 k4⟩) ?_⟩
        clear hK K
        try simp only [Act.put, List.getElem_toArray, List.getElem_cons_succ, List.getElem_cons_zero, List.setIfInBounds_toArray, List.set_cons_zero, List.set_cons_succ]
        refine wpAnyU_take 7 (v := ?vv312) rfl (by kernel_rfl) (by kernel_rfl) (fun _ _ _ h => h) ⟨Gr.cell g55 k1, Gr.cell g55 k2, Gr.cell g55 k3, Gr.cell g55 k4⟩ (Or.inl ⟨rfl, ?yv312⟩) ?rv312
        case yv312 =>
          intro W hW
          obtain ⟨hW0, hW1, hW2, hW3⟩ := hW
          go_simp
          try with_reducible rfl
        try simp only [Act.put, List.getElem_toArray, List.getElem_cons_succ, List.getElem_cons_zero, List.setIfInBounds_toArray, List.set_cons_zero, List.set_cons_succ]
        refine wpAnyU_take 8 (v := ?vv313) rfl (by kernel_rfl) (by kernel_rfl) (fun _ _ _ h => h) ⟨Gr.cell g55 k1, Gr.cell g55 k2, Gr.cell g55 k3, Gr.cell g55 k4⟩ (Or.inl ⟨rfl, ?yv313⟩) ?rv313
        case yv313 =>
          intro W hW
          obtain ⟨hW0, hW1, hW2, hW3⟩ := hW
          go_simp
          try with_reducible rfl
        try simp only [Act.put, List.getElem_toArray, List.getElem_cons_succ, List.getElem_cons_zero, List.setIfInBounds_toArray, List.set_cons_zero, List.set_cons_succ]
        refine wpAnyU_take 9 (v := ?vv314) rfl (by kernel_rfl) (by kernel_rfl) (fun _ _ _ h => h) ⟨Gr.cell g55 k1, Gr.cell g55 k2, Gr.cell g55 k3, Gr.cell g55 k4⟩ (Or.inl ⟨rfl, ?yv314⟩) ?rv314
        case yv314 =>
          intro W hW
          obtain ⟨hW0, hW1, hW2, hW3⟩ := hW
          go_simp
          try with_reducible rfl
        try simp only [Act.put, List.getElem_toArray, List.getElem_cons_succ, List.getElem_cons_zero, List.setIfInBounds_toArray, List.set_cons_zero, List.set_cons_succ]
        refine wpAnyU_one 11 (by kernel_rfl) rfl (fun K hK => ?_)
        have hm57 := hm56.swap
        have qa390 := hm57.cell m0 0 rfl
        have fa390 := hm57.free m0 0
        have qa391 := hm57.cell m0 1 rfl
        have fa391 := hm57.free m0 1
        have qa392 := hm57.cell m0 2 rfl
        have fa392 := hm57.free m0 2
        have hm58 := ((hm57.set 0 (.int .i64 y50f)).set 1 (.int .i64 y50p)).set 2 (.slice y50A y50n y50c)
        have g59 := hm58.below
        go_simp
        refine hK _ _ (fun _ => ⟨Gr.cell g59 k1, Gr.cell g59 k2, Gr.cell g59 k3, Gr.cell g59 k4⟩) ?_
        clear hK K
        try simp only [Act.put, List.getElem_toArray, List.getElem_cons_succ, List.getElem_cons_zero, List.setIfInBounds_toArray, List.set_cons_zero, List.set_cons_succ]
        refine wpAnyU_one 12 (by kernel_rfl) rfl (fun K hK => ?_)
        go_simp
        refine hK _ _ (fun h => absurd h (by decide)) ?_
        clear hK K
        refine wpAnyU_done (by kernel_rfl) ?_ _
        go_wp2
        try simp only [Act.put, List.getElem_toArray, List.getElem_cons_succ, List.getElem_cons_zero, List.setIfInBounds_toArray, List.set_cons_succ, List.set_cons_zero]
        go_meet
        case rel => exact ⟨_, y50f, y50p, y50A, y50n, y50c, y50s, _, rfl, rfl, hb52, hd53, hm58⟩
  case rest =>
    obtain ⟨w3, rfl⟩ : ∃ w3 : World, w3 = wc := ⟨_, rfl⟩
    obtain ⟨g7, yfn, ypc, yA, yn, yc, ysl, b, rfl, rfl, hb, hd, hm3⟩ := hcut
    have hg9 := hm3.below
    have hg0 := Fact.mk (Gr.trans hg0.out hg9)
    have k1 := Gr.cell hg9 k1
    have k2 := Gr.cell hg9 k2
    have k3 := Gr.cell hg9 k3
    have k4 := Gr.cell hg9 k4
    have k5 := Gr.cell hg9 k5
    have k6 := Gr.cell hg9 k6
    clear hg9
    cases b with
    | false =>
      obtain rfl : false = E := hb.out
      clear hd hm3 hgood hb
      go_upto_region 5 with (fail)
      go_cut [9, 10] (fun s9 s10 W => ∃ (g7 : Nat) (yfn ypc : Int) (yA : Option Addr) (yn yc : Nat) (ysl : List V2) (b : Bool), s9 = .pointer (some ⟨g7, 0, none⟩) ∧ s10 = .bool b ∧ Fact (b = false) ∧ Fact ((yfn, ypc, ysl) = ED) ∧ Mem w3 W [Blk g7 (.cells [.int .i64 yfn, .int .i64 ypc, .slice yA yn yc].toArray 30), slot ⟨yfn, ypc, yA, yn, yc, ysl⟩])
      case first =>
        as_aux_lemma =>
          have hgS := (Gr.refl w3).drew
          have hmS := (Mem.start w3).drew
          refine wp_region_until (S := fun W => W.cell? ⟨g, 0, none⟩ = some (.slice kA kn kc) ∧ W.cell? ⟨g, 1, none⟩ = some (.slice fA fnn fc) ∧ W.cell? ⟨g + 1, 0, none⟩ = some (.int .i64 fn) ∧ W.cell? ⟨g + 1, 1, none⟩ = some (.slice B m d)) 12 (by kernel_rfl) ?_
          generalize w3.drew = wd at hgS hmS ⊢
          refine wpAnyU_take 0 (v := ?vv51) rfl (by kernel_rfl) (by kernel_rfl) (fun _ _ _ h => h) ⟨Gr.cell hgS k1, Gr.cell hgS k2, Gr.cell hgS k3, Gr.cell hgS k4⟩ (Or.inl ⟨rfl, ?yv51⟩) ?rv51
          case yv51 =>
            intro W hW
            obtain ⟨hW0, hW1, hW2, hW3⟩ := hW
            go_simp
            try with_reducible rfl
          try simp only [Act.put, List.getElem_toArray, List.getElem_cons_succ, List.getElem_cons_zero, List.setIfInBounds_toArray, List.set_cons_zero, List.set_cons_succ]
          refine wpAnyU_take 1 (v := ?vv52) rfl (by kernel_rfl) (by kernel_rfl) (fun _ _ _ h => h) ⟨Gr.cell hgS k1, Gr.cell hgS k2, Gr.cell hgS k3, Gr.cell hgS k4⟩ (Or.inl ⟨rfl, ?yv52⟩) ?rv52
          case yv52 =>
            intro W hW
            obtain ⟨hW0, hW1, hW2, hW3⟩ := hW
            go_simp
            try with_reducible rfl
          try simp only [Act.put, List.getElem_toArray, List.getElem_cons_succ, List.getElem_cons_zero, List.setIfInBounds_toArray, List.set_cons_zero, List.set_cons_succ]
          refine wpAnyU_take 2 (v := ?vv53) rfl (by kernel_rfl) (by kernel_rfl) (fun _ _ _ h => h) ⟨Gr.cell hgS k1, Gr.cell hgS k2, Gr.cell hgS k3, Gr.cell hgS k4⟩ (Or.inl ⟨rfl, ?yv53⟩) ?rv53
          case yv53 =>
            intro W hW
            obtain ⟨hW0, hW1, hW2, hW3⟩ := hW
            go_simp
            try with_reducible rfl
          try simp only [Act.put, List.getElem_toArray, List.getElem_cons_succ, List.getElem_cons_zero, List.setIfInBounds_toArray, List.set_cons_zero, List.set_cons_succ]
          refine wpAnyU_take 3 (v := ?vv54) rfl (by kernel_rfl) (by kernel_rfl) (fun _ _ _ h => h) ⟨Gr.cell hgS k1, Gr.cell hgS k2, Gr.cell hgS k3, Gr.cell hgS k4⟩ (Or.inl ⟨rfl, ?yv54⟩) ?rv54
          case yv54 =>
            intro W hW
            obtain ⟨hW0, hW1, hW2, hW3⟩ := hW
            go_simp
            try with_reducible rfl
          try simp only [Act.put, List.getElem_toArray, List.getElem_cons_succ, List.getElem_cons_zero, List.setIfInBounds_toArray, List.set_cons_zero, List.set_cons_succ]
          refine wpAnyU_take 4 (v := ?vv55) rfl (by kernel_rfl) (by kernel_rfl) (fun _ _ _ h => h) ⟨Gr.cell hgS k1, Gr.cell hgS k2, Gr.cell hgS k3, Gr.cell hgS k4⟩ (Or.inl ⟨rfl, ?yv55⟩) ?rv55
          case yv55 =>
            intro W hW
            obtain ⟨hW0, hW1, hW2, hW3⟩ := hW
            go_simp
            try with_reducible rfl
          try simp only [Act.put, List.getElem_toArray, List.getElem_cons_succ, List.getElem_cons_zero, List.setIfInBounds_toArray, List.set_cons_zero, List.set_cons_succ]
          refine wpAnyU_two 5 10 (by kernel_rfl) rfl rfl (fun K hK => ?_) (fun K hK => ?_)
          · refine step_callw rfl 49 Try.f49 Try.func49 (by kernel_rfl) (by kernel_rfl) _ _ rfl #[.slice B m d] (by simp [Act.eval]) ?_
            refine (copyValues_ok wd B m d args ⟨ha.out.gr (Gr.trans hg0.out hgS)⟩ (by omega)).mono ?_
            rintro e u60 ⟨A61, c62, rfl, hz63⟩
            have g64 := Gr.trans hgS hz63.gr
            have hm65 := hmS.gr hz63.gr
            have r66 : RdC u60 2 (.slice A61 m c62) (fV args) := hz63.ok.rd
            refine ⟨_, rfl, hK _ _ (fun _ => ⟨Gr.cell g64 k1, Gr.cell g64 k2, Gr.cell g64 k3, Gr.cell g64 k4⟩) ?_⟩
            clear hK K
            try simp only [Act.put, List.getElem_toArray, List.getElem_cons_succ, List.getElem_cons_zero, List.setIfInBounds_toArray, List.set_cons_zero, List.set_cons_succ]
            refine wpAnyU_two 6 10 (by kernel_rfl) rfl rfl (fun K hK => ?_) (fun K hK => ?_)
            · refine step_callw rfl 16 Try.f16 Try.func16 (by kernel_rfl) (by kernel_rfl) _ _ rfl #[.agg #[.slice kA kn kc, .slice fA fnn fc], .int .i64 fn, .slice A61 m c62] (by simp [Act.eval]) ?_
              refine (hent u60 (Gr.trans hg0.out g64) A61 c62 ⟨r66⟩).mono ?_
              rintro e u67 ⟨y68f, y68p, y68A, y68n, y68c, y68s, b69, rfl, hb70, hd71, hn72⟩
              have g73 := Gr.trans g64 hn72.gr
              have hm74 := hm65.new hn72
              refine ⟨_, rfl, hK _ _ (fun _ => ⟨Gr.cell g73 k1, Gr.cell g73 k2, Gr.cell g73 k3, Gr.cell g73 k4⟩) ?_⟩
              clear hK K
              try simp only [Act.put, List.getElem_toArray, List.getElem_cons_succ, List.getElem_cons_zero, List.setIfInBounds_toArray, List.set_cons_zero, List.set_cons_succ]
              refine wpAnyU_take 7 (v := ?vv56) rfl (by kernel_rfl) (by kernel_rfl) (fun _ _ _ h => h) ⟨Gr.cell g73 k1, Gr.cell g73 k2, Gr.cell g73 k3, Gr.cell g73 k4⟩ (Or.inl ⟨rfl, ?yv56⟩) ?rv56
              case yv56 =>
                intro W hW
                obtain ⟨hW0, hW1, hW2, hW3⟩ := hW
                go_simp
                try with_reducible rfl
              try simp only [Act.put, List.getElem_toArray, List.getElem_cons_succ, List.getElem_cons_zero, List.setIfInBounds_toArray, List.set_cons_zero, List.set_cons_succ]
              refine wpAnyU_take 8 (v := ?vv57) rfl (by kernel_rfl) (by kernel_rfl) (fun _ _ _ h => h) ⟨Gr.cell g73 k1, Gr.cell g73 k2, Gr.cell g73 k3, Gr.cell g73 k4⟩ (Or.inl ⟨rfl, ?yv57⟩) ?rv57
              case yv57 =>
                intro W hW
                obtain ⟨hW0, hW1, hW2, hW3⟩ := hW
                go_simp
                try with_reducible rfl
              try simp only [Act.put, List.getElem_toArray, List.getElem_cons_succ, List.getElem_cons_zero, List.setIfInBounds_toArray, List.set_cons_zero, List.set_cons_succ]
              refine wpAnyU_take 9 (v := ?vv58) rfl (by kernel_rfl) (by kernel_rfl) (fun _ _ _ h => h) ⟨Gr.cell g73 k1, Gr.cell g73 k2, Gr.cell g73 k3, Gr.cell g73 k4⟩ (Or.inl ⟨rfl, ?yv58⟩) ?rv58
              case yv58 =>
                intro W hW
                obtain ⟨hW0, hW1, hW2, hW3⟩ := hW
                go_simp
                try with_reducible rfl
              try simp only [Act.put, List.getElem_toArray, List.getElem_cons_succ, List.getElem_cons_zero, List.setIfInBounds_toArray, List.set_cons_zero, List.set_cons_succ]
              refine wpAnyU_one 10 (by kernel_rfl) rfl (fun K hK => ?_)
              go_simp
              have g78 := Gr.alloc g73 (.cells [.int .i64 0, .int .i64 0, .slice none 0 0].toArray 30)
              have hm77 := hm74.alloc (.cells [.int .i64 0, .int .i64 0, .slice none 0 0].toArray 30)
              generalize u67.heap.size = a76 at hm77 ⊢
              generalize u67.alloc (.cells [.int .i64 0, .int .i64 0, .slice none 0 0].toArray 30) = u75 at g78 hm77 ⊢
              refine hK _ _ (fun _ => ⟨Gr.cell g78 k1, Gr.cell g78 k2, Gr.cell g78 k3, Gr.cell g78 k4⟩) ?_
              clear hK K
              try simp only [Act.put, List.getElem_toArray, List.getElem_cons_succ, List.getElem_cons_zero, List.setIfInBounds_toArray, List.set_cons_zero, List.set_cons_succ]
              refine wpAnyU_one 11 (by kernel_rfl) rfl (fun K hK => ?_)
              have qa760 := hm77.cell m0 0 rfl
              have fa760 := hm77.free m0 0
              have qa761 := hm77.cell m0 1 rfl
              have fa761 := hm77.free m0 1
              have qa762 := hm77.cell m0 2 rfl
              have fa762 := hm77.free m0 2
              have hm79 := ((hm77.set 0 (.int .i64 y68f)).set 1 (.int .i64 y68p)).set 2 (.slice y68A y68n y68c)
              have g80 := hm79.below
              go_simp
              refine hK _ _ (fun _ => ⟨Gr.cell g80 k1, Gr.cell g80 k2, Gr.cell g80 k3, Gr.cell g80 k4⟩) ?_
              clear hK K
              try simp only [Act.put, List.getElem_toArray, List.getElem_cons_succ, List.getElem_cons_zero, List.setIfInBounds_toArray, List.set_cons_zero, List.set_cons_succ]
              refine wpAnyU_one 12 (by kernel_rfl) rfl (fun K hK => ?_)
              go_simp
              refine hK _ _ (fun h => absurd h (by decide)) ?_
              clear hK K
              refine wpAnyU_done (by kernel_rfl) ?_ _
              go_wp2
              try simp only [Act.put, List.getElem_toArray, List.getElem_cons_succ, List.getElem_cons_zero, List.setIfInBounds_toArray, List.set_cons_succ, List.set_cons_zero]
              go_meet
              case rel => exact ⟨_, y68f, y68p, y68A, y68n, y68c, y68s, _, rfl, rfl, hb70, hd71, hm79⟩
            · go_simp
              have g84 := Gr.alloc g64 (.cells [.int .i64 0, .int .i64 0, .slice none 0 0].toArray 30)
              have hm83 := hm65.alloc (.cells [.int .i64 0, .int .i64 0, .slice none 0 0].toArray 30)
              have r85 := r66.gr (Gr.alloc (Gr.refl u60) (.cells [.int .i64 0, .int .i64 0, .slice none 0 0].toArray 30))
              generalize u60.heap.size = a82 at hm83 ⊢
              generalize u60.alloc (.cells [.int .i64 0, .int .i64 0, .slice none 0 0].toArray 30) = u81 at g84 hm83 r85 ⊢
              refine hK _ _ (fun _ => ⟨Gr.cell g84 k1, Gr.cell g84 k2, Gr.cell g84 k3, Gr.cell g84 k4⟩) ?_
              clear hK K
              try simp only [Act.put, List.getElem_toArray, List.getElem_cons_succ, List.getElem_cons_zero, List.setIfInBounds_toArray, List.set_cons_zero, List.set_cons_succ]
              refine wpAnyU_one 6 (by kernel_rfl) rfl (fun K hK => ?_)
              refine step_callw rfl 16 Try.f16 Try.func16 (by kernel_rfl) (by kernel_rfl) _ _ rfl #[.agg #[.slice kA kn kc, .slice fA fnn fc], .int .i64 fn, .slice A61 m c62] (by simp [Act.eval]) ?_
              refine (hent u81 (Gr.trans hg0.out g84) A61 c62 ⟨r85⟩).mono ?_
              rintro e u86 ⟨y87f, y87p, y87A, y87n, y87c, y87s, b88, rfl, hb89, hd90, hn91⟩
              have g92 := Gr.trans g84 hn91.gr
              have hm93 := hm83.new hn91
              refine ⟨_, rfl, hK _ _ (fun _ => ⟨Gr.cell g92 k1, Gr.cell g92 k2, Gr.cell g92 k3, Gr.cell g92 k4⟩) ?_⟩
              clear hK K
              try simp only [Act.put, List.getElem_toArray, List.getElem_cons_succ, List.getElem_cons_zero, List.setIfInBounds_toArray, List.set_cons_zero, List.set_cons_succ]
              refine wpAnyU_take 7 (v := ?vv59) rfl (by kernel_rfl) (by kernel_rfl) (fun _ _ _ h => h) ⟨Gr.cell g92 k1, Gr.cell g92 k2, Gr.cell g92 k3, Gr.cell g92 k4⟩ (Or.inl ⟨rfl, ?yv59⟩) ?rv59
              case yv59 =>
                intro W hW
                obtain ⟨hW0, hW1, hW2, hW3⟩ := hW
                go_simp
                try with_reducible rfl
              try simp only [Act.put, List.getElem_toArray, List.getElem_cons_succ, List.getElem_cons_zero, List.setIfInBounds_toArray, List.set_cons_zero, List.set_cons_succ]
              refine wpAnyU_take 8 (v := ?vv510) rfl (by kernel_rfl) (by kernel_rfl) (fun _ _ _ h => h) ⟨Gr.cell g92 k1, Gr.cell g92 k2, Gr.cell g92 k3, Gr.cell g92 k4⟩ (Or.inl ⟨rfl, ?yv510⟩) ?rv510
              case yv510 =>
                intro W hW
                obtain ⟨hW0, hW1, hW2, hW3⟩ := hW
                go_simp
                try with_reducible rfl
              try simp only [Act.put, List.getElem_toArray, List.getElem_cons_succ, List.getElem_cons_zero, List.setIfInBounds_toArray, List.set_cons_zero, List.set_cons_succ]
              refine wpAnyU_take 9 (v := ?vv511) rfl (by kernel_rfl) (by kernel_rfl) (fun _ _ _ h => h) ⟨Gr.cell g92 k1, Gr.cell g92 k2, Gr.cell g92 k3, Gr.cell g92 k4⟩ (Or.inl ⟨rfl, ?yv511⟩) ?rv511
              case yv511 =>
                intro W hW
                obtain ⟨hW0, hW1, hW2, hW3⟩ := hW
                go_simp
                try with_reducible rfl
              try simp only [Act.put, List.getElem_toArray, List.getElem_cons_succ, List.getElem_cons_zero, List.setIfInBounds_toArray, List.set_cons_zero, List.set_cons_succ]
              refine wpAnyU_one 11 (by kernel_rfl) rfl (fun K hK => ?_)
              have hm94 := hm93.swap
              have qa820 := hm94.cell m0 0 rfl
              have fa820 := hm94.free m0 0
              have qa821 := hm94.cell m0 1 rfl
              have fa821 := hm94.free m0 1
              have qa822 := hm94.cell m0 2 rfl
              have fa822 := hm94.free m0 2
              have hm95 := ((hm94.set 0 (.int .i64 y87f)).set 1 (.int .i64 y87p)).set 2 (.slice y87A y87n y87c)
              have g96 := hm95.below
              go_simp
              refine hK _ _ (fun _ => ⟨Gr.cell g96 k1, Gr.cell g96 k2, Gr.cell g96 k3, Gr.cell g96 k4⟩) ?_
              clear hK K
              try simp only [Act.put, List.getElem_toArray, List.getElem_cons_succ, List.getElem_cons_zero, List.setIfInBounds_toArray, List.set_cons_zero, List.set_cons_succ]
              refine wpAnyU_one 12 (by kernel_rfl) rfl (fun K hK => ?_)
              go_simp
              refine hK _ _ (fun h => absurd h (by decide)) ?_
              clear hK K
              refine wpAnyU_done (by kernel_rfl) ?_ _
              go_wp2
              try simp only [Act.put, List.getElem_toArray, List.getElem_cons_succ, List.getElem_cons_zero, List.setIfInBounds_toArray, List.set_cons_succ, List.set_cons_zero]
              go_meet
              case rel => exact ⟨_, y87f, y87p, y87A, y87n, y87c, y87s, _, rfl, rfl, hb89, hd90, hm95⟩
          · go_simp
            have g100 := Gr.alloc hgS (.cells [.int .i64 0, .int .i64 0, .slice none 0 0].toArray 30)
            have hm99 := hmS.alloc (.cells [.int .i64 0, .int .i64 0, .slice none 0 0].toArray 30)
            generalize wd.heap.size = a98 at hm99 ⊢
            generalize wd.alloc (.cells [.int .i64 0, .int .i64 0, .slice none 0 0].toArray 30) = u97 at g100 hm99 ⊢
            refine hK _ _ (fun _ => ⟨Gr.cell g100 k1, Gr.cell g100 k2, Gr.cell g100 k3, Gr.cell g100 k4⟩) ?_
            clear hK K
            try simp only [Act.put, List.getElem_toArray, List.getElem_cons_succ, List.getElem_cons_zero, List.setIfInBounds_toArray, List.set_cons_zero, List.set_cons_succ]
            refine wpAnyU_one 5 (by kernel_rfl) rfl (fun K hK => ?_)
            refine step_callw rfl 49 Try.f49 Try.func49 (by kernel_rfl) (by kernel_rfl) _ _ rfl #[.slice B m d] (by simp [Act.eval]) ?_
            refine (copyValues_ok u97 B m d args ⟨ha.out.gr (Gr.trans hg0.out g100)⟩ (by omega)).mono ?_
            rintro e u101 ⟨A102, c103, rfl, hz104⟩
            have g105 := Gr.trans g100 hz104.gr
            have hm106 := hm99.gr hz104.gr
            have r107 : RdC u101 2 (.slice A102 m c103) (fV args) := hz104.ok.rd
            refine ⟨_, rfl, hK _ _ (fun _ => ⟨Gr.cell g105 k1, Gr.cell g105 k2, Gr.cell g105 k3, Gr.cell g105 k4⟩) ?_⟩
            clear hK K
            try simp only [Act.put, List.getElem_toArray, List.getElem_cons_succ, List.getElem_cons_zero, List.setIfInBounds_toArray, List.set_cons_zero, List.set_cons_succ]
            refine wpAnyU_one 6 (by kernel_rfl) rfl (fun K hK => ?_)
            refine step_callw rfl 16 Try.f16 Try.func16 (by kernel_rfl) (by kernel_rfl) _ _ rfl #[.agg #[.slice kA kn kc, .slice fA fnn fc], .int .i64 fn, .slice A102 m c103] (by simp [Act.eval]) ?_
            refine (hent u101 (Gr.trans hg0.out g105) A102 c103 ⟨r107⟩).mono ?_
            rintro e u108 ⟨y109f, y109p, y109A, y109n, y109c, y109s, b110, rfl, hb111, hd112, hn113⟩
            have g114 := Gr.trans g105 hn113.gr
            have hm115 := hm106.new hn113
            refine ⟨_, rfl, hK _ _ (fun _ => ⟨Gr.cell g114 k1, Gr.cell g114 k2, Gr.cell g114 k3, Gr.cell g114 k4⟩) ?_⟩
            clear hK K
            try simp only [Act.put, List.getElem_toArray, List.getElem_cons_succ, List.getElem_cons_zero, List.setIfInBounds_toArray, List.set_cons_zero, List.set_cons_succ]
            refine wpAnyU_take 7 (v := ?vv512) rfl (by kernel_rfl) (by kernel_rfl) (fun _ _ _ h => h) ⟨Gr.cell g114 k1, Gr.cell g114 k2, Gr.cell g114 k3, Gr.cell g114 k4⟩ (Or.inl ⟨rfl, ?yv512⟩) ?rv512
            case yv512 =>
              intro W hW
              obtain ⟨hW0, hW1, hW2, hW3⟩ := hW
              go_simp
              try with_reducible rfl
            try simp only [Act.put, List.getElem_toArray, List.getElem_cons_succ, List.getElem_cons_zero, List.setIfInBounds_toArray, List.set_cons_zero, List.set_cons_succ]
            refine wpAnyU_take 8 (v := ?vv513) rfl (by kernel_rfl) (by kernel_rfl) (fun _ _ _ h => h) ⟨Gr.cell g114 k1, Gr.cell g114 k2, Gr.cell g114 k3, Gr.cell g114 k4⟩ (Or.inl ⟨rfl, ?yv513⟩) ?rv513
            case yv513 =>
              intro W hW
              obtain ⟨hW0, hW1, hW2, hW3⟩ := hW
              go_simp
              try with_reducible rfl
            try simp only [Act.put, List.getElem_toArray, List.getElem_cons_succ, List.getElem_cons_zero, List.setIfInBounds_toArray, List.set_cons_zero, List.set_cons_succ]
            refine wpAnyU_take 9 (v := ?vv514) rfl (by kernel_rfl) (by kernel_rfl) (fun _ _ _ h => h) ⟨Gr.cell g114 k1, Gr.cell g114 k2, Gr.cell g114 k3, Gr.cell g114 k4⟩ (Or.inl ⟨rfl, ?yv514⟩) ?rv514
            case yv514 =>
              intro W hW
              obtain ⟨hW0, hW1, hW2, hW3⟩ := hW
              go_simp
              try with_reducible rfl
            try simp only [Act.put, List.getElem_toArray, List.getElem_cons_succ, List.getElem_cons_zero, List.setIfInBounds_toArray, List.set_cons_zero, List.set_cons_succ]
            refine wpAnyU_one 11 (by kernel_rfl) rfl (fun K hK => ?_)
            have hm116 := hm115.swap
            have qa980 := hm116.cell m0 0 rfl
            have fa980 := hm116.free m0 0
            have qa981 := hm116.cell m0 1 rfl
            have fa981 := hm116.free m0 1
            have qa982 := hm116.cell m0 2 rfl
            have fa982 := hm116.free m0 2
            have hm117 := ((hm116.set 0 (.int .i64 y109f)).set 1 (.int .i64 y109p)).set 2 (.slice y109A y109n y109c)
            have g118 := hm117.below
            go_simp
            refine hK _ _ (fun _ => ⟨Gr.cell g118 k1, Gr.cell g118 k2, Gr.cell g118 k3, Gr.cell g118 k4⟩) ?_
            clear hK K
            try simp only [Act.put, List.getElem_toArray, List.getElem_cons_succ, List.getElem_cons_zero, List.setIfInBounds_toArray, List.set_cons_zero, List.set_cons_succ]
            refine wpAnyU_one 12 (by kernel_rfl) rfl (fun K hK => ?_)
            go_simp
            refine hK _ _ (fun h => absurd h (by decide)) ?_
            clear hK K
            refine wpAnyU_done (by kernel_rfl) ?_ _
            go_wp2
            try simp only [Act.put, List.getElem_toArray, List.getElem_cons_succ, List.getElem_cons_zero, List.setIfInBounds_toArray, List.set_cons_succ, List.set_cons_zero]
            go_meet
            case rel => exact ⟨_, y109f, y109p, y109A, y109n, y109c, y109s, _, rfl, rfl, hb111, hd112, hm117⟩
      case rest =>
        obtain ⟨g8, yfn, ypc, yA, yn, yc, ysl, b, rfl, rfl, hb, hd, hm4⟩ := hcut
        obtain rfl : b = false := hb.out
        have hfin := Fact.mk (Gr.trans hg0.out hm4.below)
        clear hm4 hb hd
        go_wp2
        go_ret
        exact ⟨rfl, hfin.out⟩
    | true =>
      obtain ⟨j, f, fb, fo, hj0, hjn, hfa, hfr, hfp, hfl, hf6, he⟩ := hgood.out hb.out.symm
      have hdd := hd.out.trans he
      simp only [Prod.mk.injEq] at hdd
      obtain ⟨h1, h2, h3⟩ := hdd
      clear hgood hb hd he hent
      have hyl : ysl.length = yn := rdV_len (hm3.rd m1)
      have hyn : f.locals = (yn : Int) := by rw [← hyl, h3, List.length_append, List.length_replicate, hal.out]; omega
      have hmy : m ≤ yn := by omega
      have hy64 : yn ≤ 64 := by omega
      have hyp : Fact (RdC w3 2 (.slice yA m yc) (fV args)) := ⟨by
        have h := (hm3.rd m1).pre m hmy
        rw [← fV_take, h3, List.take_append_of_le_length (by rw [hal.out]; exact Nat.le_refl _), List.take_of_length_le (by rw [hal.out]; exact Nat.le_refl _)] at h
        exact h⟩
      have hyo : Fact (FrOk (N + 1) w3 ⟨yfn, ypc, yA, yn, yc, ysl⟩) := ⟨⟨hm3.rd m1, by show yn ≤ N + 1; omega⟩⟩
      have hmc : m ≤ yc := by obtain ⟨_, _, _, e, _, h, _⟩ := hyp.out; cases e; exact h
      have ha3 : Fact (RdC w3 2 (.slice B m d) (fV args)) := ⟨ha.out.gr hg0.out⟩
      have hf2 := rng_gr hfr hg0.out
      try simp only at hfa hjn
      have y1 : w3.cell? ⟨g7, 0, none⟩ = some (.int .i64 yfn) := hm3.cell m0 0 rfl
      have y2 : w3.cell? ⟨g7, 1, none⟩ = some (.int .i64 ypc) := hm3.cell m0 1 rfl
      have y3 : w3.cell? ⟨g7, 2, none⟩ = some (.slice yA yn yc) := hm3.cell m0 2 rfl
      have f1 : w3.cell? ⟨fb, fo + j * 5 + 1, none⟩ = some (.int .i64 f.params) := hf2 1 _ rfl
      have f2 : w3.cell? ⟨fb, fo + j * 5 + 2, none⟩ = some (.int .i64 f.locals) := hf2 2 _ rfl
      rw [hfp] at f1
      rw [hyn] at f2
      have hyq : Fact (yfn = fn ∧ ypc = 0) := ⟨h1, h2⟩
      have hjj := Fact.mk hj0
      rw [hj0] at k3
      subst hfa
      have hj1 : ((j : Int) < 0) = False := eq_false (Int.not_lt.2 (Int.natCast_nonneg j))
      have hj2 : ((j : Int) ≥ (fnn : Int)) = False := eq_false (by omega)
      have hj3 : ((yn : Int) < (m : Int)) = False := eq_false (Int.not_lt.2 (Int.ofNat_le.2 hmy))
      clear hfr hf2 hm3 hfp hfl hf6 h1 h2 h3 hyl hyn hj0 hp
      go_upto_region 7 with (fail)
      go_quiet (exact Calls.quiet_of (sameValuesQ _ _ _ m _ _ args ⟨hyp.out.gr ((Gr.refl _).drewN _)⟩ ⟨ha3.out.gr ((Gr.refl _).drewN _)⟩ (by omega)))
      have hg9 : Gr w3 (w3.drewN nq) := (Gr.refl _).drewN _
      have hg0 := Fact.mk (Gr.trans hg0.out hg9)
      have hyo := Fact.mk (hyo.out.gr hg9)
      have k1 := Gr.cell hg9 k1
      have k2 := Gr.cell hg9 k2
      have k5 := Gr.cell hg9 k5
      have k6 := Gr.cell hg9 k6
      have y1 := Gr.cell hg9 y1
      have y2 := Gr.cell hg9 y2
      have y3 := Gr.cell hg9 y3
      clear hg9 f1 f2 k3 k4 hyp ha3 hj1 hj2 hj3
      generalize w3.drewN nq = w4 at *
      go_upto_region 9 with (fail)
      go_cut [11] (fun s11 W => ∃ (A9 : Option Addr) (c9 : Nat) (zs : List Fr), s11 = .slice A9 (n + 1) c9 ∧ Gr w4 W ∧ FrsOk (N + 1) W A9 (n + 1) c9 zs ∧ Fact (zs.map Fr.data = xs.map Fr.data ++ [(yfn, ypc, ysl)]))
      case first =>
        as_aux_lemma =>
          have hgS := (Gr.refl w4).drew
          have hmS := (Mem.start w4).drew
          refine wp_region_until (S := fun W => W.cell? ⟨g7, 0, none⟩ = some (.int .i64 yfn) ∧ W.cell? ⟨g7, 1, none⟩ = some (.int .i64 ypc) ∧ W.cell? ⟨g7, 2, none⟩ = some (.slice yA yn yc)) 5 (by kernel_rfl) ?_
          generalize w4.drew = wd at hgS hmS ⊢
          refine wpAnyU_take 0 (v := ?vv91) rfl (by kernel_rfl) (by kernel_rfl) (fun _ _ _ h => h) ⟨Gr.cell hgS y1, Gr.cell hgS y2, Gr.cell hgS y3⟩ (Or.inl ⟨rfl, ?yv91⟩) ?rv91
          case yv91 =>
            intro W hW
            obtain ⟨hW0, hW1, hW2⟩ := hW
            go_simp
            try with_reducible rfl
          try simp only [Act.put, List.getElem_toArray, List.getElem_cons_succ, List.getElem_cons_zero, List.setIfInBounds_toArray, List.set_cons_zero, List.set_cons_succ]
          refine wpAnyU_take 2 (v := ?vv92) rfl (by kernel_rfl) (by kernel_rfl) (fun _ _ _ h => h) ⟨Gr.cell hgS y1, Gr.cell hgS y2, Gr.cell hgS y3⟩ (Or.inl ⟨rfl, ?yv92⟩) ?rv92
          case yv92 =>
            intro W hW
            obtain ⟨hW0, hW1, hW2⟩ := hW
            go_simp
            try with_reducible rfl
          try simp only [Act.put, List.getElem_toArray, List.getElem_cons_succ, List.getElem_cons_zero, List.setIfInBounds_toArray, List.set_cons_zero, List.set_cons_succ]
          refine wpAnyU_two 1 3 (by kernel_rfl) rfl rfl (fun K hK => ?_) (fun K hK => ?_)
          · refine step_callw rfl 26 Try.f26 Try.func26 (by kernel_rfl) (by kernel_rfl) _ _ rfl #[.slice A n c] (by simp [Act.eval]) ?_
            refine (copyFrames_ok wd N A n c xs ⟨hx.out.gr (Gr.trans hg0.out hgS)⟩ (by omega) (by omega)).mono ?_
            rintro e u119 ⟨A120, c121, ys122, rfl, hz123, hd124, hn125⟩
            have g126 := Gr.trans hgS hz123.below
            have hu128 := (Mem.start w4).gr hgS
            have hm127 := (hu128).join hz123
            refine ⟨_, rfl, hK _ _ (fun _ => ⟨Gr.cell g126 y1, Gr.cell g126 y2, Gr.cell g126 y3⟩) ?_⟩
            clear hK K
            try simp only [Act.put, List.getElem_toArray, List.getElem_cons_succ, List.getElem_cons_zero, List.setIfInBounds_toArray, List.set_cons_zero, List.set_cons_succ]
            refine wpAnyU_one 3 (by kernel_rfl) rfl (fun K hK => ?_)
            go_simp
            have g132 := Gr.alloc g126 (.cells [.int .i64 yfn, .int .i64 ypc, .slice yA yn yc].toArray 30)
            have hm131 := hm127.gr (Gr.alloc (Gr.refl u119) (.cells [.int .i64 yfn, .int .i64 ypc, .slice yA yn yc].toArray 30))
            have r133 : RdC (u119.alloc (.cells [.int .i64 yfn, .int .i64 ypc, .slice yA yn yc].toArray 30)) 3 (.slice (some ⟨u119.heap.size, 0, none⟩) 1 1) (cR ⟨yfn, ypc, yA, yn, yc, ysl⟩) := RdC.lit _ (cR ⟨yfn, ypc, yA, yn, yc, ysl⟩) _ 1 3 rfl (by simp [maxLen]) (cR_one _)
            generalize u119.heap.size = a130 at r133 ⊢
            generalize u119.alloc (.cells [.int .i64 yfn, .int .i64 ypc, .slice yA yn yc].toArray 30) = u129 at g132 hm131 r133 ⊢
            refine hK _ _ (fun _ => ⟨Gr.cell g132 y1, Gr.cell g132 y2, Gr.cell g132 y3⟩) ?_
            clear hK K
            try simp only [Act.put, List.getElem_toArray, List.getElem_cons_succ, List.getElem_cons_zero, List.setIfInBounds_toArray, List.set_cons_zero, List.set_cons_succ]
            refine wpAnyU_one 4 (by kernel_rfl) rfl (fun K hK => ?_)
            refine step_appw rfl _ _ _ rfl 30 iR _ 3 40 ty_Rs ri rz0 rz1 rz2 rfl A120 n c121 _ rfl hm131 _ 1 1 (cR ⟨yfn, ypc, yA, yn, yc, ysl⟩) rfl r133 (by unfold maxLen; omega) (by omega) ?_
            intro A135 c136 u134 hm137
            have g138 := hm137.below
            have hf139 := frs_app hm137 (fun y hy => Nat.le_succ_of_le (hn125 y hy)) (hyo.out.gr g138)
            refine hK _ _ (fun _ => ⟨Gr.cell g138 y1, Gr.cell g138 y2, Gr.cell g138 y3⟩) ?_
            clear hK K
            try simp only [Act.put, List.getElem_toArray, List.getElem_cons_succ, List.getElem_cons_zero, List.setIfInBounds_toArray, List.set_cons_zero, List.set_cons_succ]
            refine wpAnyU_one 5 (by kernel_rfl) rfl (fun K hK => ?_)
            go_simp
            refine hK _ _ (fun h => absurd h (by decide)) ?_
            clear hK K
            refine wpAnyU_done (by kernel_rfl) ?_ _
            go_wp2
            try simp only [Act.put, List.getElem_toArray, List.getElem_cons_succ, List.getElem_cons_zero, List.setIfInBounds_toArray, List.set_cons_succ, List.set_cons_zero]
            go_meet
            case rel => exact ⟨_, _, ys122 ++ [⟨yfn, ypc, yA, yn, yc, ysl⟩], rfl, g138, hf139, ⟨by rw [List.map_append, hd124]; rfl⟩⟩
          · go_simp
            have g143 := Gr.alloc hgS (.cells [.int .i64 yfn, .int .i64 ypc, .slice yA yn yc].toArray 30)
            have hm142 := hmS.gr (Gr.alloc (Gr.refl wd) (.cells [.int .i64 yfn, .int .i64 ypc, .slice yA yn yc].toArray 30))
            have r144 : RdC (wd.alloc (.cells [.int .i64 yfn, .int .i64 ypc, .slice yA yn yc].toArray 30)) 3 (.slice (some ⟨wd.heap.size, 0, none⟩) 1 1) (cR ⟨yfn, ypc, yA, yn, yc, ysl⟩) := RdC.lit _ (cR ⟨yfn, ypc, yA, yn, yc, ysl⟩) _ 1 3 rfl (by simp [maxLen]) (cR_one _)
            generalize wd.heap.size = a141 at r144 ⊢
            generalize wd.alloc (.cells [.int .i64 yfn, .int .i64 ypc, .slice yA yn yc].toArray 30) = u140 at g143 hm142 r144 ⊢
            refine hK _ _ (fun _ => ⟨Gr.cell g143 y1, Gr.cell g143 y2, Gr.cell g143 y3⟩) ?_
            clear hK K
            try simp only [Act.put, List.getElem_toArray, List.getElem_cons_succ, List.getElem_cons_zero, List.setIfInBounds_toArray, List.set_cons_zero, List.set_cons_succ]
            refine wpAnyU_one 1 (by kernel_rfl) rfl (fun K hK => ?_)
            refine step_callw rfl 26 Try.f26 Try.func26 (by kernel_rfl) (by kernel_rfl) _ _ rfl #[.slice A n c] (by simp [Act.eval]) ?_
            refine (copyFrames_ok u140 N A n c xs ⟨hx.out.gr (Gr.trans hg0.out g143)⟩ (by omega) (by omega)).mono ?_
            rintro e u145 ⟨A146, c147, ys148, rfl, hz149, hd150, hn151⟩
            have g152 := Gr.trans g143 hz149.below
            have hu154 := (Mem.start w4).gr g143
            have hm153 := (hu154).join hz149
            have r155 := r144.gr hz149.below
            refine ⟨_, rfl, hK _ _ (fun _ => ⟨Gr.cell g152 y1, Gr.cell g152 y2, Gr.cell g152 y3⟩) ?_⟩
            clear hK K
            try simp only [Act.put, List.getElem_toArray, List.getElem_cons_succ, List.getElem_cons_zero, List.setIfInBounds_toArray, List.set_cons_zero, List.set_cons_succ]
            refine wpAnyU_one 4 (by kernel_rfl) rfl (fun K hK => ?_)
            refine step_appw rfl _ _ _ rfl 30 iR _ 3 40 ty_Rs ri rz0 rz1 rz2 rfl A146 n c147 _ rfl hm153 _ 1 1 (cR ⟨yfn, ypc, yA, yn, yc, ysl⟩) rfl r155 (by unfold maxLen; omega) (by omega) ?_
            intro A157 c158 u156 hm159
            have g160 := hm159.below
            have hf161 := frs_app hm159 (fun y hy => Nat.le_succ_of_le (hn151 y hy)) (hyo.out.gr g160)
            refine hK _ _ (fun _ => ⟨Gr.cell g160 y1, Gr.cell g160 y2, Gr.cell g160 y3⟩) ?_
            clear hK K
            try simp only [Act.put, List.getElem_toArray, List.getElem_cons_succ, List.getElem_cons_zero, List.setIfInBounds_toArray, List.set_cons_zero, List.set_cons_succ]
            refine wpAnyU_one 5 (by kernel_rfl) rfl (fun K hK => ?_)
            go_simp
            refine hK _ _ (fun h => absurd h (by decide)) ?_
            clear hK K
            refine wpAnyU_done (by kernel_rfl) ?_ _
            go_wp2
            try simp only [Act.put, List.getElem_toArray, List.getElem_cons_succ, List.getElem_cons_zero, List.setIfInBounds_toArray, List.set_cons_succ, List.set_cons_zero]
            go_meet
            case rel => exact ⟨_, _, ys148 ++ [⟨yfn, ypc, yA, yn, yc, ysl⟩], rfl, g160, hf161, ⟨by rw [List.map_append, hd150]; rfl⟩⟩
      case rest =>
        obtain ⟨w5, rfl⟩ : ∃ w5 : World, w5 = wc := ⟨_, rfl⟩
        obtain ⟨A9, c9, zs, rfl, hg9, hf1, hd1⟩ := hcut
        have hf1 := Fact.mk hf1
        have hg0 := Fact.mk (Gr.trans hg0.out hg9)
        have k1 := Gr.cell hg9 k1
        have k2 := Gr.cell hg9 k2
        have k5 := Gr.cell hg9 k5
        have k6 := Gr.cell hg9 k6
        clear hg9 y1 y2 y3 hyo
        go_wp2_with fail
        refine (return_ok w5 ⟨kA, kn, kc, consts, (some ⟨fb, fo, none⟩), fnn, fc, fns⟩ (N + 1) A9 (n + 1) c9 zs hf1 (by omega) (by omega) (v1, v2)).mono ?_
        rintro e w6 ⟨R, rn, rc, z2, rfl, hm6, hd2, hz2⟩
        have hg9 := hm6.below
        have hf2 : Fact (FrsOk (N + 1 + 1) w6 R rn rc z2) := ⟨frs_of hm6 hz2⟩
        have hg0 := Fact.mk (Gr.trans hg0.out hg9)
        have k5 := Gr.cell hg9 k5
        have k6 := Gr.cell hg9 k6
        clear hg9 hm6 hz2 hf1 k1 k2
        have hl := Fact.mk hx.out.len
        have hl2 := Fact.mk hf2.out.len
        by_cases hn0 : n = 0
        · subst hn0
          obtain rfl : xs = [] := List.length_eq_zero_iff.1 hl.out
          rw [ret_none hd1.out] at hd2
          obtain rfl : rn = 0 := by have h := congrArg List.length hd2; simp at h; rw [← hl2.out, h]; rfl
          have hfin := Fact.mk hg0.out
          clear hd1 hd2 hf2 hl hl2
          go_wp2
          go_ret
          exact ⟨rfl, hfin.out⟩
        · obtain ⟨q, hqn⟩ : ∃ q, Fact (n = q + 1) := ⟨n - 1, ⟨by omega⟩⟩
          rw [ret_some hd1.out (hl.out.trans hqn.out)] at hd2
          obtain rfl : rn = n := by have h := congrArg List.length hd2; simp at h; have := hl.out; have := hl2.out; have := hqn.out; omega
          have hd2 := Fact.mk hd2
          clear hd1 hn0
          have hdec : Fact (decide (2 ≤ rn + 1) = true) := ⟨by have := hqn.out; simp; omega⟩
          rw [hdec.out]
          have hqn1 : q < rn := by have := hqn.out; omega
          have hqc : q ≤ c := by obtain ⟨_, _, _, e, _, h, _⟩ := hx.out.rd; cases e; omega
          have hqr : q ≤ rc := by obtain ⟨_, _, _, e, _, h, _⟩ := hf2.out.rd; cases e; omega
          have hq0 : ((rn : Int) = 0) = False := eq_false (by omega)
          have hq4 : ((rn : Int) - 1) = (q : Int) := by have := hqn.out; omega
          have hq5 : ((q : Int) + 1) = (rn : Int) := by have := hqn.out; omega
          have hq6 : IntKind.i64.wrap (rn : Int) = (rn : Int) := IntWalk.i64_in _ (by omega)
          have hql : ((xs.take q).map Fr.data).length = q := by simp; have := hl.out; omega
          have hzd : Fact ((z2.take q).map Fr.data = (xs.take q).map Fr.data) := ⟨by rw [List.map_take, hd2.out, List.take_append_of_le_length (Nat.le_of_eq hql.symm), List.take_of_length_le (Nat.le_of_eq hql)]⟩
          have hxp : Fact (FrsOk (N + 1 + 1) w6 A q c (xs.take q)) := ⟨by
            have h := (hx.out.gr hg0.out).pre q (by omega)
            exact ⟨h.rd, fun f hf => ⟨(h.each f hf).1, by have := (h.each f hf).2; omega⟩⟩⟩
          clear hdec
          go_upto_region 14 with (fail)
          go_cut [144] (fun s144 W => s144 = .bool false ∧ Gr w6 W)
          case first =>
            as_aux_lemma =>
              have hgS := (Gr.refl w6).drew
              have hmS := (Mem.start w6).drew
              refine wp_region_until (S := fun W => True) 18 (by kernel_rfl) ?_
              generalize w6.drew = wd at hgS hmS ⊢
              refine wpAnyU_take 0 (v := ?vv141) rfl (by kernel_rfl) (by kernel_rfl) (fun _ _ _ h => h) trivial (Or.inl ⟨rfl, ?yv141⟩) ?rv141
              case yv141 =>
                intro W hW
                go_simp
                try with_reducible rfl
              try simp only [Act.put, List.getElem_toArray, List.getElem_cons_succ, List.getElem_cons_zero, List.setIfInBounds_toArray, List.set_cons_zero, List.set_cons_succ]
              refine wpAnyU_take 1 (v := ?vv142) rfl (by kernel_rfl) (by kernel_rfl) (fun _ _ _ h => h) trivial (Or.inl ⟨rfl, ?yv142⟩) ?rv142
              case yv142 =>
                intro W hW
                go_simp
                try with_reducible rfl
              try simp only [Act.put, List.getElem_toArray, List.getElem_cons_succ, List.getElem_cons_zero, List.setIfInBounds_toArray, List.set_cons_zero, List.set_cons_succ]
              refine wpAnyU_take 2 (v := ?vv143) rfl (by kernel_rfl) (by kernel_rfl) (fun _ _ _ h => h) trivial (Or.inl ⟨rfl, ?yv143⟩) ?rv143
              case yv143 =>
                intro W hW
                go_simp
                try with_reducible rfl
              try simp only [Act.put, List.getElem_toArray, List.getElem_cons_succ, List.getElem_cons_zero, List.setIfInBounds_toArray, List.set_cons_zero, List.set_cons_succ]
              refine wpAnyU_take 3 (v := ?vv144) rfl (by kernel_rfl) (by kernel_rfl) (fun _ _ _ h => h) trivial (Or.inl ⟨rfl, ?yv144⟩) ?rv144
              case yv144 =>
                intro W hW
                go_simp
                try with_reducible rfl
              try simp only [Act.put, List.getElem_toArray, List.getElem_cons_succ, List.getElem_cons_zero, List.setIfInBounds_toArray, List.set_cons_zero, List.set_cons_succ]
              refine wpAnyU_take 4 (v := ?vv145) rfl (by kernel_rfl) (by kernel_rfl) (fun _ _ _ h => h) trivial (Or.inl ⟨rfl, ?yv145⟩) ?rv145
              case yv145 =>
                intro W hW
                go_simp
                try with_reducible rfl
              try simp only [Act.put, List.getElem_toArray, List.getElem_cons_succ, List.getElem_cons_zero, List.setIfInBounds_toArray, List.set_cons_zero, List.set_cons_succ]
              refine wpAnyU_take 5 (v := ?vv146) rfl (by kernel_rfl) (by kernel_rfl) (fun _ _ _ h => h) trivial (Or.inl ⟨rfl, ?yv146⟩) ?rv146
              case yv146 =>
                intro W hW
                go_simp
                try with_reducible rfl
              try simp only [Act.put, List.getElem_toArray, List.getElem_cons_succ, List.getElem_cons_zero, List.setIfInBounds_toArray, List.set_cons_zero, List.set_cons_succ]
              refine wpAnyU_take 6 (v := ?vv147) rfl (by kernel_rfl) (by kernel_rfl) (fun _ _ _ h => h) trivial (Or.inl ⟨rfl, ?yv147⟩) ?rv147
              case yv147 =>
                intro W hW
                go_simp
                try with_reducible rfl
              try simp only [Act.put, List.getElem_toArray, List.getElem_cons_succ, List.getElem_cons_zero, List.setIfInBounds_toArray, List.set_cons_zero, List.set_cons_succ]
              refine wpAnyU_take 7 (v := ?vv148) rfl (by kernel_rfl) (by kernel_rfl) (fun _ _ _ h => h) trivial (Or.inl ⟨rfl, ?yv148⟩) ?rv148
              case yv148 =>
                intro W hW
                go_simp
                try with_reducible rfl
              try simp only [Act.put, List.getElem_toArray, List.getElem_cons_succ, List.getElem_cons_zero, List.setIfInBounds_toArray, List.set_cons_zero, List.set_cons_succ]
              refine wpAnyU_take 8 (v := ?vv149) rfl (by kernel_rfl) (by kernel_rfl) (fun _ _ _ h => h) trivial (Or.inl ⟨rfl, ?yv149⟩) ?rv149
              case yv149 =>
                intro W hW
                go_simp
                try with_reducible rfl
              try simp only [Act.put, List.getElem_toArray, List.getElem_cons_succ, List.getElem_cons_zero, List.setIfInBounds_toArray, List.set_cons_zero, List.set_cons_succ]
              refine wpAnyU_take 9 (v := ?vv1410) rfl (by kernel_rfl) (by kernel_rfl) (fun _ _ _ h => h) trivial (Or.inl ⟨rfl, ?yv1410⟩) ?rv1410
              case yv1410 =>
                intro W hW
                go_simp
                try with_reducible rfl
              try simp only [Act.put, List.getElem_toArray, List.getElem_cons_succ, List.getElem_cons_zero, List.setIfInBounds_toArray, List.set_cons_zero, List.set_cons_succ]
              refine wpAnyU_take 10 (v := ?vv1411) rfl (by kernel_rfl) (by kernel_rfl) (fun _ _ _ h => h) trivial (Or.inl ⟨rfl, ?yv1411⟩) ?rv1411
              case yv1411 =>
                intro W hW
                go_simp
                try with_reducible rfl
              try simp only [Act.put, List.getElem_toArray, List.getElem_cons_succ, List.getElem_cons_zero, List.setIfInBounds_toArray, List.set_cons_zero, List.set_cons_succ]
              refine wpAnyU_take 11 (v := ?vv1412) rfl (by kernel_rfl) (by kernel_rfl) (fun _ _ _ h => h) trivial (Or.inl ⟨rfl, ?yv1412⟩) ?rv1412
              case yv1412 =>
                intro W hW
                go_simp
                try with_reducible rfl
              try simp only [Act.put, List.getElem_toArray, List.getElem_cons_succ, List.getElem_cons_zero, List.setIfInBounds_toArray, List.set_cons_zero, List.set_cons_succ]
              refine wpAnyU_take 12 (v := ?vv1413) rfl (by kernel_rfl) (by kernel_rfl) (fun _ _ _ h => h) trivial (Or.inl ⟨rfl, ?yv1413⟩) ?rv1413
              case yv1413 =>
                intro W hW
                go_simp
                try with_reducible rfl
              try simp only [Act.put, List.getElem_toArray, List.getElem_cons_succ, List.getElem_cons_zero, List.setIfInBounds_toArray, List.set_cons_zero, List.set_cons_succ]
              refine wpAnyU_take 13 (v := ?vv1414) rfl (by kernel_rfl) (by kernel_rfl) (fun _ _ _ h => h) trivial (Or.inl ⟨rfl, ?yv1414⟩) ?rv1414
              case yv1414 =>
                intro W hW
                go_simp
                try with_reducible rfl
              try simp only [Act.put, List.getElem_toArray, List.getElem_cons_succ, List.getElem_cons_zero, List.setIfInBounds_toArray, List.set_cons_zero, List.set_cons_succ]
              refine wpAnyU_take 14 (v := ?vv1415) rfl (by kernel_rfl) (by kernel_rfl) (fun _ _ _ h => h) trivial (Or.inl ⟨rfl, ?yv1415⟩) ?rv1415
              case yv1415 =>
                intro W hW
                go_simp
                try with_reducible rfl
              try simp only [Act.put, List.getElem_toArray, List.getElem_cons_succ, List.getElem_cons_zero, List.setIfInBounds_toArray, List.set_cons_zero, List.set_cons_succ]
              refine wpAnyU_take 15 (v := ?vv1416) rfl (by kernel_rfl) (by kernel_rfl) (fun _ _ _ h => h) trivial (Or.inl ⟨rfl, ?yv1416⟩) ?rv1416
              case yv1416 =>
                intro W hW
                go_simp
                try with_reducible rfl
              try simp only [Act.put, List.getElem_toArray, List.getElem_cons_succ, List.getElem_cons_zero, List.setIfInBounds_toArray, List.set_cons_zero, List.set_cons_succ]
              refine wpAnyU_one 16 (by kernel_rfl) rfl (fun K hK => ?_)
              refine step_callw rfl 24 Try.f24 Try.func24 (by kernel_rfl) (by kernel_rfl) _ _ rfl #[.slice R q rc, .slice A q c] (by simp [Act.eval]) ?_
              refine (sameFrames_ok wd R A (N + 1 + 1) q rc c (z2.take q) (xs.take q) ⟨(hf2.out.pre q (by omega)).gr hgS⟩ ⟨hxp.out.gr hgS⟩ hzd (by omega) (by omega)).mono ?_
              rintro e u162 ⟨rfl, gz163⟩
              have g164 := Gr.trans hgS gz163
              refine ⟨_, rfl, hK _ _ (fun _ => trivial) ?_⟩
              clear hK K
              try simp only [Act.put, List.getElem_toArray, List.getElem_cons_succ, List.getElem_cons_zero, List.setIfInBounds_toArray, List.set_cons_zero, List.set_cons_succ]
              refine wpAnyU_take 17 (v := ?vv1417) rfl (by kernel_rfl) (by kernel_rfl) (fun _ _ _ h => h) trivial (Or.inl ⟨rfl, ?yv1417⟩) ?rv1417
              case yv1417 =>
                intro W hW
                go_simp
                try with_reducible rfl
              try simp only [Act.put, List.getElem_toArray, List.getElem_cons_succ, List.getElem_cons_zero, List.setIfInBounds_toArray, List.set_cons_zero, List.set_cons_succ]
              refine wpAnyU_one 18 (by kernel_rfl) rfl (fun K hK => ?_)
              go_simp
              refine hK _ _ (fun h => absurd h (by decide)) ?_
              clear hK K
              refine wpAnyU_done (by kernel_rfl) ?_ _
              go_wp2
              try simp only [Act.put, List.getElem_toArray, List.getElem_cons_succ, List.getElem_cons_zero, List.setIfInBounds_toArray, List.set_cons_succ, List.set_cons_zero]
              go_meet
              case rel => exact ⟨rfl, g164⟩
          case rest =>
            obtain ⟨w7, rfl⟩ : ∃ w7 : World, w7 = wc := ⟨_, rfl⟩
            obtain ⟨rfl, hg9⟩ := hcut
            have hf2 := Fact.mk (hf2.out.gr hg9)
            have hg0 := Fact.mk (Gr.trans hg0.out hg9)
            have hx7 := Fact.mk (hx.out.gr hg0.out)
            have k5 := Gr.cell hg9 k5
            have k6 := Gr.cell hg9 k6
            clear hg9 hxp hzd
            obtain ⟨ab, ao, rfl, ar, ak, _⟩ := hf2.out.at q (by omega)
            obtain ⟨lb, lo, rfl, lr, lk, _⟩ := hx7.out.at q (by omega)
            have da : (z2.getD q fr0).data = retF (xs.getD q fr0).data (v1, v2) := by
              rw [← data_getD, hd2.out]; exact getD_snoc _ _ _ _ hql
            generalize z2.getD q fr0 = xa at ar ak da
            generalize xs.getD q fr0 = xl at lr lk da
            obtain ⟨afn, apc, aA, an, ac, asl⟩ := xa
            obtain ⟨lfn, lpc, lA, ln, lc, lsl⟩ := xl
            simp only [Fr.data, retF, Prod.mk.injEq] at da
            obtain ⟨rfl, rfl, rfl⟩ := da
            have hll : lsl.length = ln := lk.len
            have hln : ln ≤ 1048576 := by have := lk.2; simp only at this; omega
            obtain rfl : an = ln + 1 := by have h := ak.len; simp only at h; rw [← h, List.length_append, List.length_singleton, hll]
            have a0 : w7.cell? ⟨ab, ao + q * 3, none⟩ = some (.int .i64 _) := ar 0 _ rfl
            have a1 : w7.cell? ⟨ab, ao + q * 3 + 1, none⟩ = some (.int .i64 _) := ar 1 _ rfl
            have a2 : w7.cell? ⟨ab, ao + q * 3 + 2, none⟩ = some (.slice _ _ _) := ar 2 _ rfl
            have l0 : w7.cell? ⟨lb, lo + q * 3, none⟩ = some (.int .i64 _) := lr 0 _ rfl
            have l1 : w7.cell? ⟨lb, lo + q * 3 + 1, none⟩ = some (.int .i64 _) := lr 1 _ rfl
            have l2 : w7.cell? ⟨lb, lo + q * 3 + 2, none⟩ = some (.slice lA ln lc) := lr 2 _ rfl
            simp only at a0 a1 a2 l0 l1
            have hpa : Fact (RdC w7 2 (.slice aA (ln + 1) ac) (fV (lsl ++ [(v1, v2)]))) := ⟨ak.1⟩
            have hpl : Fact (RdC w7 2 (.slice lA ln lc) (fV lsl)) := ⟨lk.1⟩
            clear ar lr ak lk hd2
            go_upto_region 16 with (fail)
            go_cut [15] (fun s15 W => ∃ (A15 : Option Addr) (c15 : Nat), s15 = .slice A15 (ln + 1) c15 ∧ Gr w7 W ∧ Fact (RdC W 2 (.slice A15 (ln + 1) c15) (fV (lsl ++ [(v1, v2)]))))
            case first =>
              as_aux_lemma =>
                have hgS := (Gr.refl w7).drew
                have hmS := (Mem.start w7).drew
                refine wp_region_until (S := fun W => W.cell? ⟨lb, lo + q * 3 + 2, none⟩ = some (.slice lA ln lc) ∧ W.cell? ⟨g + 1, 2, none⟩ = some (.int .i64 v1) ∧ W.cell? ⟨g + 1, 3, none⟩ = some (.int .i64 v2)) 10 (by kernel_rfl) ?_
                generalize w7.drew = wd at hgS hmS ⊢
                refine wpAnyU_take 0 (v := ?vv161) rfl (by kernel_rfl) (by kernel_rfl) (fun _ _ _ h => h) ⟨Gr.cell hgS l2, Gr.cell hgS k5, Gr.cell hgS k6⟩ (Or.inl ⟨rfl, ?yv161⟩) ?rv161
                case yv161 =>
                  intro W hW
                  obtain ⟨hW0, hW1, hW2⟩ := hW
                  go_simp
                  try with_reducible rfl
                try simp only [Act.put, List.getElem_toArray, List.getElem_cons_succ, List.getElem_cons_zero, List.setIfInBounds_toArray, List.set_cons_zero, List.set_cons_succ]
                refine wpAnyU_take 1 (v := ?vv162) rfl (by kernel_rfl) (by kernel_rfl) (fun _ _ _ h => h) ⟨Gr.cell hgS l2, Gr.cell hgS k5, Gr.cell hgS k6⟩ (Or.inl ⟨rfl, ?yv162⟩) ?rv162
                case yv162 =>
                  intro W hW
                  obtain ⟨hW0, hW1, hW2⟩ := hW
                  go_simp
                  try with_reducible rfl
                try simp only [Act.put, List.getElem_toArray, List.getElem_cons_succ, List.getElem_cons_zero, List.setIfInBounds_toArray, List.set_cons_zero, List.set_cons_succ]
                refine wpAnyU_take 2 (v := ?vv163) rfl (by kernel_rfl) (by kernel_rfl) (fun _ _ _ h => h) ⟨Gr.cell hgS l2, Gr.cell hgS k5, Gr.cell hgS k6⟩ (Or.inl ⟨rfl, ?yv163⟩) ?rv163
                case yv163 =>
                  intro W hW
                  obtain ⟨hW0, hW1, hW2⟩ := hW
                  go_simp
                  try with_reducible rfl
                try simp only [Act.put, List.getElem_toArray, List.getElem_cons_succ, List.getElem_cons_zero, List.setIfInBounds_toArray, List.set_cons_zero, List.set_cons_succ]
                refine wpAnyU_take 3 (v := ?vv164) rfl (by kernel_rfl) (by kernel_rfl) (fun _ _ _ h => h) ⟨Gr.cell hgS l2, Gr.cell hgS k5, Gr.cell hgS k6⟩ (Or.inl ⟨rfl, ?yv164⟩) ?rv164
                case yv164 =>
                  intro W hW
                  obtain ⟨hW0, hW1, hW2⟩ := hW
                  go_simp
                  try with_reducible rfl
                try simp only [Act.put, List.getElem_toArray, List.getElem_cons_succ, List.getElem_cons_zero, List.setIfInBounds_toArray, List.set_cons_zero, List.set_cons_succ]
                refine wpAnyU_take 4 (v := ?vv165) rfl (by kernel_rfl) (by kernel_rfl) (fun _ _ _ h => h) ⟨Gr.cell hgS l2, Gr.cell hgS k5, Gr.cell hgS k6⟩ (Or.inl ⟨rfl, ?yv165⟩) ?rv165
                case yv165 =>
                  intro W hW
                  obtain ⟨hW0, hW1, hW2⟩ := hW
                  go_simp
                  try with_reducible rfl
                try simp only [Act.put, List.getElem_toArray, List.getElem_cons_succ, List.getElem_cons_zero, List.setIfInBounds_toArray, List.set_cons_zero, List.set_cons_succ]
                refine wpAnyU_take 6 (v := ?vv166) rfl (by kernel_rfl) (by kernel_rfl) (fun _ _ _ h => h) ⟨Gr.cell hgS l2, Gr.cell hgS k5, Gr.cell hgS k6⟩ (Or.inl ⟨rfl, ?yv166⟩) ?rv166
                case yv166 =>
                  intro W hW
                  obtain ⟨hW0, hW1, hW2⟩ := hW
                  go_simp
                  try with_reducible rfl
                try simp only [Act.put, List.getElem_toArray, List.getElem_cons_succ, List.getElem_cons_zero, List.setIfInBounds_toArray, List.set_cons_zero, List.set_cons_succ]
                refine wpAnyU_take 7 (v := ?vv167) rfl (by kernel_rfl) (by kernel_rfl) (fun _ _ _ h => h) ⟨Gr.cell hgS l2, Gr.cell hgS k5, Gr.cell hgS k6⟩ (Or.inl ⟨rfl, ?yv167⟩) ?rv167
                case yv167 =>
                  intro W hW
                  obtain ⟨hW0, hW1, hW2⟩ := hW
                  go_simp
                  try with_reducible rfl
                try simp only [Act.put, List.getElem_toArray, List.getElem_cons_succ, List.getElem_cons_zero, List.setIfInBounds_toArray, List.set_cons_zero, List.set_cons_succ]
                refine wpAnyU_two 5 8 (by kernel_rfl) rfl rfl (fun K hK => ?_) (fun K hK => ?_)
                · refine step_callw rfl 49 Try.f49 Try.func49 (by kernel_rfl) (by kernel_rfl) _ _ rfl #[.slice lA ln lc] (by simp [Act.eval]) ?_
                  refine (copyValues_ok wd lA ln lc lsl ⟨hpl.out.gr hgS⟩ (by omega)).mono ?_
                  rintro e u165 ⟨A166, c167, rfl, hz168⟩
                  have g169 := Gr.trans hgS hz168.gr
                  have hm170 := hmS.new hz168
                  refine ⟨_, rfl, hK _ _ (fun _ => ⟨Gr.cell g169 l2, Gr.cell g169 k5, Gr.cell g169 k6⟩) ?_⟩
                  clear hK K
                  try simp only [Act.put, List.getElem_toArray, List.getElem_cons_succ, List.getElem_cons_zero, List.setIfInBounds_toArray, List.set_cons_zero, List.set_cons_succ]
                  refine wpAnyU_one 8 (by kernel_rfl) rfl (fun K hK => ?_)
                  go_simp
                  have g174 := Gr.alloc g169 (.cells [.int .i64 v1, .int .i64 v2].toArray 41)
                  have hm173 := hm170.gr (Gr.alloc (Gr.refl u165) (.cells [.int .i64 v1, .int .i64 v2].toArray 41))
                  have r175 : RdC (u165.alloc (.cells [.int .i64 v1, .int .i64 v2].toArray 41)) 2 (.slice (some ⟨u165.heap.size, 0, none⟩) 1 1) (cV (v1, v2)) := RdC.lit _ (cV (v1, v2)) _ 1 2 rfl (by simp [maxLen]) (cV_one _)
                  generalize u165.heap.size = a172 at r175 ⊢
                  generalize u165.alloc (.cells [.int .i64 v1, .int .i64 v2].toArray 41) = u171 at g174 hm173 r175 ⊢
                  refine hK _ _ (fun _ => ⟨Gr.cell g174 l2, Gr.cell g174 k5, Gr.cell g174 k6⟩) ?_
                  clear hK K
                  try simp only [Act.put, List.getElem_toArray, List.getElem_cons_succ, List.getElem_cons_zero, List.setIfInBounds_toArray, List.set_cons_zero, List.set_cons_succ]
                  refine wpAnyU_one 9 (by kernel_rfl) rfl (fun K hK => ?_)
                  refine step_appw rfl _ _ _ rfl 41 iV _ 2 16 ty_Vs vi vz0 vz1 vz2 rfl A166 ln c167 _ rfl hm173 _ 1 1 (cV (v1, v2)) rfl r175 (by unfold maxLen; omega) (by omega) ?_
                  intro A177 c178 u176 hm179
                  have g180 := hm179.below
                  refine hK _ _ (fun _ => ⟨Gr.cell g180 l2, Gr.cell g180 k5, Gr.cell g180 k6⟩) ?_
                  clear hK K
                  try simp only [Act.put, List.getElem_toArray, List.getElem_cons_succ, List.getElem_cons_zero, List.setIfInBounds_toArray, List.set_cons_zero, List.set_cons_succ]
                  refine wpAnyU_one 10 (by kernel_rfl) rfl (fun K hK => ?_)
                  go_simp
                  refine hK _ _ (fun h => absurd h (by decide)) ?_
                  clear hK K
                  refine wpAnyU_done (by kernel_rfl) ?_ _
                  go_wp2
                  try simp only [Act.put, List.getElem_toArray, List.getElem_cons_succ, List.getElem_cons_zero, List.setIfInBounds_toArray, List.set_cons_succ, List.set_cons_zero]
                  go_meet
                  case rel => exact ⟨_, _, rfl, g180, ⟨by have h := hm179.rd m0; rw [fV_app]; exact h⟩⟩
                · go_simp
                  have g185 := Gr.alloc hgS (.cells [.int .i64 v1, .int .i64 v2].toArray 41)
                  have hm184 := hmS.gr (Gr.alloc (Gr.refl wd) (.cells [.int .i64 v1, .int .i64 v2].toArray 41))
                  have r186 : RdC (wd.alloc (.cells [.int .i64 v1, .int .i64 v2].toArray 41)) 2 (.slice (some ⟨wd.heap.size, 0, none⟩) 1 1) (cV (v1, v2)) := RdC.lit _ (cV (v1, v2)) _ 1 2 rfl (by simp [maxLen]) (cV_one _)
                  generalize wd.heap.size = a183 at r186 ⊢
                  generalize wd.alloc (.cells [.int .i64 v1, .int .i64 v2].toArray 41) = u182 at g185 hm184 r186 ⊢
                  refine hK _ _ (fun _ => ⟨Gr.cell g185 l2, Gr.cell g185 k5, Gr.cell g185 k6⟩) ?_
                  clear hK K
                  try simp only [Act.put, List.getElem_toArray, List.getElem_cons_succ, List.getElem_cons_zero, List.setIfInBounds_toArray, List.set_cons_zero, List.set_cons_succ]
                  refine wpAnyU_one 5 (by kernel_rfl) rfl (fun K hK => ?_)
                  refine step_callw rfl 49 Try.f49 Try.func49 (by kernel_rfl) (by kernel_rfl) _ _ rfl #[.slice lA ln lc] (by simp [Act.eval]) ?_
                  refine (copyValues_ok u182 lA ln lc lsl ⟨hpl.out.gr g185⟩ (by omega)).mono ?_
                  rintro e u187 ⟨A188, c189, rfl, hz190⟩
                  have g191 := Gr.trans g185 hz190.gr
                  have hm192 := hm184.new hz190
                  have r193 := r186.gr hz190.gr
                  refine ⟨_, rfl, hK _ _ (fun _ => ⟨Gr.cell g191 l2, Gr.cell g191 k5, Gr.cell g191 k6⟩) ?_⟩
                  clear hK K
                  try simp only [Act.put, List.getElem_toArray, List.getElem_cons_succ, List.getElem_cons_zero, List.setIfInBounds_toArray, List.set_cons_zero, List.set_cons_succ]
                  refine wpAnyU_one 9 (by kernel_rfl) rfl (fun K hK => ?_)
                  refine step_appw rfl _ _ _ rfl 41 iV _ 2 16 ty_Vs vi vz0 vz1 vz2 rfl A188 ln c189 _ rfl hm192 _ 1 1 (cV (v1, v2)) rfl r193 (by unfold maxLen; omega) (by omega) ?_
                  intro A195 c196 u194 hm197
                  have g198 := hm197.below
                  refine hK _ _ (fun _ => ⟨Gr.cell g198 l2, Gr.cell g198 k5, Gr.cell g198 k6⟩) ?_
                  clear hK K
                  try simp only [Act.put, List.getElem_toArray, List.getElem_cons_succ, List.getElem_cons_zero, List.setIfInBounds_toArray, List.set_cons_zero, List.set_cons_succ]
                  refine wpAnyU_one 10 (by kernel_rfl) rfl (fun K hK => ?_)
                  go_simp
                  refine hK _ _ (fun h => absurd h (by decide)) ?_
                  clear hK K
                  refine wpAnyU_done (by kernel_rfl) ?_ _
                  go_wp2
                  try simp only [Act.put, List.getElem_toArray, List.getElem_cons_succ, List.getElem_cons_zero, List.setIfInBounds_toArray, List.set_cons_succ, List.set_cons_zero]
                  go_meet
                  case rel => exact ⟨_, _, rfl, g198, ⟨by have h := hm197.rd m0; rw [fV_app]; exact h⟩⟩
            case rest =>
              obtain ⟨w8, rfl⟩ : ∃ w8 : World, w8 = wc := ⟨_, rfl⟩
              obtain ⟨A15, c15, rfl, hg9, hp15⟩ := hcut
              have hpa := Fact.mk (hpa.out.gr hg9)
              have hg0 := Fact.mk (Gr.trans hg0.out hg9)
              have a0 := Gr.cell hg9 a0
              have a1 := Gr.cell hg9 a1
              have a2 := Gr.cell hg9 a2
              have l0 := Gr.cell hg9 l0
              have l1 := Gr.cell hg9 l1
              clear hg9 hpl l2 k5 k6
              go_upto_region 17 with (fail)
              go_quiet (exact Calls.quiet_of (sameValuesQ _ _ _ (ln + 1) _ _ (lsl ++ [(v1, v2)]) ⟨hpa.out.gr ((Gr.refl _).drewN _)⟩ ⟨hp15.out.gr ((Gr.refl _).drewN _)⟩ (by omega)))
              have hfin := Fact.mk (Gr.trans hg0.out ((Gr.refl w8).drewN nq))
              go_wp2
              go_ret
              exact ⟨rfl, hfin.out⟩
theorem fl_E : fieldsOf Try.prog 83 = some [(3, 0), (26, 1), (41, 2)] := by kernel_rfl
theorem co_E : Try.prog.cellsOf 83 = 4 := by kernel_rfl
/-- What is entered, as it came in. -/
theorem open_entered {H : Type} {enc : TypeId × Value → H} {w : World} {v : Value} {d : DataW H} {p : List MemPlace} {base : Nat} (h : DataW.Trod enc Try.prog w 0 (fun _ => true) true 83 v d p) (ok : Value.okWide Try.prog w .any base 83 v) :
    ∃ (fn : Int) (B : Option Addr) (m k : Nat) (sl : List V2) (v1 v2 : Int), v = .agg #[.int .i64 fn, .slice B m k, .int .i64 v1, .int .i64 v2] ∧ RdC w 2 (.slice B m k) (fV sl) ∧ m ≤ Rows.uptoBulk d := by
  obtain ⟨fs, hfs⟩ := struct_of fl_E
  obtain ⟨cs, rfl, hcs⟩ := okWide_struct hfs ok
  obtain ⟨fuel, hfu⟩ := h
  obtain ⟨xs, n, rfl, hl, hx, hi⟩ := open_struct fl_E hfu
  rw [co_E] at hl
  obtain ⟨a, b, x3, x4, e⟩ := list4 hl
  rw [e] at hi
  obtain ⟨⟨d1, p1⟩, ⟨d2, p2⟩, ⟨d3, p3⟩, rfl⟩ := list3 hx
  have h1 := hi 0 _ _ rfl
  have h2 := hi 1 _ _ rfl
  have h3 := hi 2 _ _ rfl
  rw [co_int] at h1
  rw [co_Vs] at h2
  rw [co_V] at h3
  obtain ⟨fn, e1, _⟩ := open_i (v := a) ty_int h1
  obtain ⟨B, m, k, sl, e2, r4, l4, g4⟩ := open_cells (cV) (fun _ _ => True) 2 (by omega) ty_Vs co_V (fun x => ⟨cV_len x, cV_one x⟩) hel_V h2
  obtain ⟨⟨z1, z2⟩, e3, _⟩ := hel_V _ _ _ _ h3
  have e2 : b = .slice B m k := by simpa using e2
  have e3 : [x3, x4] = [.int .i64 z1, .int .i64 z2] := e3
  have b4 := cells_len g4
  have q := bulk_part (d := d2) (xs := [d1, d2, d3]) (by simp)
  refine ⟨fn, B, m, k, sl, z1, z2, ?_, r4, by simp at q ⊢; omega⟩
  have : cs.toList = [.int .i64 fn, .slice B m k, .int .i64 z1, .int .i64 z2] := by
    have h7 : cs.toList = [a, b, x3, x4] := by simpa [Value.cells] using e
    simp only [List.cons.injEq, and_true] at e3
    rw [h7, e1, e2, e3.1, e3.2]
  congr 1
  exact Array.toList_inj.1 (by simpa using this)
theorem framesRound_ok (H : Type) (enc : TypeId × Value → H) (W : World) (base : Nat)
    (v0 : Value) (d0 : DataW H) (p0 : List MemPlace) (h0 : DataW.Trod enc Try.prog W 0 (fun _ => true) true 25 v0 d0 p0) (ok0 : Value.okWide Try.prog W .any base 25 v0)
    (v1 : Value) (d1 : DataW H) (p1 : List MemPlace) (h1 : DataW.Trod enc Try.prog W 0 (fun _ => true) true 39 v1 d1 p1) (ok1 : Value.okWide Try.prog W .any base 39 v1)
    (v2 : Value) (d2 : DataW H) (p2 : List MemPlace) (h2 : DataW.Trod enc Try.prog W 0 (fun _ => true) true 83 v2 d2 p2) (ok2 : Value.okWide Try.prog W .any base 83 v2) (hk : Rows.uptoSmall H ([d0, d1, d2] ++ []) = true) :
    Calls Try.prog 10 #[v0, v1, v2] W fun e w' => e = .returned (.bool true) ∧ Gr W w' := by
  have hb := bulk_small hk
  simp only [Rows.uptoBulkAll, List.cons_append, List.nil_append] at hb
  obtain ⟨p, rfl, hp, _⟩ := open_prog h0 ok0 (by omega)
  obtain ⟨A, n, c, xs, rfl, hx, hl⟩ := open_frames h1 ok1
  obtain ⟨fn, B, m, k, sl, y1, y2, rfl, hf, hm⟩ := open_entered h2 ok2
  exact round_walk W p ⟨hp⟩ A n c xs 1048576 ⟨⟨hx.rd, fun f hf => ⟨(hx.each f hf).1, by have := (hx.each f hf).2; omega⟩⟩⟩ (by omega) (by omega) (by omega) fn B m k sl ⟨hf⟩ (by omega) y1 y2
end Go.Proofs.Ytgflfpepfpekhaa
