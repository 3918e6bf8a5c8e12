import Derived.Test.YtgflfpepfpekhaaFramesUnwind
import Derived.Test.YtgflfpepfpekhaaWhereLaw
import Derived.Test.YtgflfpepfpekhaaFrQ
namespace Go.Proofs.Ytgflfpepfpekhaa
open Go.RowKit Go.Mm Go.WideShapes
set_option maxHeartbeats 4000000
set_option maxRecDepth 100000
set_option linter.unusedSimpArgs false
theorem where_walk (w : World) (p : Pg) (hp : Fact (PgOk w p)) (N : Nat) (A : Option Addr) (n c : Nat) (xs : List Fr) (hx : Fact (FrsOk N w A n c xs)) (hn : n ≤ 1048576) (hN : N ≤ 1048576) (fn pc : Int) (B : Option Addr) (m d : Nat) (v1 v2 o1 o2 : Int) :
    Calls Try.prog 9 #[vP p, .slice A n c, .agg #[.int .i64 fn, .int .i64 pc, .slice B m d, .int .i64 v1, .int .i64 v2, .int .i64 o1, .int .i64 o2]] w fun e w' => e = .returned (.bool true) ∧ Gr w w' := by
  obtain ⟨iR, ri, rz0, rz1, rz2⟩ := info_parts inf_R
  have hcat := fun (x1 x2 : Int) (W : World) (hg : Gr w W) N A n c xs hx hn hN => (catch_ok W p ⟨hp.out.gr hg⟩ N A n c xs hx (x1, x2) hn hN).mono (fun _ _ h => catch_one h)
  obtain ⟨kA, kn, kc, consts, fA, fnn, fc, fns⟩ := p
  simp only [vP, cV] at hcat ⊢
  go_enter Try.func9, Try.ntmps9
  go_upto_region 1 with (fail)
  have hm := (((Mem.start w).alloc (.cells [.slice kA kn kc, .slice fA fnn fc].toArray 25)).alloc (.cells [.int .i64 fn, .int .i64 pc, .slice B m d, .int .i64 v1, .int .i64 v2, .int .i64 o1, .int .i64 o2].toArray 78))
  simp only [World.size_alloc] at hm
  generalize hgX : w.heap.size = g at hm ⊢
  generalize hwX : ((w.alloc (.cells [.slice kA kn kc, .slice fA fnn fc].toArray 25)).alloc (.cells [.int .i64 fn, .int .i64 pc, .slice B m d, .int .i64 v1, .int .i64 v2, .int .i64 o1, .int .i64 o2].toArray 78)) = w1 at hm
  try refine wp_world hwX ?_
  clear hwX hgX
  go_wp2_with fail
  refine (shown_ok w1).mono ?_
  rintro e w2 ⟨rfl, hg2⟩
  have hm2 := hm.gr hg2
  clear hm hg2
  have hg0 := Fact.mk hm2.below
  have k1 : w2.cell? ⟨g, 0, none⟩ = some (.slice kA kn kc) := hm2.cell m1 0 rfl
  have k2 : w2.cell? ⟨g, 1, none⟩ = some (.slice fA fnn fc) := hm2.cell m1 1 rfl
  have k3 : w2.cell? ⟨g + 1, 3, none⟩ = some (.int .i64 v1) := hm2.cell m0 3 rfl
  have k4 : w2.cell? ⟨g + 1, 4, none⟩ = some (.int .i64 v2) := hm2.cell m0 4 rfl
  have k5 : w2.cell? ⟨g + 1, 5, none⟩ = some (.int .i64 o1) := hm2.cell m0 5 rfl
  have k6 : w2.cell? ⟨g + 1, 6, none⟩ = some (.int .i64 o2) := hm2.cell m0 6 rfl
  clear hm2
  go_upto_region 3 with (fail)
  go_cut [7, 8] (fun s7 s8 W => ∃ (b : Bool) (A9 : Option Addr) (n9 c9 : Nat) (zs : List Fr), s7 = .slice A9 n9 c9 ∧ s8 = .bool b ∧ Gr w2 W ∧ Fact (b = (catchD ⟨kA, kn, kc, consts, fA, fnn, fc, fns⟩ (v1, v2) (xs.map Fr.data) n).isSome) ∧ FrsOk (N + 1) W A9 n9 c9 zs ∧ Fact (zs.map Fr.data = (catchD ⟨kA, kn, kc, consts, fA, fnn, fc, fns⟩ (v1, v2) (xs.map Fr.data) n).getD []))
  case first =>
    have hgS := (Gr.refl w2).drew
    have hmS := (Mem.start w2).drew
    refine wp_region_until (S := fun W => W.cell? ⟨g, 0, none⟩ = some (.slice kA kn kc) ∧ W.cell? ⟨g, 1, none⟩ = some (.slice fA fnn fc) ∧ W.cell? ⟨g + 1, 3, none⟩ = some (.int .i64 v1) ∧ W.cell? ⟨g + 1, 4, none⟩ = some (.int .i64 v2)) 10 (by kernel_rfl) ?_
    generalize w2.drew = wd at hgS hmS ⊢
    refine wpAnyU_take 0 (v := ?vv31) rfl (by kernel_rfl) (by kernel_rfl) (fun _ _ _ h => h) ⟨Gr.cell hgS k1, Gr.cell hgS k2, Gr.cell hgS k3, Gr.cell hgS k4⟩ (Or.inl ⟨rfl, ?yv31⟩) ?rv31
    case yv31 =>
      intro W hW
      obtain ⟨hW0, hW1, hW2, hW3⟩ := hW
      go_simp
      try with_reducible rfl
    try simp only [Act.put, List.getElem_toArray, List.getElem_cons_succ, List.getElem_cons_zero, List.setIfInBounds_toArray, List.set_cons_zero, List.set_cons_succ]
    refine wpAnyU_take 1 (v := ?vv32) rfl (by kernel_rfl) (by kernel_rfl) (fun _ _ _ h => h) ⟨Gr.cell hgS k1, Gr.cell hgS k2, Gr.cell hgS k3, Gr.cell hgS k4⟩ (Or.inl ⟨rfl, ?yv32⟩) ?rv32
    case yv32 =>
      intro W hW
      obtain ⟨hW0, hW1, hW2, hW3⟩ := hW
      go_simp
      try with_reducible rfl
    try simp only [Act.put, List.getElem_toArray, List.getElem_cons_succ, List.getElem_cons_zero, List.setIfInBounds_toArray, List.set_cons_zero, List.set_cons_succ]
    refine wpAnyU_take 3 (v := ?vv33) rfl (by kernel_rfl) (by kernel_rfl) (fun _ _ _ h => h) ⟨Gr.cell hgS k1, Gr.cell hgS k2, Gr.cell hgS k3, Gr.cell hgS k4⟩ (Or.inl ⟨rfl, ?yv33⟩) ?rv33
    case yv33 =>
      intro W hW
      obtain ⟨hW0, hW1, hW2, hW3⟩ := hW
      go_simp
      try with_reducible rfl
    try simp only [Act.put, List.getElem_toArray, List.getElem_cons_succ, List.getElem_cons_zero, List.setIfInBounds_toArray, List.set_cons_zero, List.set_cons_succ]
    refine wpAnyU_take 4 (v := ?vv34) rfl (by kernel_rfl) (by kernel_rfl) (fun _ _ _ h => h) ⟨Gr.cell hgS k1, Gr.cell hgS k2, Gr.cell hgS k3, Gr.cell hgS k4⟩ (Or.inl ⟨rfl, ?yv34⟩) ?rv34
    case yv34 =>
      intro W hW
      obtain ⟨hW0, hW1, hW2, hW3⟩ := hW
      go_simp
      try with_reducible rfl
    try simp only [Act.put, List.getElem_toArray, List.getElem_cons_succ, List.getElem_cons_zero, List.setIfInBounds_toArray, List.set_cons_zero, List.set_cons_succ]
    refine wpAnyU_one 2 (by kernel_rfl) rfl (fun K hK => ?_)
    refine step_callw rfl 26 Try.f26 Try.func26 (by kernel_rfl) (by kernel_rfl) _ _ rfl #[.slice A n c] (by simp [Act.eval]) ?_
    refine (copyFrames_ok wd N A n c xs ⟨hx.out.gr (Gr.trans hg0.out hgS)⟩ (by omega) (by omega)).mono ?_
    rintro e u1 ⟨A2, c3, ys4, rfl, hz5, hd6, hn7⟩
    have g8 := Gr.trans hgS hz5.below
    have hu10 := (Mem.start w2).gr hgS
    have hm9 := (hu10).join hz5
    refine ⟨_, rfl, hK _ _ (fun _ => ⟨Gr.cell g8 k1, Gr.cell g8 k2, Gr.cell g8 k3, Gr.cell g8 k4⟩) ?_⟩
    clear hK K
    try simp only [Act.put, List.getElem_toArray, List.getElem_cons_succ, List.getElem_cons_zero, List.setIfInBounds_toArray, List.set_cons_zero, List.set_cons_succ]
    refine wpAnyU_one 5 (by kernel_rfl) rfl (fun K hK => ?_)
    have hf22 : FrsOk N u1 A2 n c3 ys4 := frs_of (hm9.sub (by rw [List.append_nil]; exact List.Sublist.refl _)) hn7
    refine step_callw rfl 45 Try.f45 Try.func45 (by kernel_rfl) (by kernel_rfl) _ _ rfl #[.agg #[.slice kA kn kc, .slice fA fnn fc], .slice A2 n c3, .agg #[.int .i64 v1, .int .i64 v2]] (by simp [Act.eval]) ?_
    refine (hcat v1 v2 u1 (Gr.trans hg0.out g8) N A2 n c3 ys4 ⟨hf22⟩ (by omega) (by omega)).mono ?_
    rintro e u11 ⟨b12, A13, n14, c15, zs16, rfl, hb20, gz17, hf18, hd19⟩
    have g21 := Gr.trans g8 gz17
    refine ⟨_, rfl, hK _ _ (fun _ => ⟨Gr.cell g21 k1, Gr.cell g21 k2, Gr.cell g21 k3, Gr.cell g21 k4⟩) ?_⟩
    clear hK K
    try simp only [Act.put, List.getElem_toArray, List.getElem_cons_succ, List.getElem_cons_zero, List.setIfInBounds_toArray, List.set_cons_zero, List.set_cons_succ]
    refine wpAnyU_take 6 (v := ?vv35) rfl (by kernel_rfl) (by kernel_rfl) (fun _ _ _ h => h) ⟨Gr.cell g21 k1, Gr.cell g21 k2, Gr.cell g21 k3, Gr.cell g21 k4⟩ (Or.inl ⟨rfl, ?yv35⟩) ?rv35
    case yv35 =>
      intro W hW
      obtain ⟨hW0, hW1, hW2, hW3⟩ := hW
      go_simp
      try with_reducible rfl
    try simp only [Act.put, List.getElem_toArray, List.getElem_cons_succ, List.getElem_cons_zero, List.setIfInBounds_toArray, List.set_cons_zero, List.set_cons_succ]
    refine wpAnyU_take 7 (v := ?vv36) rfl (by kernel_rfl) (by kernel_rfl) (fun _ _ _ h => h) ⟨Gr.cell g21 k1, Gr.cell g21 k2, Gr.cell g21 k3, Gr.cell g21 k4⟩ (Or.inl ⟨rfl, ?yv36⟩) ?rv36
    case yv36 =>
      intro W hW
      obtain ⟨hW0, hW1, hW2, hW3⟩ := hW
      go_simp
      try with_reducible rfl
    try simp only [Act.put, List.getElem_toArray, List.getElem_cons_succ, List.getElem_cons_zero, List.setIfInBounds_toArray, List.set_cons_zero, List.set_cons_succ]
    refine wpAnyU_take 8 (v := ?vv37) rfl (by kernel_rfl) (by kernel_rfl) (fun _ _ _ h => h) ⟨Gr.cell g21 k1, Gr.cell g21 k2, Gr.cell g21 k3, Gr.cell g21 k4⟩ (Or.inl ⟨rfl, ?yv37⟩) ?rv37
    case yv37 =>
      intro W hW
      obtain ⟨hW0, hW1, hW2, hW3⟩ := hW
      go_simp
      try with_reducible rfl
    try simp only [Act.put, List.getElem_toArray, List.getElem_cons_succ, List.getElem_cons_zero, List.setIfInBounds_toArray, List.set_cons_zero, List.set_cons_succ]
    refine wpAnyU_take 9 (v := ?vv38) rfl (by kernel_rfl) (by kernel_rfl) (fun _ _ _ h => h) ⟨Gr.cell g21 k1, Gr.cell g21 k2, Gr.cell g21 k3, Gr.cell g21 k4⟩ (Or.inl ⟨rfl, ?yv38⟩) ?rv38
    case yv38 =>
      intro W hW
      obtain ⟨hW0, hW1, hW2, hW3⟩ := hW
      go_simp
      try with_reducible rfl
    try simp only [Act.put, List.getElem_toArray, List.getElem_cons_succ, List.getElem_cons_zero, List.setIfInBounds_toArray, List.set_cons_zero, List.set_cons_succ]
    refine wpAnyU_one 10 (by kernel_rfl) rfl (fun K hK => ?_)
    go_simp
    refine hK _ _ (fun h => absurd h (by decide)) ?_
    clear hK K
    refine wpAnyU_done (by kernel_rfl) ?_ _
    go_wp2
    try simp only [Act.put, List.getElem_toArray, List.getElem_cons_succ, List.getElem_cons_zero, List.setIfInBounds_toArray, List.set_cons_succ, List.set_cons_zero]
    go_meet
    case rel => exact ⟨_, _, _, _, _, rfl, rfl, g21, ⟨hb20.out.trans (by rw [hd6])⟩, hf18, ⟨hd19.out.trans (by rw [hd6])⟩⟩
  case rest =>
    obtain ⟨w3, rfl⟩ : ∃ w3 : World, w3 = wc := ⟨_, rfl⟩
    obtain ⟨b1, B1, n1, e1, z1, rfl, rfl, hg9, hb1, hf1, hd1⟩ := hcut
    have hf1 := Fact.mk hf1
    have hg0 := Fact.mk (Gr.trans hg0.out hg9)
    have k1 := Gr.cell hg9 k1
    have k2 := Gr.cell hg9 k2
    have k3 := Gr.cell hg9 k3
    have k4 := Gr.cell hg9 k4
    have k5 := Gr.cell hg9 k5
    have k6 := Gr.cell hg9 k6
    clear hg9
    go_upto_region 4 with (fail)
    go_cut [9, 10] (fun s9 s10 W => ∃ (b : Bool) (A9 : Option Addr) (n9 c9 : Nat) (zs : List Fr), s9 = .slice A9 n9 c9 ∧ s10 = .bool b ∧ Gr w3 W ∧ Fact (b = (catchD ⟨kA, kn, kc, consts, fA, fnn, fc, fns⟩ (o1, o2) (xs.map Fr.data) n).isSome) ∧ FrsOk (N + 1) W A9 n9 c9 zs ∧ Fact (zs.map Fr.data = (catchD ⟨kA, kn, kc, consts, fA, fnn, fc, fns⟩ (o1, o2) (xs.map Fr.data) n).getD []))
    case first =>
      have hgS := (Gr.refl w3).drew
      have hmS := (Mem.start w3).drew
      refine wp_region_until (S := fun W => W.cell? ⟨g, 0, none⟩ = some (.slice kA kn kc) ∧ W.cell? ⟨g, 1, none⟩ = some (.slice fA fnn fc) ∧ W.cell? ⟨g + 1, 5, none⟩ = some (.int .i64 o1) ∧ W.cell? ⟨g + 1, 6, none⟩ = some (.int .i64 o2)) 10 (by kernel_rfl) ?_
      generalize w3.drew = wd at hgS hmS ⊢
      refine wpAnyU_take 0 (v := ?vv41) rfl (by kernel_rfl) (by kernel_rfl) (fun _ _ _ h => h) ⟨Gr.cell hgS k1, Gr.cell hgS k2, Gr.cell hgS k5, Gr.cell hgS k6⟩ (Or.inl ⟨rfl, ?yv41⟩) ?rv41
      case yv41 =>
        intro W hW
        obtain ⟨hW0, hW1, hW2, hW3⟩ := hW
        go_simp
        try with_reducible rfl
      try simp only [Act.put, List.getElem_toArray, List.getElem_cons_succ, List.getElem_cons_zero, List.setIfInBounds_toArray, List.set_cons_zero, List.set_cons_succ]
      refine wpAnyU_take 1 (v := ?vv42) rfl (by kernel_rfl) (by kernel_rfl) (fun _ _ _ h => h) ⟨Gr.cell hgS k1, Gr.cell hgS k2, Gr.cell hgS k5, Gr.cell hgS k6⟩ (Or.inl ⟨rfl, ?yv42⟩) ?rv42
      case yv42 =>
        intro W hW
        obtain ⟨hW0, hW1, hW2, hW3⟩ := hW
        go_simp
        try with_reducible rfl
      try simp only [Act.put, List.getElem_toArray, List.getElem_cons_succ, List.getElem_cons_zero, List.setIfInBounds_toArray, List.set_cons_zero, List.set_cons_succ]
      refine wpAnyU_take 3 (v := ?vv43) rfl (by kernel_rfl) (by kernel_rfl) (fun _ _ _ h => h) ⟨Gr.cell hgS k1, Gr.cell hgS k2, Gr.cell hgS k5, Gr.cell hgS k6⟩ (Or.inl ⟨rfl, ?yv43⟩) ?rv43
      case yv43 =>
        intro W hW
        obtain ⟨hW0, hW1, hW2, hW3⟩ := hW
        go_simp
        try with_reducible rfl
      try simp only [Act.put, List.getElem_toArray, List.getElem_cons_succ, List.getElem_cons_zero, List.setIfInBounds_toArray, List.set_cons_zero, List.set_cons_succ]
      refine wpAnyU_take 4 (v := ?vv44) rfl (by kernel_rfl) (by kernel_rfl) (fun _ _ _ h => h) ⟨Gr.cell hgS k1, Gr.cell hgS k2, Gr.cell hgS k5, Gr.cell hgS k6⟩ (Or.inl ⟨rfl, ?yv44⟩) ?rv44
      case yv44 =>
        intro W hW
        obtain ⟨hW0, hW1, hW2, hW3⟩ := hW
        go_simp
        try with_reducible rfl
      try simp only [Act.put, List.getElem_toArray, List.getElem_cons_succ, List.getElem_cons_zero, List.setIfInBounds_toArray, List.set_cons_zero, List.set_cons_succ]
      refine wpAnyU_one 2 (by kernel_rfl) rfl (fun K hK => ?_)
      refine step_callw rfl 26 Try.f26 Try.func26 (by kernel_rfl) (by kernel_rfl) _ _ rfl #[.slice A n c] (by simp [Act.eval]) ?_
      refine (copyFrames_ok wd N A n c xs ⟨hx.out.gr (Gr.trans hg0.out hgS)⟩ (by omega) (by omega)).mono ?_
      rintro e u23 ⟨A24, c25, ys26, rfl, hz27, hd28, hn29⟩
      have g30 := Gr.trans hgS hz27.below
      have hu32 := (Mem.start w3).gr hgS
      have hm31 := (hu32).join hz27
      refine ⟨_, rfl, hK _ _ (fun _ => ⟨Gr.cell g30 k1, Gr.cell g30 k2, Gr.cell g30 k5, Gr.cell g30 k6⟩) ?_⟩
      clear hK K
      try simp only [Act.put, List.getElem_toArray, List.getElem_cons_succ, List.getElem_cons_zero, List.setIfInBounds_toArray, List.set_cons_zero, List.set_cons_succ]
      refine wpAnyU_one 5 (by kernel_rfl) rfl (fun K hK => ?_)
      have hf44 : FrsOk N u23 A24 n c25 ys26 := frs_of (hm31.sub (by rw [List.append_nil]; exact List.Sublist.refl _)) hn29
      refine step_callw rfl 45 Try.f45 Try.func45 (by kernel_rfl) (by kernel_rfl) _ _ rfl #[.agg #[.slice kA kn kc, .slice fA fnn fc], .slice A24 n c25, .agg #[.int .i64 o1, .int .i64 o2]] (by simp [Act.eval]) ?_
      refine (hcat o1 o2 u23 (Gr.trans hg0.out g30) N A24 n c25 ys26 ⟨hf44⟩ (by omega) (by omega)).mono ?_
      rintro e u33 ⟨b34, A35, n36, c37, zs38, rfl, hb42, gz39, hf40, hd41⟩
      have g43 := Gr.trans g30 gz39
      refine ⟨_, rfl, hK _ _ (fun _ => ⟨Gr.cell g43 k1, Gr.cell g43 k2, Gr.cell g43 k5, Gr.cell g43 k6⟩) ?_⟩
      clear hK K
      try simp only [Act.put, List.getElem_toArray, List.getElem_cons_succ, List.getElem_cons_zero, List.setIfInBounds_toArray, List.set_cons_zero, List.set_cons_succ]
      refine wpAnyU_take 6 (v := ?vv45) rfl (by kernel_rfl) (by kernel_rfl) (fun _ _ _ h => h) ⟨Gr.cell g43 k1, Gr.cell g43 k2, Gr.cell g43 k5, Gr.cell g43 k6⟩ (Or.inl ⟨rfl, ?yv45⟩) ?rv45
      case yv45 =>
        intro W hW
        obtain ⟨hW0, hW1, hW2, hW3⟩ := hW
        go_simp
        try with_reducible rfl
      try simp only [Act.put, List.getElem_toArray, List.getElem_cons_succ, List.getElem_cons_zero, List.setIfInBounds_toArray, List.set_cons_zero, List.set_cons_succ]
      refine wpAnyU_take 7 (v := ?vv46) rfl (by kernel_rfl) (by kernel_rfl) (fun _ _ _ h => h) ⟨Gr.cell g43 k1, Gr.cell g43 k2, Gr.cell g43 k5, Gr.cell g43 k6⟩ (Or.inl ⟨rfl, ?yv46⟩) ?rv46
      case yv46 =>
        intro W hW
        obtain ⟨hW0, hW1, hW2, hW3⟩ := hW
        go_simp
        try with_reducible rfl
      try simp only [Act.put, List.getElem_toArray, List.getElem_cons_succ, List.getElem_cons_zero, List.setIfInBounds_toArray, List.set_cons_zero, List.set_cons_succ]
      refine wpAnyU_take 8 (v := ?vv47) rfl (by kernel_rfl) (by kernel_rfl) (fun _ _ _ h => h) ⟨Gr.cell g43 k1, Gr.cell g43 k2, Gr.cell g43 k5, Gr.cell g43 k6⟩ (Or.inl ⟨rfl, ?yv47⟩) ?rv47
      case yv47 =>
        intro W hW
        obtain ⟨hW0, hW1, hW2, hW3⟩ := hW
        go_simp
        try with_reducible rfl
      try simp only [Act.put, List.getElem_toArray, List.getElem_cons_succ, List.getElem_cons_zero, List.setIfInBounds_toArray, List.set_cons_zero, List.set_cons_succ]
      refine wpAnyU_take 9 (v := ?vv48) rfl (by kernel_rfl) (by kernel_rfl) (fun _ _ _ h => h) ⟨Gr.cell g43 k1, Gr.cell g43 k2, Gr.cell g43 k5, Gr.cell g43 k6⟩ (Or.inl ⟨rfl, ?yv48⟩) ?rv48
      case yv48 =>
        intro W hW
        obtain ⟨hW0, hW1, hW2, hW3⟩ := hW
        go_simp
        try with_reducible rfl
      try simp only [Act.put, List.getElem_toArray, List.getElem_cons_succ, List.getElem_cons_zero, List.setIfInBounds_toArray, List.set_cons_zero, List.set_cons_succ]
      refine wpAnyU_one 10 (by kernel_rfl) rfl (fun K hK => ?_)
      go_simp
      refine hK _ _ (fun h => absurd h (by decide)) ?_
      clear hK K
      refine wpAnyU_done (by kernel_rfl) ?_ _
      go_wp2
      try simp only [Act.put, List.getElem_toArray, List.getElem_cons_succ, List.getElem_cons_zero, List.setIfInBounds_toArray, List.set_cons_succ, List.set_cons_zero]
      go_meet
      case rel => exact ⟨_, _, _, _, _, rfl, rfl, g43, ⟨hb42.out.trans (by rw [hd28])⟩, hf40, ⟨hd41.out.trans (by rw [hd28])⟩⟩
    case rest =>
      obtain ⟨w4, rfl⟩ : ∃ w4 : World, w4 = wc := ⟨_, rfl⟩
      obtain ⟨b2, B2, n2, e2, z2, rfl, rfl, hg9, hb2, hf2, hd2⟩ := hcut
      have hf2 := Fact.mk hf2
      have hf1 := Fact.mk (hf1.out.gr hg9)
      have hg0 := Fact.mk (Gr.trans hg0.out hg9)
      have k3 := Gr.cell hg9 k3
      have k4 := Gr.cell hg9 k4
      have k5 := Gr.cell hg9 k5
      have k6 := Gr.cell hg9 k6
      clear hg9 hcat k1 k2
      have hl := Fact.mk hx.out.len
      rcases where_law ⟨kA, kn, kc, consts, fA, fnn, fc, fns⟩ (xs.map Fr.data) n with hlaw | ⟨k, t, st, hk, hst, hlaw⟩
      · rw [hlaw] at hb1 hb2 hd1 hd2
        obtain rfl : b1 = false := hb1.out
        obtain rfl : b2 = false := hb2.out
        obtain rfl : n1 = 0 := by have h1 := hf1.out.len; have h2 := hd1.out; simp at h2; subst h2; exact h1.symm
        obtain rfl : n2 = 0 := by have h1 := hf2.out.len; have h2 := hd2.out; simp at h2; subst h2; exact h1.symm
        clear hb1 hb2 hd1 hd2 hlaw hf1 hf2
        have hfin := Fact.mk hg0.out
        have hq : ((0 : Int) > (n : Int)) = False := by simp
        go_wp2
        go_ret
        exact ⟨rfl, hfin.out⟩
      · rw [hlaw] at hb1 hb2 hd1 hd2
        obtain rfl : b1 = true := hb1.out
        obtain rfl : b2 = true := hb2.out
        simp only [Option.getD_some] at hd1 hd2
        have hxl : xs.length = n := hl.out
        obtain rfl : n1 = k + 1 := by have h1 := hf1.out.len; have h2 := congrArg List.length hd1.out; simp at h2; omega
        obtain rfl : n2 = k + 1 := by have h1 := hf2.out.len; have h2 := congrArg List.length hd2.out; simp at h2; omega
        clear hb1 hb2 hlaw
        have hq1 : ((k : Int) + 1 > (n : Int)) = False := eq_false (by omega)
        have hq2 : ((k : Int) + 1 > 0) = True := eq_true (by omega)
        have hq3 : ((k : Int) + 1 = 0) = False := eq_false (by omega)
        have hq4 : ((k : Int) + 1 - 1) = (k : Int) := by omega
        have he1 : k + 1 ≤ e1 := by obtain ⟨_, _, _, e, _, h, _⟩ := hf1.out.rd; cases e; exact h
        have he2 : k + 1 ≤ e2 := by obtain ⟨_, _, _, e, _, h, _⟩ := hf2.out.rd; cases e; exact h
        have hec : n ≤ c := by obtain ⟨_, _, _, e, _, h, _⟩ := hx.out.rd; cases e; exact h
        have hc1 : k ≤ e1 := by omega
        have hc2 : k ≤ e2 := by omega
        have hc3 : k ≤ c := by omega
        have hxp : Fact (FrsOk (N + 1) w4 A k c (xs.take k)) := ⟨by
          have h := (hx.out.gr hg0.out).pre k (by omega)
          exact ⟨h.rd, fun f hf => ⟨(h.each f hf).1, Nat.le_succ_of_le (h.each f hf).2⟩⟩⟩
        have hkl : ((xs.map Fr.data).take k).length = k := by simp; omega
        have hf1d : Fact ((z1.take k).map Fr.data = (xs.take k).map Fr.data) := ⟨by rw [List.map_take, hd1.out, List.map_take, List.take_append_of_le_length (by omega), List.take_of_length_le (by omega)]⟩
        have hf2d : Fact ((z2.take k).map Fr.data = (xs.take k).map Fr.data) := ⟨by rw [List.map_take, hd2.out, List.map_take, List.take_append_of_le_length (by omega), List.take_of_length_le (by omega)]⟩
        go_upto_region 10 with (fail)
        go_cut [89] (fun s89 W => s89 = .bool false ∧ Gr w4 W)
        case first =>
          have hgS := (Gr.refl w4).drew
          have hmS := (Mem.start w4).drew
          refine wp_region_until (S := fun W => True) 17 (by kernel_rfl) ?_
          generalize w4.drew = wd at hgS hmS ⊢
          refine wpAnyU_take 0 (v := ?vv101) rfl (by kernel_rfl) (by kernel_rfl) (fun _ _ _ h => h) trivial (Or.inl ⟨rfl, ?yv101⟩) ?rv101
          case yv101 =>
            intro W hW
            go_simp
            try with_reducible rfl
          try simp only [Act.put, List.getElem_toArray, List.getElem_cons_succ, List.getElem_cons_zero, List.setIfInBounds_toArray, List.set_cons_zero, List.set_cons_succ]
          refine wpAnyU_take 1 (v := ?vv102) rfl (by kernel_rfl) (by kernel_rfl) (fun _ _ _ h => h) trivial (Or.inl ⟨rfl, ?yv102⟩) ?rv102
          case yv102 =>
            intro W hW
            go_simp
            try with_reducible rfl
          try simp only [Act.put, List.getElem_toArray, List.getElem_cons_succ, List.getElem_cons_zero, List.setIfInBounds_toArray, List.set_cons_zero, List.set_cons_succ]
          refine wpAnyU_take 2 (v := ?vv103) rfl (by kernel_rfl) (by kernel_rfl) (fun _ _ _ h => h) trivial (Or.inl ⟨rfl, ?yv103⟩) ?rv103
          case yv103 =>
            intro W hW
            go_simp
            try with_reducible rfl
          try simp only [Act.put, List.getElem_toArray, List.getElem_cons_succ, List.getElem_cons_zero, List.setIfInBounds_toArray, List.set_cons_zero, List.set_cons_succ]
          refine wpAnyU_take 3 (v := ?vv104) rfl (by kernel_rfl) (by kernel_rfl) (fun _ _ _ h => h) trivial (Or.inl ⟨rfl, ?yv104⟩) ?rv104
          case yv104 =>
            intro W hW
            go_simp
            try with_reducible rfl
          try simp only [Act.put, List.getElem_toArray, List.getElem_cons_succ, List.getElem_cons_zero, List.setIfInBounds_toArray, List.set_cons_zero, List.set_cons_succ]
          refine wpAnyU_take 4 (v := ?vv105) rfl (by kernel_rfl) (by kernel_rfl) (fun _ _ _ h => h) trivial (Or.inl ⟨rfl, ?yv105⟩) ?rv105
          case yv105 =>
            intro W hW
            go_simp
            try with_reducible rfl
          try simp only [Act.put, List.getElem_toArray, List.getElem_cons_succ, List.getElem_cons_zero, List.setIfInBounds_toArray, List.set_cons_zero, List.set_cons_succ]
          refine wpAnyU_take 5 (v := ?vv106) rfl (by kernel_rfl) (by kernel_rfl) (fun _ _ _ h => h) trivial (Or.inl ⟨rfl, ?yv106⟩) ?rv106
          case yv106 =>
            intro W hW
            go_simp
            try with_reducible rfl
          try simp only [Act.put, List.getElem_toArray, List.getElem_cons_succ, List.getElem_cons_zero, List.setIfInBounds_toArray, List.set_cons_zero, List.set_cons_succ]
          refine wpAnyU_one 6 (by kernel_rfl) rfl (fun K hK => ?_)
          refine step_callw rfl 24 Try.f24 Try.func24 (by kernel_rfl) (by kernel_rfl) _ _ rfl #[.slice B1 k e1, .slice A k c] (by simp [Act.eval]) ?_
          refine (sameFrames_ok wd B1 A (N + 1) k e1 c (z1.take k) (xs.take k) ⟨(hf1.out.pre k (by omega)).gr hgS⟩ ⟨hxp.out.gr hgS⟩ hf1d (by omega) (by omega)).mono ?_
          rintro e u45 ⟨rfl, gz46⟩
          have g47 := Gr.trans hgS gz46
          refine ⟨_, rfl, hK _ _ (fun _ => trivial) ?_⟩
          clear hK K
          try simp only [Act.put, List.getElem_toArray, List.getElem_cons_succ, List.getElem_cons_zero, List.setIfInBounds_toArray, List.set_cons_zero, List.set_cons_succ]
          refine wpAnyU_take 7 (v := ?vv107) rfl (by kernel_rfl) (by kernel_rfl) (fun _ _ _ h => h) trivial (Or.inl ⟨rfl, ?yv107⟩) ?rv107
          case yv107 =>
            intro W hW
            go_simp
            try with_reducible rfl
          try simp only [Act.put, List.getElem_toArray, List.getElem_cons_succ, List.getElem_cons_zero, List.setIfInBounds_toArray, List.set_cons_zero, List.set_cons_succ]
          refine wpAnyU_take 8 (v := ?vv108) rfl (by kernel_rfl) (by kernel_rfl) (fun _ _ _ h => h) trivial (Or.inl ⟨rfl, ?yv108⟩) ?rv108
          case yv108 =>
            intro W hW
            go_simp
            try with_reducible rfl
          try simp only [Act.put, List.getElem_toArray, List.getElem_cons_succ, List.getElem_cons_zero, List.setIfInBounds_toArray, List.set_cons_zero, List.set_cons_succ]
          refine wpAnyU_take 9 (v := ?vv109) rfl (by kernel_rfl) (by kernel_rfl) (fun _ _ _ h => h) trivial (Or.inl ⟨rfl, ?yv109⟩) ?rv109
          case yv109 =>
            intro W hW
            go_simp
            try with_reducible rfl
          try simp only [Act.put, List.getElem_toArray, List.getElem_cons_succ, List.getElem_cons_zero, List.setIfInBounds_toArray, List.set_cons_zero, List.set_cons_succ]
          refine wpAnyU_take 10 (v := ?vv1010) rfl (by kernel_rfl) (by kernel_rfl) (fun _ _ _ h => h) trivial (Or.inl ⟨rfl, ?yv1010⟩) ?rv1010
          case yv1010 =>
            intro W hW
            go_simp
            try with_reducible rfl
          try simp only [Act.put, List.getElem_toArray, List.getElem_cons_succ, List.getElem_cons_zero, List.setIfInBounds_toArray, List.set_cons_zero, List.set_cons_succ]
          refine wpAnyU_take 11 (v := ?vv1011) rfl (by kernel_rfl) (by kernel_rfl) (fun _ _ _ h => h) trivial (Or.inl ⟨rfl, ?yv1011⟩) ?rv1011
          case yv1011 =>
            intro W hW
            go_simp
            try with_reducible rfl
          try simp only [Act.put, List.getElem_toArray, List.getElem_cons_succ, List.getElem_cons_zero, List.setIfInBounds_toArray, List.set_cons_zero, List.set_cons_succ]
          refine wpAnyU_take 12 (v := ?vv1012) rfl (by kernel_rfl) (by kernel_rfl) (fun _ _ _ h => h) trivial (Or.inl ⟨rfl, ?yv1012⟩) ?rv1012
          case yv1012 =>
            intro W hW
            go_simp
            try with_reducible rfl
          try simp only [Act.put, List.getElem_toArray, List.getElem_cons_succ, List.getElem_cons_zero, List.setIfInBounds_toArray, List.set_cons_zero, List.set_cons_succ]
          refine wpAnyU_take 13 (v := ?vv1013) rfl (by kernel_rfl) (by kernel_rfl) (fun _ _ _ h => h) trivial (Or.inl ⟨rfl, ?yv1013⟩) ?rv1013
          case yv1013 =>
            intro W hW
            go_simp
            try with_reducible rfl
          try simp only [Act.put, List.getElem_toArray, List.getElem_cons_succ, List.getElem_cons_zero, List.setIfInBounds_toArray, List.set_cons_zero, List.set_cons_succ]
          refine wpAnyU_take 14 (v := ?vv1014) rfl (by kernel_rfl) (by kernel_rfl) (fun _ _ _ h => h) trivial (Or.inl ⟨rfl, ?yv1014⟩) ?rv1014
          case yv1014 =>
            intro W hW
            go_simp
            try with_reducible rfl
          try simp only [Act.put, List.getElem_toArray, List.getElem_cons_succ, List.getElem_cons_zero, List.setIfInBounds_toArray, List.set_cons_zero, List.set_cons_succ]
          refine wpAnyU_one 15 (by kernel_rfl) rfl (fun K hK => ?_)
          refine step_callw rfl 24 Try.f24 Try.func24 (by kernel_rfl) (by kernel_rfl) _ _ rfl #[.slice B2 k e2, .slice A k c] (by simp [Act.eval]) ?_
          refine (sameFrames_ok u45 B2 A (N + 1) k e2 c (z2.take k) (xs.take k) ⟨(hf2.out.pre k (by omega)).gr g47⟩ ⟨hxp.out.gr g47⟩ hf2d (by omega) (by omega)).mono ?_
          rintro e u48 ⟨rfl, gz49⟩
          have g50 := Gr.trans g47 gz49
          refine ⟨_, rfl, hK _ _ (fun _ => trivial) ?_⟩
          clear hK K
          try simp only [Act.put, List.getElem_toArray, List.getElem_cons_succ, List.getElem_cons_zero, List.setIfInBounds_toArray, List.set_cons_zero, List.set_cons_succ]
          refine wpAnyU_take 16 (v := ?vv1015) rfl (by kernel_rfl) (by kernel_rfl) (fun _ _ _ h => h) trivial (Or.inl ⟨rfl, ?yv1015⟩) ?rv1015
          case yv1015 =>
            intro W hW
            go_simp
            try with_reducible rfl
          try simp only [Act.put, List.getElem_toArray, List.getElem_cons_succ, List.getElem_cons_zero, List.setIfInBounds_toArray, List.set_cons_zero, List.set_cons_succ]
          refine wpAnyU_one 17 (by kernel_rfl) rfl (fun K hK => ?_)
          go_simp
          refine hK _ _ (fun h => absurd h (by decide)) ?_
          clear hK K
          refine wpAnyU_done (by kernel_rfl) ?_ _
          go_wp2
          try simp only [Act.put, List.getElem_toArray, List.getElem_cons_succ, List.getElem_cons_zero, List.setIfInBounds_toArray, List.set_cons_succ, List.set_cons_zero]
          go_meet
          case rel => exact ⟨rfl, g50⟩
        case rest =>
          obtain ⟨w5, rfl⟩ : ∃ w5 : World, w5 = wc := ⟨_, rfl⟩
          obtain ⟨rfl, hg9⟩ := hcut
          have hf1 := Fact.mk (hf1.out.gr hg9)
          have hf2 := Fact.mk (hf2.out.gr hg9)
          have hg0 := Fact.mk (Gr.trans hg0.out hg9)
          have hx5 := Fact.mk (hx.out.gr hg0.out)
          have k3 := Gr.cell hg9 k3
          have k4 := Gr.cell hg9 k4
          have k5 := Gr.cell hg9 k5
          have k6 := Gr.cell hg9 k6
          clear hg9 hxp hf1d hf2d
          obtain ⟨ab, ao, rfl, ar, ak, _⟩ := hf1.out.at k (by omega)
          obtain ⟨bb, bo, rfl, br, bk, _⟩ := hf2.out.at k (by omega)
          obtain ⟨lb, lo, rfl, lr, lk, _⟩ := hx5.out.at k (by omega)
          have da : (z1.getD k fr0).data = ((((xs.map Fr.data).getD k d0).1, t, ((xs.map Fr.data).getD k d0).2.2.take st ++ [(v1, v2)]) : FrD) := by
            rw [← data_getD, hd1.out]; simp [List.getD_eq_getElem?_getD, hkl]
          have db : (z2.getD k fr0).data = ((((xs.map Fr.data).getD k d0).1, t, ((xs.map Fr.data).getD k d0).2.2.take st ++ [(o1, o2)]) : FrD) := by
            rw [← data_getD, hd2.out]; simp [List.getD_eq_getElem?_getD, hkl]
          rw [data_getD] at da db hst
          generalize z1.getD k fr0 = xa at ar ak da
          generalize z2.getD k fr0 = xb at br bk db
          generalize xs.getD k fr0 = xl at lr lk da db hst
          obtain ⟨afn, apc, aA, an, ac, asl⟩ := xa
          obtain ⟨bfn, bpc, bA, bn, bc, bsl⟩ := xb
          obtain ⟨lfn, lpc, lA, ln, lc, lsl⟩ := xl
          simp only [Fr.data, Prod.mk.injEq] at da db hst
          obtain ⟨rfl, rfl, da⟩ := da
          obtain ⟨rfl, rfl, db⟩ := db
          have hll : lsl.length = ln := lk.len
          obtain rfl : an = st + 1 := by have h := ak.len; simp only at h; rw [← h, da, List.length_append, List.length_take, List.length_singleton]; omega
          obtain rfl : bn = st + 1 := by have h := bk.len; simp only at h; rw [← h, db, List.length_append, List.length_take, List.length_singleton]; omega
          have a2 : w5.cell? ⟨ab, ao + k * 3 + 2, none⟩ = some (.slice aA (st + 1) ac) := ar 2 _ rfl
          have b2 : w5.cell? ⟨bb, bo + k * 3 + 2, none⟩ = some (.slice bA (st + 1) bc) := br 2 _ rfl
          have l2 : w5.cell? ⟨lb, lo + k * 3 + 2, none⟩ = some (.slice lA ln lc) := lr 2 _ rfl
          have hkn : k < n := hk
          have hstl : st ≤ ln := by omega
          have hsb : st ≤ 1048576 := by have := lk.2; simp only at this; omega
          have hs1 : ((st : Int) + 1 - 1) = (st : Int) := Int.add_sub_cancel _ _
          have hs2 : ((st : Int) < 0) = False := eq_false (Int.not_lt.2 (Int.natCast_nonneg st))
          have hs3 : ((ln : Int) < (st : Int)) = False := eq_false (Int.not_lt.2 (Int.ofNat_le.2 hstl))
          go_upto_region 15 with (fail)
          have a0 : w5.cell? ⟨ab, ao + k * 3, none⟩ = some (.int .i64 _) := ar 0 _ rfl
          have a1 : w5.cell? ⟨ab, ao + k * 3 + 1, none⟩ = some (.int .i64 _) := ar 1 _ rfl
          have b0 : w5.cell? ⟨bb, bo + k * 3, none⟩ = some (.int .i64 _) := br 0 _ rfl
          have b1 : w5.cell? ⟨bb, bo + k * 3 + 1, none⟩ = some (.int .i64 _) := br 1 _ rfl
          have l0 : w5.cell? ⟨lb, lo + k * 3, none⟩ = some (.int .i64 _) := lr 0 _ rfl
          have htl : (lsl.take st).length = st := by rw [List.length_take]; omega
          have ea : asl.getD st (0, 0) = (v1, v2) := by rw [da]; simp [List.getD_eq_getElem?_getD, htl]
          have eb : bsl.getD st (0, 0) = (o1, o2) := by rw [db]; simp [List.getD_eq_getElem?_getD, htl]
          have hpa : Fact (RdC w5 2 (.slice aA st ac) (fV (lsl.take st))) := ⟨by have h := ak.1.pre st (Nat.le_succ st); rwa [← fV_take, da, List.take_append_of_le_length (Nat.le_of_eq htl.symm), List.take_of_length_le (Nat.le_of_eq htl)] at h⟩
          have hpb : Fact (RdC w5 2 (.slice bA st bc) (fV (lsl.take st))) := ⟨by have h := bk.1.pre st (Nat.le_succ st); rwa [← fV_take, db, List.take_append_of_le_length (Nat.le_of_eq htl.symm), List.take_of_length_le (Nat.le_of_eq htl)] at h⟩
          have hpl : Fact (RdC w5 2 (.slice lA st lc) (fV (lsl.take st))) := ⟨by have h := lk.1.pre st hstl; rwa [← fV_take] at h⟩
          have hca : st ≤ ac := by obtain ⟨_, _, _, e, _, h, _⟩ := hpa.out; cases e; exact h
          have hcb : st ≤ bc := by obtain ⟨_, _, _, e, _, h, _⟩ := hpb.out; cases e; exact h
          have hcl : st ≤ lc := by obtain ⟨_, _, _, e, _, h, _⟩ := hpl.out; cases e; exact h
          obtain ⟨va, vo, rfl, va1, va2, _, _⟩ := rdV_at ak.1 st (Nat.lt_succ_self st)
          obtain ⟨ua, uo, rfl, ub1, ub2, _, _⟩ := rdV_at bk.1 st (Nat.lt_succ_self st)
          simp only at ea eb va1 va2 ub1 ub2
          rw [ea] at va1 va2
          rw [eb] at ub1 ub2
          clear ea eb da db ak bk ar br lr lk
          go_quiet (fail)
          have hg9 : Gr w5 (w5.drewN nq) := (Gr.refl _).drewN _
          have hg0 := Fact.mk (Gr.trans hg0.out hg9)
          have hpa := Fact.mk (hpa.out.gr hg9)
          have hpb := Fact.mk (hpb.out.gr hg9)
          have hpl := Fact.mk (hpl.out.gr hg9)
          have a2 := Gr.cell hg9 a2
          have b2 := Gr.cell hg9 b2
          have l2 := Gr.cell hg9 l2
          clear hg9 va1 va2 ub1 ub2 a0 a1 b0 b1 l0 k3 k4 k5 k6 hx5 hf1 hf2 hx hp
          generalize w5.drewN nq = w6 at *
          go_upto_region 17 with (fail)
          go_quiet (first | exact Calls.quiet_of (sameValuesQ _ _ _ st _ _ (lsl.take st) ⟨hpa.out.gr ((Gr.refl _).drewN _)⟩ ⟨hpl.out.gr ((Gr.refl _).drewN _)⟩ (by omega)) | exact Calls.quiet_of (sameValuesQ _ _ _ st _ _ (lsl.take st) ⟨hpb.out.gr ((Gr.refl _).drewN _)⟩ ⟨hpl.out.gr ((Gr.refl _).drewN _)⟩ (by omega)))
          have hfin := Fact.mk (Gr.trans hg0.out ((Gr.refl w6).drewN nq))
          go_wp2
          go_ret
          exact ⟨rfl, hfin.out⟩
theorem framesWhere_ok (H : Type) (enc : TypeId × Value → H) (W : World) (base : Nat)
    (v0 : Value) (d0 : DataW H) (p0 : List MemPlace) (h0 : DataW.Trod enc Try.prog W 0 (fun _ => true) true 25 v0 d0 p0) (ok0 : Value.okWide Try.prog W .any base 25 v0)
    (v1 : Value) (d1 : DataW H) (p1 : List MemPlace) (h1 : DataW.Trod enc Try.prog W 0 (fun _ => true) true 39 v1 d1 p1) (ok1 : Value.okWide Try.prog W .any base 39 v1)
    (v2 : Value) (d2 : DataW H) (p2 : List MemPlace) (h2 : DataW.Trod enc Try.prog W 0 (fun _ => true) true 78 v2 d2 p2) (ok2 : Value.okWide Try.prog W .any base 78 v2) (hk : Rows.uptoSmall H ([d0, d1, d2] ++ []) = true) :
    Calls Try.prog 9 #[v0, v1, v2] W fun e w' => e = .returned (.bool true) ∧ Gr W w' := by
  have hb := bulk_small hk
  simp only [Rows.uptoBulkAll, List.cons_append, List.nil_append] at hb
  obtain ⟨p, rfl, hp, _⟩ := open_prog h0 ok0 (by omega)
  obtain ⟨A, n, c, xs, rfl, hx, hl⟩ := open_frames h1 ok1
  obtain ⟨fn, pc, B, m, k, _, y1, y2, z1, z2, rfl, _, _⟩ := open_thrown h2 ok2
  exact where_walk W p ⟨hp⟩ 1048576 A n c xs ⟨⟨hx.rd, fun f hf => ⟨(hx.each f hf).1, by have := (hx.each f hf).2; omega⟩⟩⟩ (by omega) (by omega) fn pc B m k y1 y2 z1 z2
end Go.Proofs.Ytgflfpepfpekhaa
