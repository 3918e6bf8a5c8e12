import Derived.Test.YtgflfpepfpekhaaFrShown
import Derived.Test.YtgflfpepfpekhaaFrCopies
import Derived.Test.YtgflfpepfpekhaaFrOpenP
import Derived.Test.YtgflfpepfpekhaaCutw
namespace Go.Proofs.Ytgflfpepfpekhaa
open Go.RowKit Go.Mm Go.WideShapes
set_option maxHeartbeats 4000000
set_option maxRecDepth 100000
set_option linter.unusedSimpArgs false
theorem frs_snoc {N : Nat} {w0 w : World} {A : Option Addr} {n c : Nat} {ys : List Fr} {fn pc : Int} {B : Option Addr} {m d : Nat} {sl : List V2} {X : Chunk} {L : List Chunk}
    (h : Mem w0 w (Own 3 (.slice A n c) (fR ys ++ cR ⟨fn, pc, B, m, d, sl⟩) :: X :: Own 2 (.slice B m d) (fV sl) :: (slots ys ++ L))) (hy : ∀ y, y ∈ ys → y.n ≤ N) (hm : m ≤ N) : FrsOk N w A n c (ys ++ [⟨fn, pc, B, m, d, sl⟩]) := by
  refine ⟨by rw [fR_app]; simpa [fR] using h.rd m0, fun f hf => ?_⟩
  rcases List.mem_append.1 hf with hf | hf
  · exact ⟨h.rd (.tail _ (.tail _ (.tail _ (List.mem_append_left _ (slots_mem hf))))), hy f hf⟩
  · obtain rfl : f = _ := by simpa using hf
    exact ⟨h.rd m2, hm⟩
theorem put_some (a : Act) (d : Nat) (v : Value) : a.put (some d) v = { a with tmps := a.tmps.setIfInBounds d v } := rfl
theorem frs_app {N : Nat} {w0 w : World} {A : Option Addr} {n c : Nat} {ys : List Fr} {y : Fr} {L : List Chunk}
    (h : Mem w0 w (Own 3 (.slice A n c) (fR ys ++ cR y) :: (slots ys ++ L))) (hy : ∀ y, y ∈ ys → y.n ≤ N) (ho : FrOk N w y) : FrsOk N w A n c (ys ++ [y]) := by
  refine ⟨by rw [fR_app]; simpa [fR] using h.rd m0, fun f hf => ?_⟩
  rcases List.mem_append.1 hf with hf | hf
  · exact ⟨h.rd (.tail _ (List.mem_append_left _ (slots_mem hf))), hy f hf⟩
  · obtain rfl : f = _ := by simpa using hf
    exact ho
theorem catchD_app (p : Pg) (v : V2) (D E : List FrD) : ∀ n, n ≤ D.length → catchD p v (D ++ E) n = catchD p v D n
  | 0, _ => rfl
  | n + 1, h => by
    have e : (D ++ E).getD n d0 = D.getD n d0 := by
      rw [List.getD_eq_getElem?_getD, List.getD_eq_getElem?_getD, List.getElem?_append_left (by omega)]
    rw [catchD, catchD, e, catchD_app p v D E n (by omega), List.take_append_of_le_length (by omega)]
theorem catchD_len (p : Pg) (v : V2) (D : List FrD) : ∀ n, ((catchD p v D n).getD []).length ≤ n
  | 0 => by simp [catchD]
  | n + 1 => by
    rw [catchD]
    cases takesG (fnAt p (D.getD n d0).1) (D.getD n d0).2.1 (D.getD n d0).2.2.length with
    | none => exact Nat.le_succ_of_le (catchD_len p v D n)
    | some x => obtain ⟨t, st⟩ := x; simp; omega
theorem unwind_law (p : Pg) (v : V2) (D : List FrD) (d : FrD) :
    (∃ d', catchD p v [d] 1 = some [d'] ∧ catchD p v (D ++ [d]) (D.length + 1) = some (D ++ [d'])) ∨ (catchD p v [d] 1 = none ∧ catchD p v (D ++ [d]) (D.length + 1) = catchD p v D D.length) := by
  have e : (D ++ [d]).getD D.length d0 = d := by simp
  have h1 : catchD p v (D ++ [d]) (D.length + 1) = match takesG (fnAt p d.1) d.2.1 d.2.2.length with
      | some (t, st) => some ((D ++ [d]).take D.length ++ [(d.1, t, d.2.2.take st ++ [v])])
      | none => catchD p v D D.length := by rw [catchD, e, catchD_app p v D [d] D.length (Nat.le_refl _)]; rfl
  have h2 : catchD p v [d] 1 = match takesG (fnAt p d.1) d.2.1 d.2.2.length with
      | some (t, st) => some [(d.1, t, d.2.2.take st ++ [v])]
      | none => none := by rfl
  rw [h1, h2]
  cases takesG (fnAt p d.1) d.2.1 d.2.2.length with
  | none => exact .inr ⟨rfl, rfl⟩
  | some x => obtain ⟨t, st⟩ := x; exact .inl ⟨_, rfl, by simp⟩
theorem catch_one {w w' : World} {N : Nat} {r : Option (List FrD)} {e : Ending} (h : CatchR w w' N r e) : ∃ (b : Bool) (A : Option Addr) (n c : Nat) (zs : List Fr), e = .returned (.tuple #[.slice A n c, .bool b]) ∧ Fact (b = r.isSome) ∧ Gr w w' ∧ FrsOk N w' A n c zs ∧ Fact (zs.map Fr.data = r.getD []) := by
  cases r with
  | none =>
    obtain ⟨rfl, hg⟩ := h
    exact ⟨false, none, 0, 0, [], rfl, ⟨rfl⟩, hg, ⟨RdC.nil _ _, by simp⟩, ⟨rfl⟩⟩
  | some D =>
    obtain ⟨A, n, c, zs, rfl, hm, hd, hn⟩ := h
    exact ⟨true, A, n, c, zs, rfl, ⟨rfl⟩, hm.below, frs_of hm hn, ⟨hd⟩⟩
theorem unwind_walk (w : World) (p : Pg) (hp : Fact (PgOk w p)) (N : Nat) (A : Option Addr) (n c : Nat) (xs : List Fr) (hx : Fact (FrsOk N w A n c xs)) (hn : n ≤ 1048576) (hN : N ≤ 1048576) (fn pc : Int) (B : Option Addr) (m d : Nat) (sl : List V2) (hf : Fact (RdC w 2 (.slice B m d) (fV sl))) (hm0 : m ≤ N) (v1 v2 o1 o2 : Int) :
    Calls Try.prog 8 #[vP p, .slice A n c, .agg #[.int .i64 fn, .int .i64 pc, .slice B m d, .int .i64 v1, .int .i64 v2, .int .i64 o1, .int .i64 o2]] w fun e w' => e = .returned (.bool true) ∧ Gr w w' := by
  obtain ⟨iR, ri, rz0, rz1, rz2⟩ := info_parts inf_R
  have hcat := fun (W : World) (hg : Gr w W) N A n c xs hx hn hN => (catch_ok W p ⟨hp.out.gr hg⟩ N A n c xs hx (v1, v2) hn hN).mono (fun _ _ h => catch_one h)
  obtain ⟨kA, kn, kc, consts, fA, fnn, fc, fns⟩ := p
  simp only [vP, cV] at hcat ⊢
  go_enter Try.func8, Try.ntmps8
  go_upto_region 1 with (fail)
  have hm := (((Mem.start w).alloc (.cells [.slice kA kn kc, .slice fA fnn fc].toArray 25)).alloc (.cells [.int .i64 fn, .int .i64 pc, .slice B m d, .int .i64 v1, .int .i64 v2, .int .i64 o1, .int .i64 o2].toArray 78))
  simp only [World.size_alloc] at hm
  generalize hgX : w.heap.size = g at hm ⊢
  generalize hwX : ((w.alloc (.cells [.slice kA kn kc, .slice fA fnn fc].toArray 25)).alloc (.cells [.int .i64 fn, .int .i64 pc, .slice B m d, .int .i64 v1, .int .i64 v2, .int .i64 o1, .int .i64 o2].toArray 78)) = w1 at hm
  try refine wp_world hwX ?_
  clear hwX hgX
  go_wp2_with fail
  refine (shown_ok w1).mono ?_
  rintro e w2 ⟨rfl, hg2⟩
  have hm2 := hm.gr hg2
  clear hm hg2
  have c1 := hm2.cell m0 0 rfl
  have c2 := hm2.cell m0 1 rfl
  have c3 := hm2.cell m0 2 rfl
  go_upto_region 4 with (fail)
  have hm3 := ((Mem.start w2).alloc (.cells [.int .i64 fn, .int .i64 pc, .slice B m d].toArray 30))
  generalize hgX : w2.heap.size = g7 at hm3 ⊢
  generalize hwX : (w2.alloc (.cells [.int .i64 fn, .int .i64 pc, .slice B m d].toArray 30)) = w3 at hm3
  try refine wp_world hwX ?_
  clear hwX hgX
  have hm3 := hm2.join hm3
  have hg0 := Fact.mk hm3.below
  have k5 : w3.cell? ⟨g7, 0, none⟩ = some (.int .i64 fn) := hm3.cell m0 0 rfl
  have k6 : w3.cell? ⟨g7, 1, none⟩ = some (.int .i64 pc) := hm3.cell m0 1 rfl
  have k7 : w3.cell? ⟨g7, 2, none⟩ = some (.slice B m d) := hm3.cell m0 2 rfl
  have k1 : w3.cell? ⟨g, 0, none⟩ = some (.slice kA kn kc) := hm3.cell m2 0 rfl
  have k2 : w3.cell? ⟨g, 1, none⟩ = some (.slice fA fnn fc) := hm3.cell m2 1 rfl
  have k3 : w3.cell? ⟨g + 1, 3, none⟩ = some (.int .i64 v1) := hm3.cell m1 3 rfl
  have k4 : w3.cell? ⟨g + 1, 4, none⟩ = some (.int .i64 v2) := hm3.cell m1 4 rfl
  clear hm2 hm3 c1 c2 c3
  go_cut [8] (fun s8 W => ∃ (A8 : Option Addr) (c8 : Nat) (ys : List Fr), s8 = .slice A8 (n + 1) c8 ∧ Gr w3 W ∧ FrsOk N W A8 (n + 1) c8 ys ∧ ys.map Fr.data = xs.map Fr.data ++ [(fn, pc, sl)])
  case first =>
    have hgS := (Gr.refl w3).drew
    have hmS := (Mem.start w3).drew
    refine wp_region_until (S := fun W => W.cell? ⟨g7, 0, none⟩ = some (.int .i64 fn) ∧ W.cell? ⟨g7, 1, none⟩ = some (.int .i64 pc) ∧ W.cell? ⟨g7, 2, none⟩ = some (.slice B m d)) 6 (by kernel_rfl) ?_
    generalize w3.drew = wd at hgS hmS ⊢
    refine wpAnyU_take 0 (v := ?vv41) rfl (by kernel_rfl) (by kernel_rfl) (fun _ _ _ h => h) ⟨Gr.cell hgS k5, Gr.cell hgS k6, Gr.cell hgS k7⟩ (Or.inl ⟨rfl, ?yv41⟩) ?rv41
    case yv41 =>
      intro W hW
      obtain ⟨hW0, hW1, hW2⟩ := hW
      go_simp
      try with_reducible rfl
    try simp only [Act.put, List.getElem_toArray, List.getElem_cons_succ, List.getElem_cons_zero, List.setIfInBounds_toArray, List.set_cons_zero, List.set_cons_succ]
    refine wpAnyU_take 2 (v := ?vv42) rfl (by kernel_rfl) (by kernel_rfl) (fun _ _ _ h => h) ⟨Gr.cell hgS k5, Gr.cell hgS k6, Gr.cell hgS k7⟩ (Or.inl ⟨rfl, ?yv42⟩) ?rv42
    case yv42 =>
      intro W hW
      obtain ⟨hW0, hW1, hW2⟩ := hW
      go_simp
      try with_reducible rfl
    try simp only [Act.put, List.getElem_toArray, List.getElem_cons_succ, List.getElem_cons_zero, List.setIfInBounds_toArray, List.set_cons_zero, List.set_cons_succ]
    refine wpAnyU_one 1 (by kernel_rfl) rfl (fun K hK => ?_)
    refine step_callw rfl 26 Try.f26 Try.func26 (by kernel_rfl) (by kernel_rfl) _ _ rfl #[.slice A n c] (by simp [Act.eval]) ?_
    refine (copyFrames_ok wd N A n c xs ⟨hx.out.gr (Gr.trans hg0.out hgS)⟩ (by omega) (by omega)).mono ?_
    rintro e u1 ⟨A2, c3, ys4, rfl, hz5, hd6, hn7⟩
    have g8 := Gr.trans hgS hz5.below
    have hu10 := (Mem.start w3).gr hgS
    have hm9 := (hu10).join hz5
    refine ⟨_, rfl, hK _ _ (fun _ => ⟨Gr.cell g8 k5, Gr.cell g8 k6, Gr.cell g8 k7⟩) ?_⟩
    clear hK K
    try simp only [Act.put, List.getElem_toArray, List.getElem_cons_succ, List.getElem_cons_zero, List.setIfInBounds_toArray, List.set_cons_zero, List.set_cons_succ]
    refine wpAnyU_one 3 (by kernel_rfl) rfl (fun K hK => ?_)
    refine step_callw rfl 47 Try.f47 Try.func47 (by kernel_rfl) (by kernel_rfl) _ _ rfl #[.agg #[.int .i64 fn, .int .i64 pc, .slice B m d]] (by simp [Act.eval]) ?_
    refine (copyFrame_ok u1 fn pc B m d sl ⟨hf.out.gr (Gr.trans hg0.out g8)⟩ (by omega)).mono ?_
    rintro e u11 ⟨B12, d13, rfl, hz14⟩
    have g15 := Gr.trans g8 hz14.gr
    have hm16 := hm9.new hz14
    refine ⟨_, rfl, hK _ _ (fun _ => ⟨Gr.cell g15 k5, Gr.cell g15 k6, Gr.cell g15 k7⟩) ?_⟩
    clear hK K
    try simp only [Act.put, List.getElem_toArray, List.getElem_cons_succ, List.getElem_cons_zero, List.setIfInBounds_toArray, List.set_cons_zero, List.set_cons_succ]
    refine wpAnyU_one 4 (by kernel_rfl) rfl (fun K hK => ?_)
    go_simp
    have g20 := Gr.alloc g15 (.cells [.int .i64 fn, .int .i64 pc, .slice B12 m d13].toArray 30)
    have hm19 := hm16.alloc (.cells [.int .i64 fn, .int .i64 pc, .slice B12 m d13].toArray 30)
    have r21 : RdC (u11.alloc (.cells [.int .i64 fn, .int .i64 pc, .slice B12 m d13].toArray 30)) 3 (.slice (some ⟨u11.heap.size, 0, none⟩) 1 1) (cR ⟨fn, pc, B12, m, d13, sl⟩) := RdC.lit _ (cR ⟨fn, pc, B12, m, d13, sl⟩) _ 1 3 rfl (by simp [maxLen]) (cR_one _)
    generalize u11.heap.size = a18 at hm19 r21 ⊢
    generalize u11.alloc (.cells [.int .i64 fn, .int .i64 pc, .slice B12 m d13].toArray 30) = u17 at g20 hm19 r21 ⊢
    refine hK _ _ (fun _ => ⟨Gr.cell g20 k5, Gr.cell g20 k6, Gr.cell g20 k7⟩) ?_
    clear hK K
    try simp only [Act.put, List.getElem_toArray, List.getElem_cons_succ, List.getElem_cons_zero, List.setIfInBounds_toArray, List.set_cons_zero, List.set_cons_succ]
    refine wpAnyU_one 5 (by kernel_rfl) rfl (fun K hK => ?_)
    refine step_appw rfl _ _ _ rfl 30 iR _ 3 40 ty_Rs ri rz0 rz1 rz2 rfl A2 n c3 _ rfl (hm19).pull2 _ 1 1 (cR ⟨fn, pc, B12, m, d13, sl⟩) rfl r21 (by unfold maxLen; omega) (by omega) ?_
    intro A23 c24 u22 hm25
    have g26 := hm25.below
    refine hK _ _ (fun _ => ⟨Gr.cell g26 k5, Gr.cell g26 k6, Gr.cell g26 k7⟩) ?_
    clear hK K
    try simp only [Act.put, List.getElem_toArray, List.getElem_cons_succ, List.getElem_cons_zero, List.setIfInBounds_toArray, List.set_cons_zero, List.set_cons_succ]
    refine wpAnyU_one 6 (by kernel_rfl) rfl (fun K hK => ?_)
    go_simp
    refine hK _ _ (fun h => absurd h (by decide)) ?_
    clear hK K
    refine wpAnyU_done (by kernel_rfl) ?_ _
    go_wp2
    try simp only [Act.put, List.getElem_toArray, List.getElem_cons_succ, List.getElem_cons_zero, List.setIfInBounds_toArray, List.set_cons_succ, List.set_cons_zero]
    go_meet
    case rel => exact ⟨_, _, ys4 ++ [⟨fn, pc, B12, m, d13, sl⟩], rfl, g26, frs_snoc hm25 hn7 hm0, by rw [List.map_append, hd6]; rfl⟩
  case rest =>
    obtain ⟨w4, rfl⟩ : ∃ w4 : World, w4 = wc := ⟨_, rfl⟩
    obtain ⟨A8, c8, ys, rfl, hg9, hf8, hd8⟩ := hcut
    have hf8 := Fact.mk hf8
    have hg0 := Fact.mk (Gr.trans hg0.out hg9)
    have k1 := Gr.cell hg9 k1
    have k2 := Gr.cell hg9 k2
    have k3 := Gr.cell hg9 k3
    have k4 := Gr.cell hg9 k4
    have k5 := Gr.cell hg9 k5
    have k6 := Gr.cell hg9 k6
    have k7 := Gr.cell hg9 k7
    clear hg9
    go_wp2_with fail
    refine (hcat w4 hg0.out N A8 (n + 1) c8 ys hf8 (by omega) (by omega)).mono ?_
    rintro e w5 ⟨b1, B1, n1, e1, z1, rfl, hb1, hg9, hf1, hd1⟩
    rw [hd8] at hb1 hd1
    have hf1 := Fact.mk hf1
    have hg0 := Fact.mk (Gr.trans hg0.out hg9)
    have k1 := Gr.cell hg9 k1
    have k2 := Gr.cell hg9 k2
    have k3 := Gr.cell hg9 k3
    have k4 := Gr.cell hg9 k4
    have k5 := Gr.cell hg9 k5
    have k6 := Gr.cell hg9 k6
    have k7 := Gr.cell hg9 k7
    clear hg9 hf8 hd8
    go_upto_region 6 with (fail)
    go_cut [11, 12] (fun s11 s12 W => ∃ (b : Bool) (A9 : Option Addr) (n9 c9 : Nat) (zs : List Fr), s11 = .slice A9 n9 c9 ∧ s12 = .bool b ∧ Gr w5 W ∧ Fact (b = (catchD ⟨kA, kn, kc, consts, fA, fnn, fc, fns⟩ (v1, v2) [(fn, pc, sl)] 1).isSome) ∧ FrsOk (N + 1) W A9 n9 c9 zs ∧ Fact (zs.map Fr.data = (catchD ⟨kA, kn, kc, consts, fA, fnn, fc, fns⟩ (v1, v2) [(fn, pc, sl)] 1).getD []))
    case first =>
      have hgS := (Gr.refl w5).drew
      have hmS := (Mem.start w5).drew
      refine wp_region_until (S := fun W => W.cell? ⟨g, 0, none⟩ = some (.slice kA kn kc) ∧ W.cell? ⟨g, 1, none⟩ = some (.slice fA fnn fc) ∧ W.cell? ⟨g7, 0, none⟩ = some (.int .i64 fn) ∧ W.cell? ⟨g7, 1, none⟩ = some (.int .i64 pc) ∧ W.cell? ⟨g7, 2, none⟩ = some (.slice B m d) ∧ W.cell? ⟨g + 1, 3, none⟩ = some (.int .i64 v1) ∧ W.cell? ⟨g + 1, 4, none⟩ = some (.int .i64 v2)) 11 (by kernel_rfl) ?_
      generalize w5.drew = wd at hgS hmS ⊢
      refine wpAnyU_take 0 (v := ?vv61) rfl (by kernel_rfl) (by kernel_rfl) (fun _ _ _ h => h) ⟨Gr.cell hgS k1, Gr.cell hgS k2, Gr.cell hgS k5, Gr.cell hgS k6, Gr.cell hgS k7, Gr.cell hgS k3, Gr.cell hgS k4⟩ (Or.inl ⟨rfl, ?yv61⟩) ?rv61
      case yv61 =>
        intro W hW
        obtain ⟨hW0, hW1, hW2, hW3, hW4, hW5, hW6⟩ := hW
        go_simp
        try with_reducible rfl
      try simp only [Act.put, List.getElem_toArray, List.getElem_cons_succ, List.getElem_cons_zero, List.setIfInBounds_toArray, List.set_cons_zero, List.set_cons_succ]
      refine wpAnyU_take 1 (v := ?vv62) rfl (by kernel_rfl) (by kernel_rfl) (fun _ _ _ h => h) ⟨Gr.cell hgS k1, Gr.cell hgS k2, Gr.cell hgS k5, Gr.cell hgS k6, Gr.cell hgS k7, Gr.cell hgS k3, Gr.cell hgS k4⟩ (Or.inl ⟨rfl, ?yv62⟩) ?rv62
      case yv62 =>
        intro W hW
        obtain ⟨hW0, hW1, hW2, hW3, hW4, hW5, hW6⟩ := hW
        go_simp
        try with_reducible rfl
      try simp only [Act.put, List.getElem_toArray, List.getElem_cons_succ, List.getElem_cons_zero, List.setIfInBounds_toArray, List.set_cons_zero, List.set_cons_succ]
      refine wpAnyU_take 4 (v := ?vv63) rfl (by kernel_rfl) (by kernel_rfl) (fun _ _ _ h => h) ⟨Gr.cell hgS k1, Gr.cell hgS k2, Gr.cell hgS k5, Gr.cell hgS k6, Gr.cell hgS k7, Gr.cell hgS k3, Gr.cell hgS k4⟩ (Or.inl ⟨rfl, ?yv63⟩) ?rv63
      case yv63 =>
        intro W hW
        obtain ⟨hW0, hW1, hW2, hW3, hW4, hW5, hW6⟩ := hW
        go_simp
        try with_reducible rfl
      try simp only [Act.put, List.getElem_toArray, List.getElem_cons_succ, List.getElem_cons_zero, List.setIfInBounds_toArray, List.set_cons_zero, List.set_cons_succ]
      refine wpAnyU_take 5 (v := ?vv64) rfl (by kernel_rfl) (by kernel_rfl) (fun _ _ _ h => h) ⟨Gr.cell hgS k1, Gr.cell hgS k2, Gr.cell hgS k5, Gr.cell hgS k6, Gr.cell hgS k7, Gr.cell hgS k3, Gr.cell hgS k4⟩ (Or.inl ⟨rfl, ?yv64⟩) ?rv64
      case yv64 =>
        intro W hW
        obtain ⟨hW0, hW1, hW2, hW3, hW4, hW5, hW6⟩ := hW
        go_simp
        try with_reducible rfl
      try simp only [Act.put, List.getElem_toArray, List.getElem_cons_succ, List.getElem_cons_zero, List.setIfInBounds_toArray, List.set_cons_zero, List.set_cons_succ]
      refine wpAnyU_one 2 (by kernel_rfl) rfl (fun K hK => ?_)
      refine step_callw rfl 47 Try.f47 Try.func47 (by kernel_rfl) (by kernel_rfl) _ _ rfl #[.agg #[.int .i64 fn, .int .i64 pc, .slice B m d]] (by simp [Act.eval]) ?_
      refine (copyFrame_ok wd fn pc B m d sl ⟨hf.out.gr (Gr.trans hg0.out hgS)⟩ (by omega)).mono ?_
      rintro e u27 ⟨B28, d29, rfl, hz30⟩
      have g31 := Gr.trans hgS hz30.gr
      have hm32 := hmS.new hz30
      refine ⟨_, rfl, hK _ _ (fun _ => ⟨Gr.cell g31 k1, Gr.cell g31 k2, Gr.cell g31 k5, Gr.cell g31 k6, Gr.cell g31 k7, Gr.cell g31 k3, Gr.cell g31 k4⟩) ?_⟩
      clear hK K
      try simp only [Act.put, List.getElem_toArray, List.getElem_cons_succ, List.getElem_cons_zero, List.setIfInBounds_toArray, List.set_cons_zero, List.set_cons_succ]
      refine wpAnyU_one 3 (by kernel_rfl) rfl (fun K hK => ?_)
      go_simp
      have g36 := Gr.alloc g31 (.cells [.int .i64 fn, .int .i64 pc, .slice B28 m d29].toArray 30)
      have hm35 := hm32.alloc (.cells [.int .i64 fn, .int .i64 pc, .slice B28 m d29].toArray 30)
      have r37 : RdC (u27.alloc (.cells [.int .i64 fn, .int .i64 pc, .slice B28 m d29].toArray 30)) 3 (.slice (some ⟨u27.heap.size, 0, none⟩) 1 1) (cR ⟨fn, pc, B28, m, d29, sl⟩) := RdC.lit _ (cR ⟨fn, pc, B28, m, d29, sl⟩) _ 1 3 rfl (by simp [maxLen]) (cR_one _)
      generalize u27.heap.size = a34 at hm35 r37 ⊢
      generalize u27.alloc (.cells [.int .i64 fn, .int .i64 pc, .slice B28 m d29].toArray 30) = u33 at g36 hm35 r37 ⊢
      refine hK _ _ (fun _ => ⟨Gr.cell g36 k1, Gr.cell g36 k2, Gr.cell g36 k5, Gr.cell g36 k6, Gr.cell g36 k7, Gr.cell g36 k3, Gr.cell g36 k4⟩) ?_
      clear hK K
      try simp only [Act.put, List.getElem_toArray, List.getElem_cons_succ, List.getElem_cons_zero, List.setIfInBounds_toArray, List.set_cons_zero, List.set_cons_succ]
      refine wpAnyU_one 6 (by kernel_rfl) rfl (fun K hK => ?_)
      have hf49 : FrsOk N u33 (some ⟨a34, 0, none⟩) 1 1 [⟨fn, pc, B28, m, d29, sl⟩] := frs1 r37 ⟨hm35.rd m1, hm0⟩
      refine step_callw rfl 45 Try.f45 Try.func45 (by kernel_rfl) (by kernel_rfl) _ _ rfl #[.agg #[.slice kA kn kc, .slice fA fnn fc], .slice (some ⟨a34, 0, none⟩) 1 1, .agg #[.int .i64 v1, .int .i64 v2]] (by simp [Act.eval]) ?_
      refine (hcat u33 (Gr.trans hg0.out g36) N (some ⟨a34, 0, none⟩) 1 1 [⟨fn, pc, B28, m, d29, sl⟩] ⟨hf49⟩ (by omega) (by omega)).mono ?_
      rintro e u38 ⟨b39, A40, n41, c42, zs43, rfl, hb47, gz44, hf45, hd46⟩
      have g48 := Gr.trans g36 gz44
      refine ⟨_, rfl, hK _ _ (fun _ => ⟨Gr.cell g48 k1, Gr.cell g48 k2, Gr.cell g48 k5, Gr.cell g48 k6, Gr.cell g48 k7, Gr.cell g48 k3, Gr.cell g48 k4⟩) ?_⟩
      clear hK K
      try simp only [Act.put, List.getElem_toArray, List.getElem_cons_succ, List.getElem_cons_zero, List.setIfInBounds_toArray, List.set_cons_zero, List.set_cons_succ]
      refine wpAnyU_take 7 (v := ?vv65) rfl (by kernel_rfl) (by kernel_rfl) (fun _ _ _ h => h) ⟨Gr.cell g48 k1, Gr.cell g48 k2, Gr.cell g48 k5, Gr.cell g48 k6, Gr.cell g48 k7, Gr.cell g48 k3, Gr.cell g48 k4⟩ (Or.inl ⟨rfl, ?yv65⟩) ?rv65
      case yv65 =>
        intro W hW
        obtain ⟨hW0, hW1, hW2, hW3, hW4, hW5, hW6⟩ := hW
        go_simp
        try with_reducible rfl
      try simp only [Act.put, List.getElem_toArray, List.getElem_cons_succ, List.getElem_cons_zero, List.setIfInBounds_toArray, List.set_cons_zero, List.set_cons_succ]
      refine wpAnyU_take 8 (v := ?vv66) rfl (by kernel_rfl) (by kernel_rfl) (fun _ _ _ h => h) ⟨Gr.cell g48 k1, Gr.cell g48 k2, Gr.cell g48 k5, Gr.cell g48 k6, Gr.cell g48 k7, Gr.cell g48 k3, Gr.cell g48 k4⟩ (Or.inl ⟨rfl, ?yv66⟩) ?rv66
      case yv66 =>
        intro W hW
        obtain ⟨hW0, hW1, hW2, hW3, hW4, hW5, hW6⟩ := hW
        go_simp
        try with_reducible rfl
      try simp only [Act.put, List.getElem_toArray, List.getElem_cons_succ, List.getElem_cons_zero, List.setIfInBounds_toArray, List.set_cons_zero, List.set_cons_succ]
      refine wpAnyU_take 9 (v := ?vv67) rfl (by kernel_rfl) (by kernel_rfl) (fun _ _ _ h => h) ⟨Gr.cell g48 k1, Gr.cell g48 k2, Gr.cell g48 k5, Gr.cell g48 k6, Gr.cell g48 k7, Gr.cell g48 k3, Gr.cell g48 k4⟩ (Or.inl ⟨rfl, ?yv67⟩) ?rv67
      case yv67 =>
        intro W hW
        obtain ⟨hW0, hW1, hW2, hW3, hW4, hW5, hW6⟩ := hW
        go_simp
        try with_reducible rfl
      try simp only [Act.put, List.getElem_toArray, List.getElem_cons_succ, List.getElem_cons_zero, List.setIfInBounds_toArray, List.set_cons_zero, List.set_cons_succ]
      refine wpAnyU_take 10 (v := ?vv68) rfl (by kernel_rfl) (by kernel_rfl) (fun _ _ _ h => h) ⟨Gr.cell g48 k1, Gr.cell g48 k2, Gr.cell g48 k5, Gr.cell g48 k6, Gr.cell g48 k7, Gr.cell g48 k3, Gr.cell g48 k4⟩ (Or.inl ⟨rfl, ?yv68⟩) ?rv68
      case yv68 =>
        intro W hW
        obtain ⟨hW0, hW1, hW2, hW3, hW4, hW5, hW6⟩ := hW
        go_simp
        try with_reducible rfl
      try simp only [Act.put, List.getElem_toArray, List.getElem_cons_succ, List.getElem_cons_zero, List.setIfInBounds_toArray, List.set_cons_zero, List.set_cons_succ]
      refine wpAnyU_one 11 (by kernel_rfl) rfl (fun K hK => ?_)
      go_simp
      refine hK _ _ (fun h => absurd h (by decide)) ?_
      clear hK K
      refine wpAnyU_done (by kernel_rfl) ?_ _
      go_wp2
      try simp only [Act.put, List.getElem_toArray, List.getElem_cons_succ, List.getElem_cons_zero, List.setIfInBounds_toArray, List.set_cons_succ, List.set_cons_zero]
      go_meet
      case rel => exact ⟨_, _, _, _, _, rfl, rfl, g48, hb47, hf45, hd46⟩
    case rest =>
      obtain ⟨w6, rfl⟩ : ∃ w6 : World, w6 = wc := ⟨_, rfl⟩
      obtain ⟨b2, B2, n2, e2, z2, rfl, rfl, hg9, hb2, hf2, hd2⟩ := hcut
      have hf1 := Fact.mk (hf1.out.gr hg9)
      have hf2 := Fact.mk hf2
      have hg0 := Fact.mk (Gr.trans hg0.out hg9)
      have k1 := Gr.cell hg9 k1
      have k2 := Gr.cell hg9 k2
      have k3 := Gr.cell hg9 k3
      have k4 := Gr.cell hg9 k4
      have k5 := Gr.cell hg9 k5
      have k6 := Gr.cell hg9 k6
      have k7 := Gr.cell hg9 k7
      clear hg9
      have hl := Fact.mk hx.out.len
      have hlaw := Fact.mk (unwind_law ⟨kA, kn, kc, consts, fA, fnn, fc, fns⟩ (v1, v2) (xs.map Fr.data) (fn, pc, sl))
      rw [List.length_map, hl.out] at hlaw
      cases b2 with
      | true =>
        obtain ⟨d', q2, q1⟩ : ∃ d', catchD ⟨kA, kn, kc, consts, fA, fnn, fc, fns⟩ (v1, v2) [(fn, pc, sl)] 1 = some [d'] ∧ catchD ⟨kA, kn, kc, consts, fA, fnn, fc, fns⟩ (v1, v2) (xs.map Fr.data ++ [(fn, pc, sl)]) (n + 1) = some (xs.map Fr.data ++ [d']) := by
          rcases hlaw.out with h | ⟨h, _⟩
          · exact h
          · have := hb2.out; rw [h] at this; cases this
        obtain rfl : b1 = true := by have := hb1.out; rw [q1] at this; exact this
        have hz1 : Fact (z1.map Fr.data = xs.map Fr.data ++ [d']) := ⟨by have := hd1.out; rw [q1] at this; exact this⟩
        obtain ⟨y, rfl, hy⟩ : ∃ y, z2 = [y] ∧ Fact (y.data = d') := by
          have := hd2.out
          rw [q2] at this
          match z2, this with
          | [y], h => exact ⟨y, rfl, ⟨by simpa using h⟩⟩
        obtain rfl : 1 = n2 := hf2.out.len
        obtain rfl : n + 1 = n1 := by have h1 := hf1.out.len; have h2 := congrArg List.length hz1.out; simp at h2; have := hl.out; omega
        clear hb1 hb2 hd1 hd2 q1 q2 hlaw hcat k1 k2 k3 k4
        have hyo : Fact (FrOk (N + 1) w6 y) := ⟨hf2.out.each y (by simp)⟩
        obtain ⟨yb, yo, rfl, yr, _⟩ := hf2.out.at 0 (by omega)
        obtain ⟨yfn, ypc, yA, yn, yc, ysl⟩ := y
        obtain rfl : (yfn, ypc, ysl) = d' := hy.out
        have y1 : w6.cell? ⟨yb, yo, none⟩ = some (.int .i64 yfn) := yr 0 _ rfl
        have y2 : w6.cell? ⟨yb, yo + 1, none⟩ = some (.int .i64 ypc) := yr 1 _ rfl
        have y3 : w6.cell? ⟨yb, yo + 2, none⟩ = some (.slice yA yn yc) := yr 2 _ rfl
        clear yr hf2 hy
        go_upto_region 8 with (fail)
        go_cut [6] (fun s6 W => s6 = .bool true ∧ Gr w6 W)
        case first =>
          have hgS := (Gr.refl w6).drew
          have hmS := (Mem.start w6).drew
          refine wp_region_until (S := fun W => W.cell? ⟨yb, yo, none⟩ = some (.int .i64 yfn) ∧ W.cell? ⟨yb, yo + 1, none⟩ = some (.int .i64 ypc) ∧ W.cell? ⟨yb, yo + 2, none⟩ = some (.slice yA yn yc)) 17 (by kernel_rfl) ?_
          generalize w6.drew = wd at hgS hmS ⊢
          refine wpAnyU_take 0 (v := ?vv81) rfl (by kernel_rfl) (by kernel_rfl) (fun _ _ _ h => h) ⟨Gr.cell hgS y1, Gr.cell hgS y2, Gr.cell hgS y3⟩ (Or.inl ⟨rfl, ?yv81⟩) ?rv81
          case yv81 =>
            intro W hW
            obtain ⟨hW0, hW1, hW2⟩ := hW
            go_simp
            try with_reducible rfl
          try simp only [Act.put, List.getElem_toArray, List.getElem_cons_succ, List.getElem_cons_zero, List.setIfInBounds_toArray, List.set_cons_zero, List.set_cons_succ]
          refine wpAnyU_take 1 (v := ?vv82) rfl (by kernel_rfl) (by kernel_rfl) (fun _ _ _ h => h) ⟨Gr.cell hgS y1, Gr.cell hgS y2, Gr.cell hgS y3⟩ (Or.inl ⟨rfl, ?yv82⟩) ?rv82
          case yv82 =>
            intro W hW
            obtain ⟨hW0, hW1, hW2⟩ := hW
            go_simp
            try with_reducible rfl
          try simp only [Act.put, List.getElem_toArray, List.getElem_cons_succ, List.getElem_cons_zero, List.setIfInBounds_toArray, List.set_cons_zero, List.set_cons_succ]
          refine wpAnyU_take 2 (v := ?vv83) rfl (by kernel_rfl) (by kernel_rfl) (fun _ _ _ h => h) ⟨Gr.cell hgS y1, Gr.cell hgS y2, Gr.cell hgS y3⟩ (Or.inl ⟨rfl, ?yv83⟩) ?rv83
          case yv83 =>
            intro W hW
            obtain ⟨hW0, hW1, hW2⟩ := hW
            go_simp
            try with_reducible rfl
          try simp only [Act.put, List.getElem_toArray, List.getElem_cons_succ, List.getElem_cons_zero, List.setIfInBounds_toArray, List.set_cons_zero, List.set_cons_succ]
          refine wpAnyU_take 3 (v := ?vv84) rfl (by kernel_rfl) (by kernel_rfl) (fun _ _ _ h => h) ⟨Gr.cell hgS y1, Gr.cell hgS y2, Gr.cell hgS y3⟩ (Or.inl ⟨rfl, ?yv84⟩) ?rv84
          case yv84 =>
            intro W hW
            obtain ⟨hW0, hW1, hW2⟩ := hW
            go_simp
            try with_reducible rfl
          try simp only [Act.put, List.getElem_toArray, List.getElem_cons_succ, List.getElem_cons_zero, List.setIfInBounds_toArray, List.set_cons_zero, List.set_cons_succ]
          refine wpAnyU_take 4 (v := ?vv85) rfl (by kernel_rfl) (by kernel_rfl) (fun _ _ _ h => h) ⟨Gr.cell hgS y1, Gr.cell hgS y2, Gr.cell hgS y3⟩ (Or.inl ⟨rfl, ?yv85⟩) ?rv85
          case yv85 =>
            intro W hW
            obtain ⟨hW0, hW1, hW2⟩ := hW
            go_simp
            try with_reducible rfl
          try simp only [Act.put, List.getElem_toArray, List.getElem_cons_succ, List.getElem_cons_zero, List.setIfInBounds_toArray, List.set_cons_zero, List.set_cons_succ]
          refine wpAnyU_take 5 (v := ?vv86) rfl (by kernel_rfl) (by kernel_rfl) (fun _ _ _ h => h) ⟨Gr.cell hgS y1, Gr.cell hgS y2, Gr.cell hgS y3⟩ (Or.inl ⟨rfl, ?yv86⟩) ?rv86
          case yv86 =>
            intro W hW
            obtain ⟨hW0, hW1, hW2⟩ := hW
            go_simp
            try with_reducible rfl
          try simp only [Act.put, List.getElem_toArray, List.getElem_cons_succ, List.getElem_cons_zero, List.setIfInBounds_toArray, List.set_cons_zero, List.set_cons_succ]
          refine wpAnyU_take 6 (v := ?vv87) rfl (by kernel_rfl) (by kernel_rfl) (fun _ _ _ h => h) ⟨Gr.cell hgS y1, Gr.cell hgS y2, Gr.cell hgS y3⟩ (Or.inl ⟨rfl, ?yv87⟩) ?rv87
          case yv87 =>
            intro W hW
            obtain ⟨hW0, hW1, hW2⟩ := hW
            go_simp
            try with_reducible rfl
          try simp only [Act.put, List.getElem_toArray, List.getElem_cons_succ, List.getElem_cons_zero, List.setIfInBounds_toArray, List.set_cons_zero, List.set_cons_succ]
          refine wpAnyU_take 7 (v := ?vv88) rfl (by kernel_rfl) (by kernel_rfl) (fun _ _ _ h => h) ⟨Gr.cell hgS y1, Gr.cell hgS y2, Gr.cell hgS y3⟩ (Or.inl ⟨rfl, ?yv88⟩) ?rv88
          case yv88 =>
            intro W hW
            obtain ⟨hW0, hW1, hW2⟩ := hW
            go_simp
            try with_reducible rfl
          try simp only [Act.put, List.getElem_toArray, List.getElem_cons_succ, List.getElem_cons_zero, List.setIfInBounds_toArray, List.set_cons_zero, List.set_cons_succ]
          refine wpAnyU_take 8 (v := ?vv89) rfl (by kernel_rfl) (by kernel_rfl) (fun _ _ _ h => h) ⟨Gr.cell hgS y1, Gr.cell hgS y2, Gr.cell hgS y3⟩ (Or.inl ⟨rfl, ?yv89⟩) ?rv89
          case yv89 =>
            intro W hW
            obtain ⟨hW0, hW1, hW2⟩ := hW
            go_simp
            try with_reducible rfl
          try simp only [Act.put, List.getElem_toArray, List.getElem_cons_succ, List.getElem_cons_zero, List.setIfInBounds_toArray, List.set_cons_zero, List.set_cons_succ]
          refine wpAnyU_take 10 (v := ?vv810) rfl (by kernel_rfl) (by kernel_rfl) (fun _ _ _ h => h) ⟨Gr.cell hgS y1, Gr.cell hgS y2, Gr.cell hgS y3⟩ (Or.inl ⟨rfl, ?yv810⟩) ?rv810
          case yv810 =>
            intro W hW
            obtain ⟨hW0, hW1, hW2⟩ := hW
            go_simp
            try with_reducible rfl
          try simp only [Act.put, List.getElem_toArray, List.getElem_cons_succ, List.getElem_cons_zero, List.setIfInBounds_toArray, List.set_cons_zero, List.set_cons_succ]
          refine wpAnyU_take 11 (v := ?vv811) rfl (by kernel_rfl) (by kernel_rfl) (fun _ _ _ h => h) ⟨Gr.cell hgS y1, Gr.cell hgS y2, Gr.cell hgS y3⟩ (Or.inl ⟨rfl, ?yv811⟩) ?rv811
          case yv811 =>
            intro W hW
            obtain ⟨hW0, hW1, hW2⟩ := hW
            go_simp
            try with_reducible rfl
          try simp only [Act.put, List.getElem_toArray, List.getElem_cons_succ, List.getElem_cons_zero, List.setIfInBounds_toArray, List.set_cons_zero, List.set_cons_succ]
          refine wpAnyU_take 12 (v := ?vv812) rfl (by kernel_rfl) (by kernel_rfl) (fun _ _ _ h => h) ⟨Gr.cell hgS y1, Gr.cell hgS y2, Gr.cell hgS y3⟩ (Or.inl ⟨rfl, ?yv812⟩) ?rv812
          case yv812 =>
            intro W hW
            obtain ⟨hW0, hW1, hW2⟩ := hW
            go_simp
            try with_reducible rfl
          try simp only [Act.put, List.getElem_toArray, List.getElem_cons_succ, List.getElem_cons_zero, List.setIfInBounds_toArray, List.set_cons_zero, List.set_cons_succ]
          refine wpAnyU_two 9 13 (by kernel_rfl) rfl rfl (fun K hK => ?_) (fun K hK => ?_)
          · refine step_callw rfl 26 Try.f26 Try.func26 (by kernel_rfl) (by kernel_rfl) _ _ rfl #[.slice A n c] (by simp [Act.eval]) ?_
            refine (copyFrames_ok wd N A n c xs ⟨hx.out.gr (Gr.trans hg0.out hgS)⟩ (by omega) (by omega)).mono ?_
            rintro e u50 ⟨A51, c52, ys53, rfl, hz54, hd55, hn56⟩
            have g57 := Gr.trans hgS hz54.below
            have hu59 := (Mem.start w6).gr hgS
            have hm58 := (hu59).join hz54
            refine ⟨_, rfl, hK _ _ (fun _ => ⟨Gr.cell g57 y1, Gr.cell g57 y2, Gr.cell g57 y3⟩) ?_⟩
            clear hK K
            try simp only [Act.put, List.getElem_toArray, List.getElem_cons_succ, List.getElem_cons_zero, List.setIfInBounds_toArray, List.set_cons_zero, List.set_cons_succ]
            refine wpAnyU_one 13 (by kernel_rfl) rfl (fun K hK => ?_)
            go_simp
            have g63 := Gr.alloc g57 (.cells [.int .i64 yfn, .int .i64 ypc, .slice yA yn yc].toArray 30)
            have hm62 := hm58.gr (Gr.alloc (Gr.refl u50) (.cells [.int .i64 yfn, .int .i64 ypc, .slice yA yn yc].toArray 30))
            have r64 : RdC (u50.alloc (.cells [.int .i64 yfn, .int .i64 ypc, .slice yA yn yc].toArray 30)) 3 (.slice (some ⟨u50.heap.size, 0, none⟩) 1 1) (cR ⟨yfn, ypc, yA, yn, yc, ysl⟩) := RdC.lit _ (cR ⟨yfn, ypc, yA, yn, yc, ysl⟩) _ 1 3 rfl (by simp [maxLen]) (cR_one _)
            generalize u50.heap.size = a61 at r64 ⊢
            generalize u50.alloc (.cells [.int .i64 yfn, .int .i64 ypc, .slice yA yn yc].toArray 30) = u60 at g63 hm62 r64 ⊢
            refine hK _ _ (fun _ => ⟨Gr.cell g63 y1, Gr.cell g63 y2, Gr.cell g63 y3⟩) ?_
            clear hK K
            try simp only [Act.put, List.getElem_toArray, List.getElem_cons_succ, List.getElem_cons_zero, List.setIfInBounds_toArray, List.set_cons_zero, List.set_cons_succ]
            refine wpAnyU_one 14 (by kernel_rfl) rfl (fun K hK => ?_)
            refine step_appw rfl _ _ _ rfl 30 iR _ 3 40 ty_Rs ri rz0 rz1 rz2 rfl A51 n c52 _ rfl hm62 _ 1 1 (cR ⟨yfn, ypc, yA, yn, yc, ysl⟩) rfl r64 (by unfold maxLen; omega) (by omega) ?_
            intro A66 c67 u65 hm68
            have g69 := hm68.below
            have hf70 := frs_app hm68 (fun y hy => Nat.le_succ_of_le (hn56 y hy)) (hyo.out.gr g69)
            refine hK _ _ (fun _ => ⟨Gr.cell g69 y1, Gr.cell g69 y2, Gr.cell g69 y3⟩) ?_
            clear hK K
            try simp only [Act.put, List.getElem_toArray, List.getElem_cons_succ, List.getElem_cons_zero, List.setIfInBounds_toArray, List.set_cons_zero, List.set_cons_succ]
            refine wpAnyU_one 15 (by kernel_rfl) rfl (fun K hK => ?_)
            refine step_callw rfl 24 Try.f24 Try.func24 (by kernel_rfl) (by kernel_rfl) _ _ rfl #[.slice B1 (n + 1) e1, .slice A66 (n + 1) c67] (by simp [Act.eval]) ?_
            refine (sameFrames_ok u65 B1 A66 (N + 1) (n + 1) e1 c67 z1 (ys53 ++ [⟨yfn, ypc, yA, yn, yc, ysl⟩]) ⟨hf1.out.gr g69⟩ ⟨hf70⟩ ⟨by rw [hz1.out, List.map_append, hd55]; rfl⟩ (by omega) (by omega)).mono ?_
            rintro e u71 ⟨rfl, gz72⟩
            have g73 := Gr.trans g69 gz72
            refine ⟨_, rfl, hK _ _ (fun _ => ⟨Gr.cell g73 y1, Gr.cell g73 y2, Gr.cell g73 y3⟩) ?_⟩
            clear hK K
            try simp only [Act.put, List.getElem_toArray, List.getElem_cons_succ, List.getElem_cons_zero, List.setIfInBounds_toArray, List.set_cons_zero, List.set_cons_succ]
            refine wpAnyU_take 16 (v := ?vv813) rfl (by kernel_rfl) (by kernel_rfl) (fun _ _ _ h => h) ⟨Gr.cell g73 y1, Gr.cell g73 y2, Gr.cell g73 y3⟩ (Or.inl ⟨rfl, ?yv813⟩) ?rv813
            case yv813 =>
              intro W hW
              obtain ⟨hW0, hW1, hW2⟩ := hW
              go_simp
              try with_reducible rfl
            try simp only [Act.put, List.getElem_toArray, List.getElem_cons_succ, List.getElem_cons_zero, List.setIfInBounds_toArray, List.set_cons_zero, List.set_cons_succ]
            refine wpAnyU_one 17 (by kernel_rfl) rfl (fun K hK => ?_)
            go_simp
            refine hK _ _ (fun h => absurd h (by decide)) ?_
            clear hK K
            refine wpAnyU_done (by kernel_rfl) ?_ _
            go_wp2
            try simp only [Act.put, List.getElem_toArray, List.getElem_cons_succ, List.getElem_cons_zero, List.setIfInBounds_toArray, List.set_cons_succ, List.set_cons_zero]
            go_meet
            case rel => exact ⟨rfl, g73⟩
          · go_simp
            have g77 := Gr.alloc hgS (.cells [.int .i64 yfn, .int .i64 ypc, .slice yA yn yc].toArray 30)
            have hm76 := hmS.gr (Gr.alloc (Gr.refl wd) (.cells [.int .i64 yfn, .int .i64 ypc, .slice yA yn yc].toArray 30))
            have r78 : RdC (wd.alloc (.cells [.int .i64 yfn, .int .i64 ypc, .slice yA yn yc].toArray 30)) 3 (.slice (some ⟨wd.heap.size, 0, none⟩) 1 1) (cR ⟨yfn, ypc, yA, yn, yc, ysl⟩) := RdC.lit _ (cR ⟨yfn, ypc, yA, yn, yc, ysl⟩) _ 1 3 rfl (by simp [maxLen]) (cR_one _)
            generalize wd.heap.size = a75 at r78 ⊢
            generalize wd.alloc (.cells [.int .i64 yfn, .int .i64 ypc, .slice yA yn yc].toArray 30) = u74 at g77 hm76 r78 ⊢
            refine hK _ _ (fun _ => ⟨Gr.cell g77 y1, Gr.cell g77 y2, Gr.cell g77 y3⟩) ?_
            clear hK K
            try simp only [Act.put, List.getElem_toArray, List.getElem_cons_succ, List.getElem_cons_zero, List.setIfInBounds_toArray, List.set_cons_zero, List.set_cons_succ]
            refine wpAnyU_one 9 (by kernel_rfl) rfl (fun K hK => ?_)
            refine step_callw rfl 26 Try.f26 Try.func26 (by kernel_rfl) (by kernel_rfl) _ _ rfl #[.slice A n c] (by simp [Act.eval]) ?_
            refine (copyFrames_ok u74 N A n c xs ⟨hx.out.gr (Gr.trans hg0.out g77)⟩ (by omega) (by omega)).mono ?_
            rintro e u79 ⟨A80, c81, ys82, rfl, hz83, hd84, hn85⟩
            have g86 := Gr.trans g77 hz83.below
            have hu88 := (Mem.start w6).gr g77
            have hm87 := (hu88).join hz83
            have r89 := r78.gr hz83.below
            refine ⟨_, rfl, hK _ _ (fun _ => ⟨Gr.cell g86 y1, Gr.cell g86 y2, Gr.cell g86 y3⟩) ?_⟩
            clear hK K
            try simp only [Act.put, List.getElem_toArray, List.getElem_cons_succ, List.getElem_cons_zero, List.setIfInBounds_toArray, List.set_cons_zero, List.set_cons_succ]
            refine wpAnyU_one 14 (by kernel_rfl) rfl (fun K hK => ?_)
            refine step_appw rfl _ _ _ rfl 30 iR _ 3 40 ty_Rs ri rz0 rz1 rz2 rfl A80 n c81 _ rfl hm87 _ 1 1 (cR ⟨yfn, ypc, yA, yn, yc, ysl⟩) rfl r89 (by unfold maxLen; omega) (by omega) ?_
            intro A91 c92 u90 hm93
            have g94 := hm93.below
            have hf95 := frs_app hm93 (fun y hy => Nat.le_succ_of_le (hn85 y hy)) (hyo.out.gr g94)
            refine hK _ _ (fun _ => ⟨Gr.cell g94 y1, Gr.cell g94 y2, Gr.cell g94 y3⟩) ?_
            clear hK K
            try simp only [Act.put, List.getElem_toArray, List.getElem_cons_succ, List.getElem_cons_zero, List.setIfInBounds_toArray, List.set_cons_zero, List.set_cons_succ]
            refine wpAnyU_one 15 (by kernel_rfl) rfl (fun K hK => ?_)
            refine step_callw rfl 24 Try.f24 Try.func24 (by kernel_rfl) (by kernel_rfl) _ _ rfl #[.slice B1 (n + 1) e1, .slice A91 (n + 1) c92] (by simp [Act.eval]) ?_
            refine (sameFrames_ok u90 B1 A91 (N + 1) (n + 1) e1 c92 z1 (ys82 ++ [⟨yfn, ypc, yA, yn, yc, ysl⟩]) ⟨hf1.out.gr g94⟩ ⟨hf95⟩ ⟨by rw [hz1.out, List.map_append, hd84]; rfl⟩ (by omega) (by omega)).mono ?_
            rintro e u96 ⟨rfl, gz97⟩
            have g98 := Gr.trans g94 gz97
            refine ⟨_, rfl, hK _ _ (fun _ => ⟨Gr.cell g98 y1, Gr.cell g98 y2, Gr.cell g98 y3⟩) ?_⟩
            clear hK K
            try simp only [Act.put, List.getElem_toArray, List.getElem_cons_succ, List.getElem_cons_zero, List.setIfInBounds_toArray, List.set_cons_zero, List.set_cons_succ]
            refine wpAnyU_take 16 (v := ?vv814) rfl (by kernel_rfl) (by kernel_rfl) (fun _ _ _ h => h) ⟨Gr.cell g98 y1, Gr.cell g98 y2, Gr.cell g98 y3⟩ (Or.inl ⟨rfl, ?yv814⟩) ?rv814
            case yv814 =>
              intro W hW
              obtain ⟨hW0, hW1, hW2⟩ := hW
              go_simp
              try with_reducible rfl
            try simp only [Act.put, List.getElem_toArray, List.getElem_cons_succ, List.getElem_cons_zero, List.setIfInBounds_toArray, List.set_cons_zero, List.set_cons_succ]
            refine wpAnyU_one 17 (by kernel_rfl) rfl (fun K hK => ?_)
            go_simp
            refine hK _ _ (fun h => absurd h (by decide)) ?_
            clear hK K
            refine wpAnyU_done (by kernel_rfl) ?_ _
            go_wp2
            try simp only [Act.put, List.getElem_toArray, List.getElem_cons_succ, List.getElem_cons_zero, List.setIfInBounds_toArray, List.set_cons_succ, List.set_cons_zero]
            go_meet
            case rel => exact ⟨rfl, g98⟩
        case rest =>
          obtain ⟨rfl, hg9⟩ := hcut
          have hfin := Fact.mk (Gr.trans hg0.out hg9)
          clear hg9
          go_wp2
          go_ret
          exact ⟨rfl, hfin.out⟩
      | false =>
        have q1 : Fact (catchD ⟨kA, kn, kc, consts, fA, fnn, fc, fns⟩ (v1, v2) (xs.map Fr.data ++ [(fn, pc, sl)]) (n + 1) = catchD ⟨kA, kn, kc, consts, fA, fnn, fc, fns⟩ (v1, v2) (xs.map Fr.data) n) := by
          rcases hlaw.out with ⟨d', h, _⟩ | ⟨_, h⟩
          · have := hb2.out; rw [h] at this; cases this
          · exact ⟨h⟩
        rw [q1.out] at hb1 hd1
        clear hb2 hd2 q1 hlaw hf2
        go_upto_region 9 with (fail)
        go_cut [13, 14] (fun s13 s14 W => ∃ (b : Bool) (A9 : Option Addr) (n9 c9 : Nat) (zs : List Fr), s13 = .slice A9 n9 c9 ∧ s14 = .bool b ∧ Gr w6 W ∧ Fact (b = (catchD ⟨kA, kn, kc, consts, fA, fnn, fc, fns⟩ (v1, v2) (xs.map Fr.data) n).isSome) ∧ FrsOk (N + 1) W A9 n9 c9 zs ∧ Fact (zs.map Fr.data = (catchD ⟨kA, kn, kc, consts, fA, fnn, fc, fns⟩ (v1, v2) (xs.map Fr.data) n).getD []))
        case first =>
          have hgS := (Gr.refl w6).drew
          have hmS := (Mem.start w6).drew
          refine wp_region_until (S := fun W => W.cell? ⟨g, 0, none⟩ = some (.slice kA kn kc) ∧ W.cell? ⟨g, 1, none⟩ = some (.slice fA fnn fc) ∧ W.cell? ⟨g + 1, 3, none⟩ = some (.int .i64 v1) ∧ W.cell? ⟨g + 1, 4, none⟩ = some (.int .i64 v2)) 10 (by kernel_rfl) ?_
          generalize w6.drew = wd at hgS hmS ⊢
          refine wpAnyU_take 0 (v := ?vv91) rfl (by kernel_rfl) (by kernel_rfl) (fun _ _ _ h => h) ⟨Gr.cell hgS k1, Gr.cell hgS k2, Gr.cell hgS k3, Gr.cell hgS k4⟩ (Or.inl ⟨rfl, ?yv91⟩) ?rv91
          case yv91 =>
            intro W hW
            obtain ⟨hW0, hW1, hW2, hW3⟩ := hW
            go_simp
            try with_reducible rfl
          try simp only [Act.put, List.getElem_toArray, List.getElem_cons_succ, List.getElem_cons_zero, List.setIfInBounds_toArray, List.set_cons_zero, List.set_cons_succ]
          refine wpAnyU_take 1 (v := ?vv92) rfl (by kernel_rfl) (by kernel_rfl) (fun _ _ _ h => h) ⟨Gr.cell hgS k1, Gr.cell hgS k2, Gr.cell hgS k3, Gr.cell hgS k4⟩ (Or.inl ⟨rfl, ?yv92⟩) ?rv92
          case yv92 =>
            intro W hW
            obtain ⟨hW0, hW1, hW2, hW3⟩ := hW
            go_simp
            try with_reducible rfl
          try simp only [Act.put, List.getElem_toArray, List.getElem_cons_succ, List.getElem_cons_zero, List.setIfInBounds_toArray, List.set_cons_zero, List.set_cons_succ]
          refine wpAnyU_take 3 (v := ?vv93) rfl (by kernel_rfl) (by kernel_rfl) (fun _ _ _ h => h) ⟨Gr.cell hgS k1, Gr.cell hgS k2, Gr.cell hgS k3, Gr.cell hgS k4⟩ (Or.inl ⟨rfl, ?yv93⟩) ?rv93
          case yv93 =>
            intro W hW
            obtain ⟨hW0, hW1, hW2, hW3⟩ := hW
            go_simp
            try with_reducible rfl
          try simp only [Act.put, List.getElem_toArray, List.getElem_cons_succ, List.getElem_cons_zero, List.setIfInBounds_toArray, List.set_cons_zero, List.set_cons_succ]
          refine wpAnyU_take 4 (v := ?vv94) rfl (by kernel_rfl) (by kernel_rfl) (fun _ _ _ h => h) ⟨Gr.cell hgS k1, Gr.cell hgS k2, Gr.cell hgS k3, Gr.cell hgS k4⟩ (Or.inl ⟨rfl, ?yv94⟩) ?rv94
          case yv94 =>
            intro W hW
            obtain ⟨hW0, hW1, hW2, hW3⟩ := hW
            go_simp
            try with_reducible rfl
          try simp only [Act.put, List.getElem_toArray, List.getElem_cons_succ, List.getElem_cons_zero, List.setIfInBounds_toArray, List.set_cons_zero, List.set_cons_succ]
          refine wpAnyU_one 2 (by kernel_rfl) rfl (fun K hK => ?_)
          refine step_callw rfl 26 Try.f26 Try.func26 (by kernel_rfl) (by kernel_rfl) _ _ rfl #[.slice A n c] (by simp [Act.eval]) ?_
          refine (copyFrames_ok wd N A n c xs ⟨hx.out.gr (Gr.trans hg0.out hgS)⟩ (by omega) (by omega)).mono ?_
          rintro e u99 ⟨A100, c101, ys102, rfl, hz103, hd104, hn105⟩
          have g106 := Gr.trans hgS hz103.below
          have hu108 := (Mem.start w6).gr hgS
          have hm107 := (hu108).join hz103
          refine ⟨_, rfl, hK _ _ (fun _ => ⟨Gr.cell g106 k1, Gr.cell g106 k2, Gr.cell g106 k3, Gr.cell g106 k4⟩) ?_⟩
          clear hK K
          try simp only [Act.put, List.getElem_toArray, List.getElem_cons_succ, List.getElem_cons_zero, List.setIfInBounds_toArray, List.set_cons_zero, List.set_cons_succ]
          refine wpAnyU_one 5 (by kernel_rfl) rfl (fun K hK => ?_)
          have hf120 : FrsOk N u99 A100 n c101 ys102 := frs_of (hm107.sub (by rw [List.append_nil]; exact List.Sublist.refl _)) hn105
          refine step_callw rfl 45 Try.f45 Try.func45 (by kernel_rfl) (by kernel_rfl) _ _ rfl #[.agg #[.slice kA kn kc, .slice fA fnn fc], .slice A100 n c101, .agg #[.int .i64 v1, .int .i64 v2]] (by simp [Act.eval]) ?_
          refine (hcat u99 (Gr.trans hg0.out g106) N A100 n c101 ys102 ⟨hf120⟩ (by omega) (by omega)).mono ?_
          rintro e u109 ⟨b110, A111, n112, c113, zs114, rfl, hb118, gz115, hf116, hd117⟩
          have g119 := Gr.trans g106 gz115
          refine ⟨_, rfl, hK _ _ (fun _ => ⟨Gr.cell g119 k1, Gr.cell g119 k2, Gr.cell g119 k3, Gr.cell g119 k4⟩) ?_⟩
          clear hK K
          try simp only [Act.put, List.getElem_toArray, List.getElem_cons_succ, List.getElem_cons_zero, List.setIfInBounds_toArray, List.set_cons_zero, List.set_cons_succ]
          refine wpAnyU_take 6 (v := ?vv95) rfl (by kernel_rfl) (by kernel_rfl) (fun _ _ _ h => h) ⟨Gr.cell g119 k1, Gr.cell g119 k2, Gr.cell g119 k3, Gr.cell g119 k4⟩ (Or.inl ⟨rfl, ?yv95⟩) ?rv95
          case yv95 =>
            intro W hW
            obtain ⟨hW0, hW1, hW2, hW3⟩ := hW
            go_simp
            try with_reducible rfl
          try simp only [Act.put, List.getElem_toArray, List.getElem_cons_succ, List.getElem_cons_zero, List.setIfInBounds_toArray, List.set_cons_zero, List.set_cons_succ]
          refine wpAnyU_take 7 (v := ?vv96) rfl (by kernel_rfl) (by kernel_rfl) (fun _ _ _ h => h) ⟨Gr.cell g119 k1, Gr.cell g119 k2, Gr.cell g119 k3, Gr.cell g119 k4⟩ (Or.inl ⟨rfl, ?yv96⟩) ?rv96
          case yv96 =>
            intro W hW
            obtain ⟨hW0, hW1, hW2, hW3⟩ := hW
            go_simp
            try with_reducible rfl
          try simp only [Act.put, List.getElem_toArray, List.getElem_cons_succ, List.getElem_cons_zero, List.setIfInBounds_toArray, List.set_cons_zero, List.set_cons_succ]
          refine wpAnyU_take 8 (v := ?vv97) rfl (by kernel_rfl) (by kernel_rfl) (fun _ _ _ h => h) ⟨Gr.cell g119 k1, Gr.cell g119 k2, Gr.cell g119 k3, Gr.cell g119 k4⟩ (Or.inl ⟨rfl, ?yv97⟩) ?rv97
          case yv97 =>
            intro W hW
            obtain ⟨hW0, hW1, hW2, hW3⟩ := hW
            go_simp
            try with_reducible rfl
          try simp only [Act.put, List.getElem_toArray, List.getElem_cons_succ, List.getElem_cons_zero, List.setIfInBounds_toArray, List.set_cons_zero, List.set_cons_succ]
          refine wpAnyU_take 9 (v := ?vv98) rfl (by kernel_rfl) (by kernel_rfl) (fun _ _ _ h => h) ⟨Gr.cell g119 k1, Gr.cell g119 k2, Gr.cell g119 k3, Gr.cell g119 k4⟩ (Or.inl ⟨rfl, ?yv98⟩) ?rv98
          case yv98 =>
            intro W hW
            obtain ⟨hW0, hW1, hW2, hW3⟩ := hW
            go_simp
            try with_reducible rfl
          try simp only [Act.put, List.getElem_toArray, List.getElem_cons_succ, List.getElem_cons_zero, List.setIfInBounds_toArray, List.set_cons_zero, List.set_cons_succ]
          refine wpAnyU_one 10 (by kernel_rfl) rfl (fun K hK => ?_)
          go_simp
          refine hK _ _ (fun h => absurd h (by decide)) ?_
          clear hK K
          refine wpAnyU_done (by kernel_rfl) ?_ _
          go_wp2
          try simp only [Act.put, List.getElem_toArray, List.getElem_cons_succ, List.getElem_cons_zero, List.setIfInBounds_toArray, List.set_cons_succ, List.set_cons_zero]
          go_meet
          case rel => exact ⟨_, _, _, _, _, rfl, rfl, g119, ⟨hb118.out.trans (by rw [hd104])⟩, hf116, ⟨hd117.out.trans (by rw [hd104])⟩⟩
        case rest =>
          obtain ⟨w7, rfl⟩ : ∃ w7 : World, w7 = wc := ⟨_, rfl⟩
          obtain ⟨b3, B3, n3, e3, z3, rfl, rfl, hg9, hb3, hf3, hd3⟩ := hcut
          have hf3 := Fact.mk hf3
          have hf1 := Fact.mk (hf1.out.gr hg9)
          have hg0 := Fact.mk (Gr.trans hg0.out hg9)
          have k1 := Gr.cell hg9 k1
          have k2 := Gr.cell hg9 k2
          have k3 := Gr.cell hg9 k3
          have k4 := Gr.cell hg9 k4
          clear hg9
          go_wp2_with fail
          refine (hcat w7 hg0.out N none 0 0 [] ⟨⟨RdC.nil _ _, by simp⟩⟩ (by omega) (by omega)).mono ?_
          rintro e w8 ⟨b4, B4, n4, e4, z4, rfl, hb4, hg9, hf4, hd4⟩
          obtain rfl : b4 = false := hb4.out
          obtain rfl : n4 = 0 := by have h1 := hf4.len; have h2 := hd4.out; simp [catchD] at h2; subst h2; exact h1.symm
          have hf3 := Fact.mk (hf3.out.gr hg9)
          have hf1 := Fact.mk (hf1.out.gr hg9)
          have hg0 := Fact.mk (Gr.trans hg0.out hg9)
          obtain rfl : b3 = b1 := hb3.out.trans hb1.out.symm
          have hzz : Fact (z1.map Fr.data = z3.map Fr.data) := ⟨hd1.out.trans hd3.out.symm⟩
          obtain rfl : n3 = n1 := by have h1 := hf1.out.len; have h3 := hf3.out.len; have h2 := congrArg List.length hzz.out; simp at h2; omega
          have hn1 : n3 ≤ 16777216 := by have h1 := hf1.out.len; have h2 := congrArg List.length hd1.out; have h3 := catchD_len ⟨kA, kn, kc, consts, fA, fnn, fc, fns⟩ (v1, v2) (xs.map Fr.data) n; simp at h2; omega
          clear hg9 hb4 hf4 hd4 hb3 hb1 hd1 hd3 hcat k1 k2 k3 k4
          cases b3 <;>
          · go_wp2_with fail
            refine (sameFrames_ok w8 B1 B3 (N + 1) n3 e1 e3 z1 z3 hf1 hf3 hzz hn1 (by omega)).mono ?_
            rintro e w9 ⟨rfl, hg9⟩
            have hfin := Fact.mk (Gr.trans hg0.out hg9)
            clear hg9
            go_wp2
            go_ret
            exact ⟨rfl, hfin.out⟩
theorem list7 {α : Type} {l : List α} (h : l.length = 7) : ∃ a b c d e f g, l = [a, b, c, d, e, f, g] := by
  match l, h with
  | [a, b, c, d, e, f, g], _ => exact ⟨a, b, c, d, e, f, g, rfl⟩
theorem fl_T : fieldsOf Try.prog 78 = some [(30, 0), (41, 3), (41, 5)] := by kernel_rfl
theorem co_T : Try.prog.cellsOf 78 = 7 := by kernel_rfl
/-- What is thrown, as it came in. -/
theorem open_thrown {H : Type} {enc : TypeId × Value → H} {w : World} {v : Value} {d : DataW H} {p : List MemPlace} {base : Nat} (h : DataW.Trod enc Try.prog w 0 (fun _ => true) true 78 v d p) (ok : Value.okWide Try.prog w .any base 78 v) :
    ∃ (fn pc : Int) (B : Option Addr) (m k : Nat) (sl : List V2) (v1 v2 o1 o2 : Int), v = .agg #[.int .i64 fn, .int .i64 pc, .slice B m k, .int .i64 v1, .int .i64 v2, .int .i64 o1, .int .i64 o2] ∧ RdC w 2 (.slice B m k) (fV sl) ∧ m ≤ Rows.uptoBulk d := by
  obtain ⟨fs, hfs⟩ := struct_of fl_T
  obtain ⟨cs, rfl, hcs⟩ := okWide_struct hfs ok
  obtain ⟨fuel, hfu⟩ := h
  obtain ⟨xs, n, rfl, hl, hx, hi⟩ := open_struct fl_T hfu
  rw [co_T] at hl
  obtain ⟨a, b, c, x3, x4, x5, x6, e⟩ := list7 hl
  rw [e] at hi
  obtain ⟨⟨d1, p1⟩, ⟨d2, p2⟩, ⟨d3, p3⟩, rfl⟩ := list3 hx
  have h1 := hi 0 _ _ rfl
  have h2 := hi 1 _ _ rfl
  have h3 := hi 2 _ _ rfl
  rw [co_R] at h1
  rw [co_V] at h2 h3
  obtain ⟨x, e1, hx1, hx2⟩ := hel_R _ _ _ _ h1
  obtain ⟨y, e2, _⟩ := hel_V _ _ _ _ h2
  obtain ⟨z, e3, _⟩ := hel_V _ _ _ _ h3
  obtain ⟨fn, pc, B, m, k, sl⟩ := x
  obtain ⟨y1, y2⟩ := y
  obtain ⟨z1, z2⟩ := z
  have e1 : [a, b, c] = [.int .i64 fn, .int .i64 pc, .slice B m k] := e1
  have e2 : [x3, x4] = [.int .i64 y1, .int .i64 y2] := e2
  have e3 : [x5, x6] = [.int .i64 z1, .int .i64 z2] := e3
  have q := bulk_part (d := d1) (xs := [d1, d2, d3]) (by simp)
  refine ⟨fn, pc, B, m, k, sl, y1, y2, z1, z2, ?_, hx1.1, by simp at q hx2 ⊢; omega⟩
  have : cs.toList = [.int .i64 fn, .int .i64 pc, .slice B m k, .int .i64 y1, .int .i64 y2, .int .i64 z1, .int .i64 z2] := by
    have h7 : cs.toList = [a, b, c, x3, x4, x5, x6] := by simpa [Value.cells] using e
    simp only [List.cons.injEq, and_true] at e1 e2 e3
    rw [h7, e1.1, e1.2.1, e1.2.2, e2.1, e2.2, e3.1, e3.2]
  congr 1
  exact Array.toList_inj.1 (by simpa using this)
theorem framesUnwind_ok (H : Type) (enc : TypeId × Value → H) (W : World) (base : Nat)
    (v0 : Value) (d0 : DataW H) (p0 : List MemPlace) (h0 : DataW.Trod enc Try.prog W 0 (fun _ => true) true 25 v0 d0 p0) (ok0 : Value.okWide Try.prog W .any base 25 v0)
    (v1 : Value) (d1 : DataW H) (p1 : List MemPlace) (h1 : DataW.Trod enc Try.prog W 0 (fun _ => true) true 39 v1 d1 p1) (ok1 : Value.okWide Try.prog W .any base 39 v1)
    (v2 : Value) (d2 : DataW H) (p2 : List MemPlace) (h2 : DataW.Trod enc Try.prog W 0 (fun _ => true) true 78 v2 d2 p2) (ok2 : Value.okWide Try.prog W .any base 78 v2) (hk : Rows.uptoSmall H ([d0, d1, d2] ++ []) = true) :
    Calls Try.prog 8 #[v0, v1, v2] W fun e w' => e = .returned (.bool true) ∧ Gr W w' := by
  have hb := bulk_small hk
  simp only [Rows.uptoBulkAll, List.cons_append, List.nil_append] at hb
  obtain ⟨p, rfl, hp, _⟩ := open_prog h0 ok0 (by omega)
  obtain ⟨A, n, c, xs, rfl, hx, hl⟩ := open_frames h1 ok1
  obtain ⟨fn, pc, B, m, k, sl, y1, y2, z1, z2, rfl, hf, hm⟩ := open_thrown h2 ok2
  exact unwind_walk W p ⟨hp⟩ 1048576 A n c xs ⟨⟨hx.rd, fun f hf => ⟨(hx.each f hf).1, by have := (hx.each f hf).2; omega⟩⟩⟩ (by omega) (by omega) fn pc B m k sl ⟨hf⟩ (by omega) y1 y2 z1 z2
end Go.Proofs.Ytgflfpepfpekhaa
