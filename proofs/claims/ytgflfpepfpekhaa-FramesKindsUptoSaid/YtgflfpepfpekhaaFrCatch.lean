import Derived.Test.YtgflfpepfpekhaaFrTakes
import Derived.Test.YtgflfpepfpekhaaFrRet
namespace Go.Proofs.Ytgflfpepfpekhaa
open Go.RowKit Go.Mm
set_option maxHeartbeats 4000000
set_option maxRecDepth 100000
theorem ty_int2 : Try.prog.underlying 3 = some (.int .i64) := by kernel_rfl
def d0 : FrD := (0, 0, [])
/-- What is caught, by the lowest n frames. -/
def catchD (p : Pg) (v : V2) (D : List FrD) : Nat → Option (List FrD)
  | 0 => none
  | n + 1 => match takesG (fnAt p (D.getD n d0).1) (D.getD n d0).2.1 (D.getD n d0).2.2.length with
    | some (t, st) => some (D.take n ++ [((D.getD n d0).1, t, (D.getD n d0).2.2.take st ++ [v])])
    | none => catchD p v D n
def Frames (w w' : World) (N : Nat) (D : List FrD) (e : Ending) : Prop :=
  ∃ A n c ys, e = .returned (.tuple #[.slice A n c, .bool true]) ∧ Mem w w' (Own 3 (.slice A n c) (fR ys) :: slots ys) ∧ ys.map Fr.data = D ∧ ∀ y, y ∈ ys → y.n ≤ N
def CatchR (w w' : World) (N : Nat) (r : Option (List FrD)) (e : Ending) : Prop :=
  match r with
  | none => e = .returned (.tuple #[.slice none 0 0, .bool false]) ∧ Gr w w'
  | some D => Frames w w' N D e
theorem data_getD (xs : List Fr) (k : Nat) : (xs.map Fr.data).getD k d0 = (xs.getD k fr0).data := by
  rw [List.getD_eq_getElem?_getD, List.getD_eq_getElem?_getD, List.getElem?_map]
  cases xs[k]? <;> rfl
theorem catch_ok (w : World) (p : Pg) (hp : Fact (PgOk w p)) (N : Nat) (A : Option Addr) (n c : Nat) (xs : List Fr) (hx : Fact (FrsOk N w A n c xs)) (v : V2) (hn : n ≤ 1048577) (hN : N ≤ 1999999) :
    Calls Try.prog 45 #[vP p, .slice A n c, .agg (cV v).toArray] w fun e w' => CatchR w w' (N + 1) (catchD p v (xs.map Fr.data) n) e := by
  have hl := Fact.mk hx.out.len
  have htk := fun (f : Fr) (hf : f.n ≤ 2000000) (W : World) (hW : Gr w W) => takes_ok W p ⟨hp.out.gr hW⟩ f hf
  obtain ⟨v1, v2⟩ := v
  obtain ⟨kA, kn, kc, consts, fA, fnn, fc, fns⟩ := p
  simp only [vP, cV] at htk ⊢
  go_enter Try.func45, Try.ntmps45
  go_upto_region 1 with (fail)
  have hm := (((Mem.start w).alloc (.cells [.slice kA kn kc, .slice fA fnn fc].toArray 25)).alloc (.cells [.int .i64 v1, .int .i64 v2].toArray 41))
  simp only [World.size_alloc] at hm
  generalize hgX : w.heap.size = g at hm ⊢
  generalize hwX : ((w.alloc (.cells [.slice kA kn kc, .slice fA fnn fc].toArray 25)).alloc (.cells [.int .i64 v1, .int .i64 v2].toArray 41)) = w1 at hm
  try refine wp_world hwX ?_
  clear hwX hgX
  go_wp2
  go_loopw [8] (fun i w' => ∃ (k : Nat), i = .int .i64 ((k : Int) - 1) ∧ k ≤ n ∧ Fact (catchD ⟨kA, kn, kc, consts, fA, fnn, fc, fns⟩ (v1, v2) (xs.map Fr.data) n = catchD ⟨kA, kn, kc, consts, fA, fnn, fc, fns⟩ (v1, v2) (xs.map Fr.data) k) ∧ Mem w w' [Blk (g + 1) (.cells [.int .i64 v1, .int .i64 v2].toArray 41), Blk g (.cells [.slice kA kn kc, .slice fA fnn fc].toArray 25)]) (fun i _ => ((intOf i) + 1).toNat)
  case atStart => exact ⟨n, by go_num, by omega, ⟨rfl⟩, hm⟩
  case round =>
    clear hm
    obtain ⟨k, rfl, hk, hc, hm⟩ := hrel
    cases k with
    | zero =>
      go_wp2
      go_ret2
      rw [hc.out]
      exact ⟨rfl, hm.below⟩
    | succ k =>
      have e0 : ((k + 1 : Nat) : Int) - 1 = (k : Int) := by omega
      rw [e0]
      clear e0
      have hge : ((k : Int) ≥ 0) = True := by simp
      obtain ⟨b, o, rfl, r1, hok, _⟩ := hx.out.at k (by omega)
      have hxe : ∃ x, Fact (xs.getD k fr0 = x) := ⟨_, ⟨rfl⟩⟩
      obtain ⟨x, hxe⟩ := hxe
      rw [hxe.out] at r1 hok
      have r0 := Fact.mk r1
      have r1 := rng_gr r1 hm.below
      have hxn := hok.2
      have hkc : k ≤ c := by obtain ⟨_, _, _, e, _, h, _⟩ := hx.out.rd; cases e; omega
      have hxl := Fact.mk hok.len
      have htx := fun (W : World) (hW : Gr w W) => htk x (by omega) W hW
      obtain ⟨xfn, xpc, xA, xn, xc, xsl⟩ := x
      simp only [cR] at htx r1 hxl hxn
      have hcd : Fact (catchD ⟨kA, kn, kc, consts, fA, fnn, fc, fns⟩ (v1, v2) (xs.map Fr.data) (k + 1) = match takesG (fnAt ⟨kA, kn, kc, consts, fA, fnn, fc, fns⟩ xfn) xpc xn with
        | some (t, st) => some ((xs.map Fr.data).take k ++ [(xfn, t, xsl.take st ++ [(v1, v2)])])
        | none => catchD ⟨kA, kn, kc, consts, fA, fnn, fc, fns⟩ (v1, v2) (xs.map Fr.data) k) := ⟨by
        rw [catchD, data_getD, hxe.out]; simp only [Fr.data, hxl.out]⟩
      have c1 := hm.cell m1 0 rfl
      have c2 := hm.cell m1 1 rfl
      have x1 : wr.cell? ⟨b, o + k * 3, none⟩ = some (.int .i64 xfn) := r1 0 _ rfl
      have x2 : wr.cell? ⟨b, o + k * 3 + 1, none⟩ = some (.int .i64 xpc) := r1 1 _ rfl
      have x3 : wr.cell? ⟨b, o + k * 3 + 2, none⟩ = some (.slice xA xn xc) := r1 2 _ rfl
      have hkn : k < n := by omega
      have hb := hm.below
      have hbl : b < wr.heap.size := World.block_lt_of_cell? wr _ x1
      have hgl : g < wr.heap.size := World.block_lt_of_cell? wr _ c1
      clear r1 htk
      cases hT : takesG (fnAt ⟨kA, kn, kc, consts, fA, fnn, fc, fns⟩ xfn) xpc xn with
      | none =>
        rw [hT] at hcd
        simp only [hT] at htx
        go_upto_region 4 with (fail)
        go_cut [9, 10, 11] (fun _ _ s11 W => s11 = .bool false ∧ Gr wr W)
        case first =>
          go_region_held3 (fun w' => Gr wr w' ∧ w'.cell? ⟨g, 0, none⟩ = some (.slice kA kn kc) ∧ w'.cell? ⟨g, 1, none⟩ = some (.slice fA fnn fc) ∧ w'.cell? ⟨b, o + k * 3, none⟩ = some (.int .i64 xfn) ∧ w'.cell? ⟨b, o + k * 3 + 1, none⟩ = some (.int .i64 xpc) ∧ w'.cell? ⟨b, o + k * 3 + 2, none⟩ = some (.slice xA xn xc)) ((refine (fun hG => ⟨hG, hG.cell c1, hG.cell c2, hG.cell x1, hG.cell x2, hG.cell x3⟩ : Gr wr _ → _) ?_; repeat (first | with_reducible exact Gr.refl _ | assumption | with_reducible refine Gr.setc ?_ (Nat.le_refl _) _ | with_reducible refine Gr.drew ?_ | with_reducible refine Gr.alloc ?_ _))) ((go_at_call 85; refine (htx _ (by repeat (first | with_reducible exact hb | with_reducible refine Gr.drew ?_ | with_reducible refine Gr.alloc ?_ _))).mono ?_; rintro e w5 ⟨⟨⟨y1, y2, y3, y4⟩, rfl⟩, hg⟩; simp only [cH]; have hgr : Gr wr w5 := Gr.trans (by repeat (first | with_reducible exact Gr.refl _ | with_reducible refine Gr.drew ?_ | with_reducible refine Gr.alloc ?_ _)) hg; try (have qh := hg.heap (k := wr.heap.size) (o := .cells (cH h0).toArray 145) (by first | exact heap_alloc_new wr _ | exact heap_alloc_new wr.drew _); obtain ⟨q0, f0⟩ := blk_cell (u := .int .i64 0) qh 0 rfl; obtain ⟨q1, f1⟩ := blk_cell (u := .int .i64 0) qh 1 rfl; obtain ⟨q2, f2⟩ := blk_cell (u := .int .i64 0) qh 2 rfl; obtain ⟨q3, f3⟩ := blk_cell (u := .int .i64 0) qh 3 rfl)))
          all_goals
            go_wp2
            (try simp only [Act.put, List.getElem_toArray, List.getElem_cons_succ, List.getElem_cons_zero, List.setIfInBounds_toArray, List.set_cons_succ, List.set_cons_zero])
            go_meet
            case rel => exact ⟨rfl, by repeat (first | with_reducible exact hgr | with_reducible refine Gr.setc ?_ (Nat.le_refl _) _ | with_reducible refine Gr.drew ?_ | with_reducible refine Gr.alloc ?_ _)⟩
        case rest =>
          obtain ⟨rfl, hgr⟩ := hcut
          go_wp2
          go_roundw
          case rel => exact ⟨k, rfl, by omega, ⟨hc.out.trans hcd.out⟩, hm.gr hgr⟩
          case measure => simp [intOf]
      | some ts =>
        obtain ⟨t, st⟩ := ts
        rw [hT] at hcd
        simp only [hT] at htx
        go_upto_region 4 with (fail)
        go_cut [9, 10, 11] (fun s9 s10 s11 W => ∃ (g9 : Nat) (y : H4), s9 = .pointer (some ⟨g9, 0, none⟩) ∧ s10 = .int .i64 st ∧ s11 = .bool true ∧ y.2.2.1 = t ∧ st ≤ xn ∧ Mem w W [Blk g9 (.cells (cH y).toArray 145), Blk (g + 1) (.cells [.int .i64 v1, .int .i64 v2].toArray 41), Blk g (.cells [.slice kA kn kc, .slice fA fnn fc].toArray 25)])
        case first =>
          go_region_held3 (fun w' => Gr wr w' ∧ w'.cell? ⟨g, 0, none⟩ = some (.slice kA kn kc) ∧ w'.cell? ⟨g, 1, none⟩ = some (.slice fA fnn fc) ∧ w'.cell? ⟨b, o + k * 3, none⟩ = some (.int .i64 xfn) ∧ w'.cell? ⟨b, o + k * 3 + 1, none⟩ = some (.int .i64 xpc) ∧ w'.cell? ⟨b, o + k * 3 + 2, none⟩ = some (.slice xA xn xc)) ((refine (fun hG => ⟨hG, hG.cell c1, hG.cell c2, hG.cell x1, hG.cell x2, hG.cell x3⟩ : Gr wr _ → _) ?_; repeat (first | with_reducible exact Gr.refl _ | assumption | with_reducible refine Gr.setc ?_ (Nat.le_refl _) _ | with_reducible refine Gr.drew ?_ | with_reducible refine Gr.alloc ?_ _))) ((go_at_call 85; refine (htx _ (by repeat (first | with_reducible exact hb | with_reducible refine Gr.drew ?_ | with_reducible refine Gr.alloc ?_ _))).mono ?_; rintro e w5 ⟨⟨⟨y1, y2, y3, y4⟩, rfl, rfl, hst⟩, hg⟩; simp only [cH]; have hgr : Gr wr w5 := Gr.trans (by repeat (first | with_reducible exact Gr.refl _ | with_reducible refine Gr.drew ?_ | with_reducible refine Gr.alloc ?_ _)) hg; have hmB := hm.gr hgr; try (have qh := hg.heap (k := wr.heap.size) (o := .cells (cH h0).toArray 145) (by first | exact heap_alloc_new wr _ | exact heap_alloc_new wr.drew _); have hmA := (((((hm.alloc (.cells (cH h0).toArray 145)).drew.gr hg).set 0 (.int .i64 y1)).set 1 (.int .i64 y2)).set 2 (.int .i64 y3)).set 3 (.int .i64 y4); obtain ⟨q0, f0⟩ := blk_cell (u := .int .i64 0) qh 0 rfl; obtain ⟨q1, f1⟩ := blk_cell (u := .int .i64 0) qh 1 rfl; obtain ⟨q2, f2⟩ := blk_cell (u := .int .i64 0) qh 2 rfl; obtain ⟨q3, f3⟩ := blk_cell (u := .int .i64 0) qh 3 rfl)))
          all_goals
            go_wp2
            try simp only [Act.put, List.getElem_toArray, List.getElem_cons_succ, List.getElem_cons_zero, List.setIfInBounds_toArray, List.set_cons_succ, List.set_cons_zero]
            go_meet
            case rel => first
              | exact ⟨_, (y1, y2, y3, y4), rfl, rfl, rfl, rfl, hst, hmA⟩
              | exact ⟨_, (y1, y2, y3, y4), rfl, rfl, rfl, rfl, hst, hmB.alloc _⟩
              | exact ⟨_, (y1, y2, y3, y4), rfl, rfl, rfl, rfl, hst, hmA.drew⟩
              | exact ⟨_, (y1, y2, y3, y4), rfl, rfl, rfl, rfl, hst, (hmB.alloc _).drew⟩
        case rest =>
          obtain ⟨g9, y, rfl, rfl, rfl, hy, hst, hm2⟩ := hcut
          obtain ⟨y1, y2, y3, y4⟩ := y
          simp only at hy
          subst hy
          clear hm hb c1 c2 x1 x2 x3 hbl hgl
          go_wp2_with fail
          refine (copied_ok wc N (some ⟨b, o, none⟩) k c (xs.take k) ⟨(hx.out.pre k (by omega)).gr hm2.below⟩ (by omega) (by omega)).mono ?_
          rintro e w6 ⟨gC, ys, rfl, hm3, hyd, hyn⟩
          have hm4 := hm2.join hm3
          simp only [List.cons_append, List.append_assoc] at hm4
          clear hm2 hm3
          have r2 := rng_gr r0.out hm4.below
          have hx1 : w6.cell? ⟨b, o + k * 3, none⟩ = some (.int .i64 xfn) := r2 0 _ rfl
          have hx3 : w6.cell? ⟨b, o + k * 3 + 2, none⟩ = some (.slice xA xn xc) := r2 2 _ rfl
          have hy3 : w6.cell? ⟨g9, 2, none⟩ = some (.int .i64 y3) := hm4.cell (t := 145) (fr := (0, 0)) (cs := cH (y1, y2, y3, y4)) (by simp) 2 rfl
          have hv1 : w6.cell? ⟨g + 1, 0, none⟩ = some (.int .i64 v1) := hm4.cell (t := 41) (fr := (0, 0)) (cs := [.int .i64 v1, .int .i64 v2]) (by simp) 0 rfl
          have hv2 : w6.cell? ⟨g + 1, 1, none⟩ = some (.int .i64 v2) := hm4.cell (t := 41) (fr := (0, 0)) (cs := [.int .i64 v1, .int .i64 v2]) (by simp) 1 rfl
          have hrs : Fact (RdC w6 2 (.slice xA xn xc) (fV xsl)) := ⟨(hok.1).gr hm4.below⟩
          clear r2
          go_upto_region 7 with (fail)
          go_cut [13] (fun s13 W => ∃ (g13 : Nat) (A7 : Option Addr) (c7 : Nat), s13 = .pointer (some ⟨g13, 0, none⟩) ∧ Mem w W (Blk g13 (.cells [.int .i64 xfn, .int .i64 y3, .slice A7 (st + 1) c7].toArray 30) :: Own 2 (.slice A7 (st + 1) c7) (fV (xsl.take st ++ [(v1, v2)])) :: Own 3 (.slice (some ⟨gC, 0, none⟩) k k) (fR ys) :: (slots ys ++ [Blk g9 (.cells (cH (y1, y2, y3, y4)).toArray 145), Blk (g + 1) (.cells [.int .i64 v1, .int .i64 v2].toArray 41), Blk g (.cells [.slice kA kn kc, .slice fA fnn fc].toArray 25)])))
          case first =>
            have k1 := Gr.cell (Gr.refl w6).drew hx1
            have k2 := Gr.cell (Gr.refl w6).drew hx3
            have k3 := Gr.cell (Gr.refl w6).drew hy3
            have k4 := Gr.cell (Gr.refl w6).drew hv1
            have k5 := Gr.cell (Gr.refl w6).drew hv2
            have hS : w6.drew.cell? ⟨b, o + k * 3, none⟩ = some (.int .i64 xfn) ∧ w6.drew.cell? ⟨b, o + k * 3 + 2, none⟩ = some (.slice xA xn xc) ∧ w6.drew.cell? ⟨g9, 2, none⟩ = some (.int .i64 y3) ∧ w6.drew.cell? ⟨g + 1, 0, none⟩ = some (.int .i64 v1) ∧ w6.drew.cell? ⟨g + 1, 1, none⟩ = some (.int .i64 v2) := ⟨k1, k2, k3, k4, k5⟩
            refine wp_region_until (S := fun W => W.cell? ⟨b, o + k * 3, none⟩ = some (.int .i64 xfn) ∧ W.cell? ⟨b, o + k * 3 + 2, none⟩ = some (.slice xA xn xc) ∧ W.cell? ⟨g9, 2, none⟩ = some (.int .i64 y3) ∧ W.cell? ⟨g + 1, 0, none⟩ = some (.int .i64 v1) ∧ W.cell? ⟨g + 1, 1, none⟩ = some (.int .i64 v2)) 17 (by kernel_rfl) ?_
            refine wpAnyU_take 0 (v := ?vb0) rfl (by kernel_rfl) (by kernel_rfl) (fun _ _ _ h => h) hS (Or.inl ⟨rfl, ?yb0⟩) ?rb0
            case yb0 =>
              intro W hW
              obtain ⟨hW0, hW1, hW2, hW3, hW4⟩ := hW
              go_simp
              try with_reducible rfl
            try simp only [Act.put, List.setIfInBounds_toArray, List.set_cons_zero, List.set_cons_succ]
            refine wpAnyU_take 1 (v := ?vb1) rfl (by kernel_rfl) (by kernel_rfl) (fun _ _ _ h => h) hS (Or.inl ⟨rfl, ?yb1⟩) ?rb1
            case yb1 =>
              intro W hW
              obtain ⟨hW0, hW1, hW2, hW3, hW4⟩ := hW
              go_simp
              try with_reducible rfl
            try simp only [Act.put, List.setIfInBounds_toArray, List.set_cons_zero, List.set_cons_succ]
            refine wpAnyU_take 2 (v := ?vb2) rfl (by kernel_rfl) (by kernel_rfl) (fun _ _ _ h => h) hS (Or.inl ⟨rfl, ?yb2⟩) ?rb2
            case yb2 =>
              intro W hW
              obtain ⟨hW0, hW1, hW2, hW3, hW4⟩ := hW
              go_simp
              try with_reducible rfl
            try simp only [Act.put, List.setIfInBounds_toArray, List.set_cons_zero, List.set_cons_succ]
            refine wpAnyU_take 3 (v := ?vb3) rfl (by kernel_rfl) (by kernel_rfl) (fun _ _ _ h => h) hS (Or.inl ⟨rfl, ?yb3⟩) ?rb3
            case yb3 =>
              intro W hW
              obtain ⟨hW0, hW1, hW2, hW3, hW4⟩ := hW
              go_simp
              try with_reducible rfl
            try simp only [Act.put, List.setIfInBounds_toArray, List.set_cons_zero, List.set_cons_succ]
            refine wpAnyU_take 4 (v := ?vb4) rfl (by kernel_rfl) (by kernel_rfl) (fun _ _ _ h => h) hS (Or.inl ⟨rfl, ?yb4⟩) ?rb4
            case yb4 =>
              intro W hW
              obtain ⟨hW0, hW1, hW2, hW3, hW4⟩ := hW
              go_simp
              try with_reducible rfl
            try simp only [Act.put, List.setIfInBounds_toArray, List.set_cons_zero, List.set_cons_succ]
            refine wpAnyU_take 5 (v := ?vb5) rfl (by kernel_rfl) (by kernel_rfl) (fun _ _ _ h => h) hS (Or.inl ⟨rfl, ?yb5⟩) ?rb5
            case yb5 =>
              intro W hW
              obtain ⟨hW0, hW1, hW2, hW3, hW4⟩ := hW
              go_simp
              try with_reducible rfl
            try simp only [Act.put, List.setIfInBounds_toArray, List.set_cons_zero, List.set_cons_succ]
            refine wpAnyU_take 6 (v := ?vb6) rfl (by kernel_rfl) (by kernel_rfl) (fun _ _ _ h => h) hS (Or.inl ⟨rfl, ?yb6⟩) ?rb6
            case yb6 =>
              intro W hW
              obtain ⟨hW0, hW1, hW2, hW3, hW4⟩ := hW
              go_simp
              try with_reducible rfl
            try simp only [Act.put, List.setIfInBounds_toArray, List.set_cons_zero, List.set_cons_succ]
            refine wpAnyU_take 7 (v := ?vb7) rfl (by kernel_rfl) (by kernel_rfl) (fun _ _ _ h => h) hS (Or.inl ⟨rfl, ?yb7⟩) ?rb7
            case yb7 =>
              intro W hW
              obtain ⟨hW0, hW1, hW2, hW3, hW4⟩ := hW
              go_simp
              try with_reducible rfl
            try simp only [Act.put, List.setIfInBounds_toArray, List.set_cons_zero, List.set_cons_succ]
            refine wpAnyU_take 8 (v := ?vb8) rfl (by kernel_rfl) (by kernel_rfl) (fun _ _ _ h => h) hS (Or.inl ⟨rfl, ?yb8⟩) ?rb8
            case yb8 =>
              intro W hW
              obtain ⟨hW0, hW1, hW2, hW3, hW4⟩ := hW
              go_simp
              try with_reducible rfl
            try simp only [Act.put, List.setIfInBounds_toArray, List.set_cons_zero, List.set_cons_succ]
            refine wpAnyU_take 9 (v := ?vb9) rfl (by kernel_rfl) (by kernel_rfl) (fun _ _ _ h => h) hS (Or.inl ⟨rfl, ?yb9⟩) ?rb9
            case yb9 =>
              intro W hW
              obtain ⟨hW0, hW1, hW2, hW3, hW4⟩ := hW
              go_simp
              try with_reducible rfl
            try simp only [Act.put, List.setIfInBounds_toArray, List.set_cons_zero, List.set_cons_succ]
            refine wpAnyU_take 10 (v := ?vb10) rfl (by kernel_rfl) (by kernel_rfl) (fun _ _ _ h => h) hS (Or.inl ⟨rfl, ?yb10⟩) ?rb10
            case yb10 =>
              intro W hW
              obtain ⟨hW0, hW1, hW2, hW3, hW4⟩ := hW
              go_simp
              try with_reducible rfl
            try simp only [Act.put, List.setIfInBounds_toArray, List.set_cons_zero, List.set_cons_succ]
            refine wpAnyU_take 11 (v := ?vb11) rfl (by kernel_rfl) (by kernel_rfl) (fun _ _ _ h => h) hS (Or.inl ⟨rfl, ?yb11⟩) ?rb11
            case yb11 =>
              intro W hW
              obtain ⟨hW0, hW1, hW2, hW3, hW4⟩ := hW
              go_simp
              try with_reducible rfl
            try simp only [Act.put, List.setIfInBounds_toArray, List.set_cons_zero, List.set_cons_succ]
            refine wpAnyU_take 12 (v := ?vb12) rfl (by kernel_rfl) (by kernel_rfl) (fun _ _ _ h => h) hS (Or.inl ⟨rfl, ?yb12⟩) ?rb12
            case yb12 =>
              intro W hW
              obtain ⟨hW0, hW1, hW2, hW3, hW4⟩ := hW
              go_simp
              try with_reducible rfl
            try simp only [Act.put, List.setIfInBounds_toArray, List.set_cons_zero, List.set_cons_succ]
            refine wpAnyU_take 13 (v := ?vb13) rfl (by kernel_rfl) (by kernel_rfl) (fun _ _ _ h => h) hS (Or.inl ⟨rfl, ?yb13⟩) ?rb13
            case yb13 =>
              intro W hW
              obtain ⟨hW0, hW1, hW2, hW3, hW4⟩ := hW
              go_simp
              try with_reducible rfl
            try simp only [Act.put, List.setIfInBounds_toArray, List.set_cons_zero, List.set_cons_succ]
            refine wpAnyU_two 14 16 (by kernel_rfl) rfl rfl (fun K hK => ?_) (fun K hK => ?_)
            · refine step_call rfl 80 Try.f80 Try.func80 (by kernel_rfl) (by kernel_rfl) _ _ rfl #[.slice xA xn xc, .int .i64 st, .agg #[.int .i64 v1, .int .i64 v2]] (by simp [Act.eval]) ?_
              refine (laid_ok w6.drew xA xn xc xsl ⟨hrs.out.gr (Gr.refl _).drew⟩ st _ rfl hst (by omega) (v1, v2)).mono ?_
              rintro e w7 ⟨A7, c7, rfl, hn7⟩
              have hS7 : w7.cell? ⟨b, o + k * 3, none⟩ = some (.int .i64 xfn) ∧ w7.cell? ⟨b, o + k * 3 + 2, none⟩ = some (.slice xA xn xc) ∧ w7.cell? ⟨g9, 2, none⟩ = some (.int .i64 y3) ∧ w7.cell? ⟨g + 1, 0, none⟩ = some (.int .i64 v1) ∧ w7.cell? ⟨g + 1, 1, none⟩ = some (.int .i64 v2) := ⟨Gr.cell hn7.gr k1, Gr.cell hn7.gr k2, Gr.cell hn7.gr k3, Gr.cell hn7.gr k4, Gr.cell hn7.gr k5⟩
              refine ⟨_, rfl, hK _ _ (fun _ => hS7) ?_⟩
              clear hK K
              try simp only [Act.put, List.setIfInBounds_toArray, List.set_cons_zero, List.set_cons_succ]
              refine wpAnyU_take 15 (v := ?vc15) rfl (by kernel_rfl) (by kernel_rfl) (fun _ _ _ h => h) hS7 (Or.inl ⟨rfl, ?yc15⟩) ?rc15
              case yc15 =>
                intro W hW
                obtain ⟨hW0, hW1, hW2, hW3, hW4⟩ := hW
                go_simp
                try with_reducible rfl
              try simp only [Act.put, List.setIfInBounds_toArray, List.set_cons_zero, List.set_cons_succ]
              refine wpAnyU_one 16 (by kernel_rfl) rfl (fun K hK => ?_)
              go_simp
              have hg8 := Gr.alloc (Gr.refl w7) (.cells [.int .i64 0, .int .i64 0, .slice none 0 0].toArray 30)
              refine hK _ _ (fun _ => ⟨Gr.cell hg8 (Gr.cell hn7.gr k1), Gr.cell hg8 (Gr.cell hn7.gr k2), Gr.cell hg8 (Gr.cell hn7.gr k3), Gr.cell hg8 (Gr.cell hn7.gr k4), Gr.cell hg8 (Gr.cell hn7.gr k5)⟩) ?_
              clear hK K
              refine wpAnyU_one 17 (by kernel_rfl) rfl (fun K hK => ?_)
              go_simp
              refine hK _ _ (fun h => absurd h (by decide)) ?_
              clear hK K
              refine wpAnyU_done (by kernel_rfl) ?_ _
              go_wp2
              try simp only [Act.put, List.getElem_toArray, List.getElem_cons_succ, List.getElem_cons_zero, List.setIfInBounds_toArray, List.set_cons_succ, List.set_cons_zero]
              go_meet
              case rel => exact ⟨_, A7, c7, rfl, (hm4.drew.new hn7).alloc _⟩
            · go_simp
              have hg8 := Gr.drew (Gr.alloc (Gr.refl w6) (.cells [.int .i64 0, .int .i64 0, .slice none 0 0].toArray 30))
              have hm8 := (hm4.alloc (.cells [.int .i64 0, .int .i64 0, .slice none 0 0].toArray 30)).drew
              refine hK _ _ (fun _ => ⟨Gr.cell hg8 hx1, Gr.cell hg8 hx3, Gr.cell hg8 hy3, Gr.cell hg8 hv1, Gr.cell hg8 hv2⟩) ?_
              clear hK K
              refine wpAnyU_one 14 (by kernel_rfl) rfl (fun K hK => ?_)
              refine step_call rfl 80 Try.f80 Try.func80 (by kernel_rfl) (by kernel_rfl) _ _ rfl #[.slice xA xn xc, .int .i64 st, .agg #[.int .i64 v1, .int .i64 v2]] (by simp [Act.eval]) ?_
              refine (laid_ok _ xA xn xc xsl ⟨hrs.out.gr hg8⟩ st _ rfl hst (by omega) (v1, v2)).mono ?_
              rintro e w7 ⟨A7, c7, rfl, hn7⟩
              have hg9 := Gr.trans hg8 hn7.gr
              have hS7 : w7.cell? ⟨b, o + k * 3, none⟩ = some (.int .i64 xfn) ∧ w7.cell? ⟨b, o + k * 3 + 2, none⟩ = some (.slice xA xn xc) ∧ w7.cell? ⟨g9, 2, none⟩ = some (.int .i64 y3) ∧ w7.cell? ⟨g + 1, 0, none⟩ = some (.int .i64 v1) ∧ w7.cell? ⟨g + 1, 1, none⟩ = some (.int .i64 v2) := ⟨Gr.cell hg9 hx1, Gr.cell hg9 hx3, Gr.cell hg9 hy3, Gr.cell hg9 hv1, Gr.cell hg9 hv2⟩
              refine ⟨_, rfl, hK _ _ (fun _ => hS7) ?_⟩
              clear hK K
              try simp only [Act.put, List.setIfInBounds_toArray, List.set_cons_zero, List.set_cons_succ]
              refine wpAnyU_take 15 (v := ?vd15) rfl (by kernel_rfl) (by kernel_rfl) (fun _ _ _ h => h) hS7 (Or.inl ⟨rfl, ?yd15⟩) ?rd15
              case yd15 =>
                intro W hW
                obtain ⟨hW0, hW1, hW2, hW3, hW4⟩ := hW
                go_simp
                try with_reducible rfl
              try simp only [Act.put, List.setIfInBounds_toArray, List.set_cons_zero, List.set_cons_succ]
              have hm9 := (hm8.new hn7).swap
              have q0 := hm9.cell m0 0 rfl
              have q1 := hm9.cell m0 1 rfl
              have q2 := hm9.cell m0 2 rfl
              have f0 := hm9.free m0 0
              have f1 := hm9.free m0 1
              have f2 := hm9.free m0 2
              refine wpAnyU_one 17 (by kernel_rfl) rfl (fun K hK => ?_)
              go_simp
              refine hK _ _ (fun h => absurd h (by decide)) ?_
              clear hK K
              refine wpAnyU_done (by kernel_rfl) ?_ _
              go_wp2
              try simp only [Act.put, List.getElem_toArray, List.getElem_cons_succ, List.getElem_cons_zero, List.setIfInBounds_toArray, List.set_cons_succ, List.set_cons_zero]
              go_meet
              case rel => exact ⟨_, A7, c7, rfl, ((hm9.set 0 (.int .i64 xfn)).set 1 (.int .i64 y3)).set 2 (.slice A7 (st + 1) c7)⟩
          case rest =>
            obtain ⟨g13, A7, c7, rfl, hm10⟩ := hcut
            obtain ⟨iR, ri, rz0, rz1, rz2⟩ := info_parts inf_R
            have hfin : Fact (Frames w wc (N + 1) [] .outgrown → True) := ⟨fun _ => trivial⟩
            have hcl : Fact (catchD ⟨kA, kn, kc, consts, fA, fnn, fc, fns⟩ (v1, v2) (xs.map Fr.data) n = some (ys.map Fr.data ++ [(xfn, y3, xsl.take st ++ [(v1, v2)])])) := ⟨by rw [hc.out, hcd.out, hyd, List.map_take]⟩
            have key : ∀ (A1 : Option Addr) (e1 : Nat) (w8 : World) (X : Chunk),
                Mem w w8 (Own 3 (.slice A1 (k + 1) e1) (fR ys ++ [.int .i64 xfn, .int .i64 y3, .slice A7 (st + 1) c7]) :: X :: Blk g13 (.cells [.int .i64 xfn, .int .i64 y3, .slice A7 (st + 1) c7].toArray 30) :: Own 2 (.slice A7 (st + 1) c7) (fV (xsl.take st ++ [(v1, v2)])) :: (slots ys ++ [Blk g9 (.cells (cH (y1, y2, y3, y4)).toArray 145), Blk (g + 1) (.cells [.int .i64 v1, .int .i64 v2].toArray 41), Blk g (.cells [.slice kA kn kc, .slice fA fnn fc].toArray 25)])) →
                Frames w w8 (N + 1) (ys.map Fr.data ++ [(xfn, y3, xsl.take st ++ [(v1, v2)])]) (.returned (.tuple #[.slice A1 (k + 1) e1, .bool true])) := fun A1 e1 w8 X h3 => by
              refine ⟨A1, k + 1, e1, ys ++ [⟨xfn, y3, A7, st + 1, c7, xsl.take st ++ [(v1, v2)]⟩], rfl, ?_, by rw [List.map_append]; rfl, fun z hz => ?_⟩
              · rw [fR_app, slots_app]
                have h4 : Mem w w8 (Own 3 (.slice A1 (k + 1) e1) (fR ys ++ [.int .i64 xfn, .int .i64 y3, .slice A7 (st + 1) c7]) :: slot ⟨xfn, y3, A7, st + 1, c7, xsl.take st ++ [(v1, v2)]⟩ :: (slots ys ++ [Blk g9 (.cells (cH (y1, y2, y3, y4)).toArray 145), Blk (g + 1) (.cells [.int .i64 v1, .int .i64 v2].toArray 41), Blk g (.cells [.slice kA kn kc, .slice fA fnn fc].toArray 25)])) := h3.sel 4 [0, 3] (by decide)
                exact (h4.perm (.cons _ List.perm_middle.symm)).sub (.cons_cons _ (List.Sublist.append (List.Sublist.refl _) (.cons_cons _ (List.nil_sublist _))))
              · rcases List.mem_append.1 hz with hz | hz
                · have := hyn z hz; omega
                · simp at hz; subst hz; show st + 1 ≤ N + 1; omega
            have key := Fact.mk key
            clear hfin
            go_wp2_with (first | (refine wp_rng rfl 30 _ rfl g13 0 rfl [.int .i64 xfn, .int .i64 y3, .slice A7 (st + 1) c7] (rng_blk hm10 m0) row_R szR ?_) | (at_builtin; refine wp_app rfl _ _ _ rfl 30 iR _ 3 40 ty_Rs ri rz0 rz1 rz2 rfl (some ⟨gC, 0, none⟩) k k _ rfl ((hm10.alloc _).pull3) _ 1 1 [.int .i64 xfn, .int .i64 y3, .slice A7 (st + 1) c7] rfl (RdC.lit _ _ _ _ _ rfl (by simp [maxLen]) (cR_one ⟨xfn, y3, A7, st + 1, c7, []⟩)) (by unfold maxLen; omega) (by omega) ?_; intro A1 e1 w8 HM1))
            go_ret2
            rw [hcl.out]
            exact key.out A1 e1 w8 _ HM1
end Go.Proofs.Ytgflfpepfpekhaa
