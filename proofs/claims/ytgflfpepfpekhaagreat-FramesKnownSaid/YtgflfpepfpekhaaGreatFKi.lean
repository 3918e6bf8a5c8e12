/- Lemmas of the heap (a part of the heap's texts; written by slice.py). -/
import Derived.BigQuiet
import Derived.Carry
import Derived.ChangeKeysEq
import Derived.Deep.CutBlock
import Derived.Deep.DeepCutAuto
import Derived.Deep.DeepFit
import Derived.Deep.DeepMust
import Derived.Deep.Draws
import Derived.Deep.LoopGhost
import Derived.Deep.MidRow
import Derived.Deep.QuietTactic
import Derived.Deep.RegionHeld3
import Derived.Deep.RegionLaw
import Derived.Deep.Slices
import Derived.KernelRfl
import Derived.Laws.MakeOwn
import Derived.Lib.SliceRun
import Derived.Maps.Own
import Derived.Maps.OwnSet
import Derived.Maps.Views
import Derived.OpenShut
import Derived.OrdersHeld
import Derived.Outline
import Derived.OwnWalk
import Derived.SizedLaws
import Derived.StillTail
import Derived.StillTailTactics
import Derived.WalkKit
import Derived.WalkSpells
import Derived.Test.YtgflfpepfpekhaaGreatProg
import Derived.Test.YtgflfpepfpekhaaGreatFKh
set_option linter.unusedVariables false
set_option linter.unusedSimpArgs false
namespace Go.Proofs.YtgflfpepfpekhaaGreat
open Go.RowKit Go.Mm Go.WideShapes
set_option maxHeartbeats 16000000
set_option maxRecDepth 100000
set_option linter.unusedSimpArgs false
/-- One stack, and the row of the same numbers. -/
structure SS where
  g : Nat
  A : Option Addr
  n : Nat
  c : Nat
  R : Option Addr
  r : Nat
  xs : List Int
/-- What was handed out, and what it should be. -/
def OutsOk (m : Nat) (outs wants : List LL) : Prop := outs.length = m ∧ wants.length = m ∧ ∀ k, k < m → (wants.getD k ll0).n = (outs.getD k ll0).n ∧ (wants.getD k ll0).xs = (outs.getD k ll0).xs ∧ (outs.getD k ll0).n ≤ 16777216
abbrev P2 (g a b : Nat) : Chunk := Blk g (.cells [.pointer (some ⟨a, 0, none⟩), .pointer (some ⟨b, 0, none⟩)].toArray 94)
abbrev NL (A : Option Addr) (n c : Nat) (xs : List Int) : Chunk := Own 1 (.slice A n c) (nums .i64 xs)
abbrev SB (g : Nat) (A : Option Addr) (n c : Nat) : Chunk := Blk g (.cells [.slice A n c].toArray 134)
theorem refPop_noG (w : World) (A : Option Addr) (n c : Nat) (K : Int) (hK : K < 0 ∨ (n : Int) < K) :
    Calls Tryz.prog 56 #[.slice A n c, .int .i64 K] w fun e w' => e = .returned (.tuple #[.slice A n c, .slice none 0 0, .bool false]) ∧ Gr w w' :=
  (refPop_no w A n c K hK).mono fun e w' h => ⟨h.1, by rw [h.2]; exact Gr.refl w⟩
theorem popNo2G (w0 w : World) (L : List Chunk) (g : Nat) (A : Option Addr) (n c : Nat) (t : TypeId) (hm : Mem w0 w L) (hg : Blk g (.cells [.slice A n c].toArray t) ∈ L) (hn : n ≤ 16777216) (k : Int) (hk : k < 0 ∨ (n : Int) < k) (hk2 : k ≤ 9223372036854775807) :
    Calls Tryz.prog 57 #[.pointer (some ⟨g, 0, none⟩), .int .i64 k] w fun e w' => e = .returned (.tuple #[.slice none 0 0, .bool false]) ∧ Gr w w' :=
  (popNo2_ok w0 w L g A n c t hm hg hn k hk hk2).mono fun e w' h => ⟨h.1, by rw [h.2]; exact Gr.refl w⟩
theorem perm_out {α : Type} (P : List α) (o u : α) (X Y : List α) : (P ++ (o :: u :: (X ++ Y))).Perm (X ++ (o :: (P ++ (u :: Y)))) := by
  classical
  rw [List.perm_iff_count]
  intro x
  simp only [List.count_cons, List.count_append]
  omega
theorem lws_app (a : List LL) (x : LL) : lws (a ++ [x]) = lws a ++ [lw x] := by simp [lws]
theorem OutsOk.snoc {m : Nat} {outs wants : List LL} (h : OutsOk m outs wants) (o u : LL) (h1 : u.n = o.n) (h2 : u.xs = o.xs) (h3 : o.n ≤ 16777216) : OutsOk (m + 1) (outs ++ [o]) (wants ++ [u]) := by
  obtain ⟨a, b, c⟩ := h
  refine ⟨by simp [a], by simp [b], fun k hk => ?_⟩
  by_cases e : k = m
  · subst e
    rw [getD_snoc_eq _ _ _ _ a.symm, getD_snoc_eq _ _ _ _ b.symm]
    exact ⟨h1, h2, h3⟩
  · rw [getD_snoc_lt _ _ _ _ (by omega), getD_snoc_lt _ _ _ _ (by omega)]
    exact c k (by omega)
theorem perm_tail {α : Type} (p : List α) (o u : α) (X Y : List α) : (p ++ (o :: u :: (X ++ Y))).Perm (p ++ ((X ++ [o]) ++ (Y ++ [u]))) := by
  classical
  rw [List.perm_iff_count]
  intro x
  simp only [List.count_cons, List.count_append, List.count_nil]
  omega
theorem stack_walk (w : World) (S : Option Addr) (m sc : Nat) (ops : List OpL) (hs : Fact (ScrOk w S m sc ops)) (hm : m ≤ 1048576) :
    Calls Tryz.prog 27 #[.slice S m sc] w fun e w' => e = .returned (.bool true) ∧ Gr w w' := by
  have hol : Fact (ops.length = m) := ⟨rd_len cO_len (by omega) hs.out.rd⟩
  obtain ⟨iS, si, sz0, sz1, sz2⟩ := info_parts inf_Ls
  go_enter Tryz.func27, Tryz.ntmps27
  go_wp2
  go_loopw [3, 4] (fun s v W => ∃ (k T : Nat), v = .int .i64 k ∧ k ≤ m ∧ s = .int .i64 T ∧ Fact (tot (ops.take k) = T) ∧ T ≤ 17825800 ∧ W = w) (fun _ v _ => m - (intOf v).toNat)
  case atStart => exact ⟨0, 0, rfl, by omega, rfl, ⟨rfl⟩, by omega, rfl⟩
  case round =>
    obtain ⟨k, T, rfl, hk, rfl, hT, hTb, rfl⟩ := hrel
    by_cases hT2 : T ≤ 16777216
    · by_cases hlt : k < m
      · obtain ⟨b, o, rfl, r1, _, _⟩ := rd_at cO_len (by omega) op0 hs.out.rd k hlt
        have hx := hs.out.each _ (List.mem_of_getElem? (getD_some ops op0 k (by have := hol.out; omega)))
        have hT1 := Fact.mk (tot_succ ops k (by have := hol.out; omega))
        generalize ops.getD k op0 = x at r1 hx hT1
        obtain ⟨x1, x2, x3, xA, xn, xc, xs⟩ := x
        have a3 : wr.cell? ⟨b, o + k * 4 + 3, none⟩ = some (.slice xA xn xc) := r1 3 _ rfl
        have hxn : xn ≤ 1048576 := hx.2.1
        clear r1 hx
        go_wp2
        go_roundw
        case rel => exact ⟨k + 1, T + 1 + xn, by go_num, by omega, by go_num, ⟨by rw [hT1.out, hT.out]⟩, by omega, trivial⟩
        case measure => simp [intOf]; omega
      · obtain rfl : k = m := by omega
        have hTall : Fact (tot ops ≤ 16777216) := ⟨by have h := hT.out; rw [List.take_of_length_le (Nat.le_of_eq hol.out)] at h; omega⟩
        have hT3 : ((T : Int) > 16777216) = False := eq_false (by omega)
        go_wp2_with fail
        refine (newL_ok wr none 0 0 [] ⟨RdC.nil _ _⟩ (by omega)).mono ?_
        rintro e w1 ⟨g0, A0, c0, rfl, hm1⟩
        go_wp2_with fail
        refine (newL_ok w1 none 0 0 [] ⟨RdC.nil _ _⟩ (by omega)).mono ?_
        rintro e w2 ⟨g1, A1, c1, rfl, hm2⟩
        have hm2 := hm1.join hm2
        clear hm1
        go_upto_region 9 with (fail)
        have hm3 := hm2.alloc (.cells [.pointer (some ⟨g0, 0, none⟩), .pointer (some ⟨g1, 0, none⟩)].toArray 94)
        generalize hg5 : w2.heap.size = g5 at hm3 ⊢
        generalize hw3 : w2.alloc (.cells [.pointer (some ⟨g0, 0, none⟩), .pointer (some ⟨g1, 0, none⟩)].toArray 94) = w3 at hm3
        try refine wp_world hw3 ?_
        clear hw3 hg5 hm2
        have p0 := hm3.cell m0 0 rfl
        have p1 := hm3.cell m0 1 rfl
        go_upto_region 12 with (fail)
        have hm4 := hm3.alloc (.cells [.slice none 0 0, .slice none 0 0].toArray 95)
        generalize hg6 : w3.heap.size = g6 at hm4 ⊢
        generalize hw4 : w3.alloc (.cells [.slice none 0 0, .slice none 0 0].toArray 95) = w4 at hm4
        try refine wp_world hw4 ?_
        clear hw4 hg6 hm3 p0 p1
        have hm5 := ((((hm4.nil 1 none).nil 1 none).nil 1 none).nil 1 none).sel 10 [5, 4, 8, 9, 0, 6, 7, 1, 2, 3] (by decide)
        clear hm4
        go_wp2
        obtain ⟨w0, rfl⟩ : ∃ w0 : World, w0 = wr := ⟨_, rfl⟩
        have hs0 := hs
        go_loopw [7, 8, 9] (fun s7 s8 v W => ∃ (i : Nat) (a b : SS) (OA : Option Addr) (m oc : Nat) (outs : List LL) (WA : Option Addr) (wc : Nat) (wants : List LL), v = .int .i64 i ∧ i ≤ k ∧ s7 = .slice OA m oc ∧ s8 = .slice WA m wc ∧ Mem w0 W (Blk g5 (.cells [.pointer (some ⟨a.g, 0, none⟩), .pointer (some ⟨b.g, 0, none⟩)].toArray 94) :: Blk g6 (.cells [.slice a.R a.n a.r, .slice b.R b.n b.r].toArray 95) :: Blk a.g (.cells [.slice a.A a.n a.c].toArray 134) :: Own 1 (.slice a.A a.n a.c) (nums .i64 a.xs) :: Own 1 (.slice a.R a.n a.r) (nums .i64 a.xs) :: Blk b.g (.cells [.slice b.A b.n b.c].toArray 134) :: Own 1 (.slice b.A b.n b.c) (nums .i64 b.xs) :: Own 1 (.slice b.R b.n b.r) (nums .i64 b.xs) :: Own 1 (.slice OA m oc) (lws outs) :: Own 1 (.slice WA m wc) (lws wants) :: (outs.map lsL ++ wants.map lsL)) ∧ Fact (a.n ≤ tot (ops.take i) ∧ b.n ≤ tot (ops.take i) ∧ m ≤ i ∧ OutsOk m outs wants)) (fun _ _ v _ => k - (intOf v).toNat)
        case atStart => exact ⟨0, ⟨g0, A0, 0, c0, none, 0, []⟩, ⟨g1, A1, 0, c1, none, 0, []⟩, none, 0, 0, [], none, 0, [], rfl, by omega, rfl, rfl, hm5, ⟨by simp, by simp, by omega, rfl, rfl, fun k hk => by omega⟩⟩
        case round =>
          clear hm5
          obtain ⟨i, a, b, OA, m, oc, outs, WA, wc, wants, rfl, hi, rfl, rfl, hm, hfa⟩ := hrel
          by_cases hlt : i < k
          · obtain ⟨ba, oa, rfl, r1, _, _⟩ := rd_at cO_len (by omega) op0 hs0.out.rd i hlt
            have hx := hs0.out.each _ (List.mem_of_getElem? (getD_some ops op0 i (by have := hol.out; omega)))
            have hT1 := Fact.mk (tot_succ ops i (by have := hol.out; omega))
            have hT2 := tot_take ops (i + 1)
            have hT3 := hTall.out
            rw [hT1.out] at hT2
            generalize ops.getD i op0 = x at r1 hx hT1 hT2
            obtain ⟨x1, x2, x3, xA, xn, xc, xxs⟩ := x
            simp only [cO] at r1
            have hxr0 := Fact.mk hx.1
            have hxr := hxr0
            have hx3 := hx.2.2
            have hxl := Fact.mk hxr0.out.nlen
            dsimp only at hxl hx3 hT1 hT2
            have r1 := rng_gr r1 hm.below
            clear hx
            go_upto_region 17 with (first | (refine wp_rng rfl 66 _ rfl ba _ rfl [.int .i64 x1, .int .i64 x2, .int .i64 x3, .slice xA xn xc] r1 row_Op szO ?_) | (refine wp_setrow rfl 66 _ _ rfl _ rfl 66 _ [.int .i64 x1, .int .i64 x2, .int .i64 x3, .slice xA xn xc] rfl (hm.alloc _) szO rfl (cO_one ⟨x1, x2, x3, xA, xn, xc, xxs⟩) ?_; intro w4 hm4))
            generalize wr.heap.size = g10 at hm4 ⊢
            have k0 := hm4.cell m0 0 rfl
            clear r1 hm
            go_wp2_with fail
            refine (pick_ok w4 x1 2 2 rfl (by omega) (by omega)).mono ?_
            rintro e w5 ⟨on, rfl, rfl, hon⟩
            have k1 := hm4.cell m0 1 rfl
            clear k0
            go_wp2_with fail
            refine (pick_ok w5 x2 7 7 rfl (by omega) (by omega)).mono ?_
            rintro e w6 ⟨kd, rfl, rfl, hkd⟩
            clear k1
            have hfb := hfa.out
            have hsz : a.n + xn ≤ 16777216 ∧ b.n + xn ≤ 16777216 ∧ m ≤ 16777216 := by have := hTall.out; have := hol.out; omega
            have hon2 : on = 0 ∨ on = 1 := by omega
            have hfa0 : Fact ((a.n + xn ≤ tot (ops.take (i + 1)) ∧ b.n + xn ≤ tot (ops.take (i + 1))) ∧ m ≤ i ∧ OutsOk m outs wants) := ⟨⟨by rw [hT1.out]; omega, by rw [hT1.out]; omega⟩, by omega, hfb.2.2.2⟩
            have hint : Fact (kd = 0 ∨ kd = 6 ∨ kd = 1 ∨ kd = 5 ∨ kd = 2 ∨ kd = 3 ∨ kd = 4) := ⟨by omega⟩
            clear hfb hT1 hT2 hT3 hfa
            rcases hon2 with rfl | rfl
            · skip
              obtain ⟨sg, sA, sn, sc_, sR, sr, sxs⟩ := a
              obtain ⟨og, oA, on_, oc_, oR, orr, oxs⟩ := b
              dsimp only at hm4 hsz hfa0
              have hmN : Mem w0 w6 (SB sg sA sn sc_ :: NL sA sn sc_ sxs :: NL sR sn sr sxs :: Blk g10 (.cells [.int .i64 x1, .int .i64 x2, .int .i64 x3, .slice xA xn xc].toArray 66) :: P2 g5 sg og :: Blk g6 (.cells [.slice sR sn sr, .slice oR on_ orr].toArray 95) :: SB og oA on_ oc_ :: NL oA on_ oc_ oxs :: NL oR on_ orr oxs :: Own 1 (.slice OA m oc) (lws outs) :: Own 1 (.slice WA m wc) (lws wants) :: (outs.map lsL ++ wants.map lsL)) := hm4.sel 11 [3, 4, 5, 0, 1, 2, 6, 7, 8, 9, 10] (by decide)
              clear hm4
              rcases hint.out with rfl | rfl | rfl | rfl | hk4
              · skip
                as_aux_lemma =>
                  have k3 := hmN.cell (g := g10) (t := 66) (fr := (0, 0)) (cs := [.int .i64 x1, .int .i64 x2, .int .i64 x3, .slice xA xn xc]) (.tail _ (.tail _ (.tail _ (.head _)))) 3 rfl
                  go_wp2_with fail
                  refine (lentL_ok w6 xA xn xc xxs ⟨hxr.out.gr hmN.below⟩ (by omega)).mono ?_
                  rintro e w3 ⟨TA1, tc2, rfl, hn4⟩
                  have hm5 := hmN.new hn4
                  clear k3
                  have htc := OwnAt.cap (hm5.ok _ m0)
                  have htc2 : xn ≤ tc2 := by omega
                  have p1 := hm5.cell (g := g5) (t := 94) (fr := (0, 0)) (cs := [.pointer (some ⟨sg, 0, none⟩), .pointer (some ⟨og, 0, none⟩)]) (.tail _ (.tail _ (.tail _ (.tail _ (.tail _ (.head _)))))) 0 rfl
                  have k3 := hm5.cell (g := g10) (t := 66) (fr := (0, 0)) (cs := [.int .i64 x1, .int .i64 x2, .int .i64 x3, .slice xA xn xc]) (.tail _ (.tail _ (.tail _ (.tail _ (.head _))))) 3 rfl
                  go_upto_region 26 with (fail)
                  go_still_tail 8, (by kernel_rfl)
                  change wpList _ _ _ _ _ w3.drew
                  clear p1 k3
                  have hm7 : Mem w0 w3.drew (NL TA1 (xn + 64) tc2 (xxs ++ marksL 64) :: SB sg sA sn sc_ :: NL sA sn sc_ sxs :: NL sR sn sr sxs :: Blk g10 (.cells [.int .i64 x1, .int .i64 x2, .int .i64 x3, .slice xA xn xc].toArray 66) :: P2 g5 sg og :: Blk g6 (.cells [.slice sR sn sr, .slice oR on_ orr].toArray 95) :: SB og oA on_ oc_ :: NL oA on_ oc_ oxs :: NL oR on_ orr oxs :: Own 1 (.slice OA m oc) (lws outs) :: Own 1 (.slice WA m wc) (lws wants) :: (outs.map lsL ++ wants.map lsL)) := hm5.drew
                  generalize w3.drew = w6 at hm7 ⊢
                  have hlr : Fact (RdC w6 1 (.slice TA1 xn tc2) (nums .i64 xxs)) := ⟨by have h := (hm7.rd (size := 1) (v := .slice TA1 (xn + 64) tc2) (xs := nums .i64 (xxs ++ marksL 64)) m0).npre (by rw [hxl.out]; omega); rwa [hxl.out] at h⟩
                  have hm8 : Mem w0 w6 (SB sg sA sn sc_ :: NL sA sn sc_ sxs :: NL TA1 (xn + 64) tc2 (xxs ++ marksL 64) :: NL sR sn sr sxs :: Blk g10 (.cells [.int .i64 x1, .int .i64 x2, .int .i64 x3, .slice xA xn xc].toArray 66) :: P2 g5 sg og :: Blk g6 (.cells [.slice sR sn sr, .slice oR on_ orr].toArray 95) :: SB og oA on_ oc_ :: NL oA on_ oc_ oxs :: NL oR on_ orr oxs :: Own 1 (.slice OA m oc) (lws outs) :: Own 1 (.slice WA m wc) (lws wants) :: (outs.map lsL ++ wants.map lsL)) := hm7.sel 12 [1, 2, 0, 3, 4, 5, 6, 7, 8, 9, 10, 11] (by decide)
                  go_wp2_with fail
                  refine (pushL_ok w0 w6 _ sg sA TA1 sn sc_ xn tc2 sxs xxs 134 hm8 hlr (by omega)).mono ?_
                  rintro e w11 ⟨A9, c10, rfl, hm12⟩
                  clear hlr
                  have q1 := hm12.cell (g := g6) (t := 95) (fr := (0, 0)) (cs := [.slice sR sn sr, .slice oR on_ orr]) (.tail _ (.tail _ (.tail _ (.tail _ (.tail _ (.tail _ (.head _))))))) 0 rfl
                  have k3 := hm12.cell (g := g10) (t := 66) (fr := (0, 0)) (cs := [.int .i64 x1, .int .i64 x2, .int .i64 x3, .slice xA xn xc]) (.tail _ (.tail _ (.tail _ (.tail _ (.head _))))) 3 rfl
                  go_upto_region 27 with (fail)
                  go_cut [] (fun W => ∃ (RR : Option Addr) (rr : Nat), Mem w0 W (Blk g6 (.cells [.slice RR (sn + xn) rr, .slice oR on_ orr].toArray 95) :: NL RR (sn + xn) rr (sxs ++ xxs) :: SB sg A9 (sn + xn) c10 :: NL A9 (sn + xn) c10 (sxs ++ xxs) :: NL TA1 (xn + 64) tc2 (xxs ++ marksL 64) :: NL sR sn sr sxs :: Blk g10 (.cells [.int .i64 x1, .int .i64 x2, .int .i64 x3, .slice xA xn xc].toArray 66) :: P2 g5 sg og :: SB og oA on_ oc_ :: NL oA on_ oc_ oxs :: NL oR on_ orr oxs :: Own 1 (.slice OA m oc) (lws outs) :: Own 1 (.slice WA m wc) (lws wants) :: (outs.map lsL ++ wants.map lsL)))
                  case first =>
                    have hgS := (Gr.refl w11).drew
                    have hmS := (Mem.start w11).drew
                    refine wp_region_until (S := fun W => W.cell? ⟨g6, 0, none⟩ = some (.slice sR sn sr) ∧ W.cell? ⟨g10, 3, none⟩ = some (.slice xA xn xc)) 7 (by kernel_rfl) ?_
                    generalize w11.drew = wd at hgS hmS ⊢
                    refine wpAnyU_take 0 (v := ?vv271) rfl (by kernel_rfl) (by kernel_rfl) (fun _ _ _ h => h) ⟨Gr.cell hgS q1, Gr.cell hgS k3⟩ (Or.inl ⟨rfl, ?yv271⟩) ?rv271
                    case yv271 =>
                      intro W hW
                      obtain ⟨hW0, hW1⟩ := hW
                      go_simp
                      try with_reducible rfl
                    try simp only [Act.put, List.getElem_toArray, List.getElem_cons_succ, List.getElem_cons_zero, List.setIfInBounds_toArray, List.set_cons_zero, List.set_cons_succ]
                    refine wpAnyU_take 1 (v := ?vv272) rfl (by kernel_rfl) (by kernel_rfl) (fun _ _ _ h => h) ⟨Gr.cell hgS q1, Gr.cell hgS k3⟩ (Or.inl ⟨rfl, ?yv272⟩) ?rv272
                    case yv272 =>
                      intro W hW
                      obtain ⟨hW0, hW1⟩ := hW
                      go_simp
                      try with_reducible rfl
                    try simp only [Act.put, List.getElem_toArray, List.getElem_cons_succ, List.getElem_cons_zero, List.setIfInBounds_toArray, List.set_cons_zero, List.set_cons_succ]
                    refine wpAnyU_take 2 (v := ?vv273) rfl (by kernel_rfl) (by kernel_rfl) (fun _ _ _ h => h) ⟨Gr.cell hgS q1, Gr.cell hgS k3⟩ (Or.inl ⟨rfl, ?yv273⟩) ?rv273
                    case yv273 =>
                      intro W hW
                      obtain ⟨hW0, hW1⟩ := hW
                      go_simp
                      try with_reducible rfl
                    try simp only [Act.put, List.getElem_toArray, List.getElem_cons_succ, List.getElem_cons_zero, List.setIfInBounds_toArray, List.set_cons_zero, List.set_cons_succ]
                    refine wpAnyU_take 3 (v := ?vv274) rfl (by kernel_rfl) (by kernel_rfl) (fun _ _ _ h => h) ⟨Gr.cell hgS q1, Gr.cell hgS k3⟩ (Or.inl ⟨rfl, ?yv274⟩) ?rv274
                    case yv274 =>
                      intro W hW
                      obtain ⟨hW0, hW1⟩ := hW
                      go_simp
                      try with_reducible rfl
                    try simp only [Act.put, List.getElem_toArray, List.getElem_cons_succ, List.getElem_cons_zero, List.setIfInBounds_toArray, List.set_cons_zero, List.set_cons_succ]
                    refine wpAnyU_take 4 (v := ?vv275) rfl (by kernel_rfl) (by kernel_rfl) (fun _ _ _ h => h) ⟨Gr.cell hgS q1, Gr.cell hgS k3⟩ (Or.inl ⟨rfl, ?yv275⟩) ?rv275
                    case yv275 =>
                      intro W hW
                      obtain ⟨hW0, hW1⟩ := hW
                      go_simp
                      try with_reducible rfl
                    try simp only [Act.put, List.getElem_toArray, List.getElem_cons_succ, List.getElem_cons_zero, List.setIfInBounds_toArray, List.set_cons_zero, List.set_cons_succ]
                    refine wpAnyU_take 5 (v := ?vv276) rfl (by kernel_rfl) (by kernel_rfl) (fun _ _ _ h => h) ⟨Gr.cell hgS q1, Gr.cell hgS k3⟩ (Or.inl ⟨rfl, ?yv276⟩) ?rv276
                    case yv276 =>
                      intro W hW
                      obtain ⟨hW0, hW1⟩ := hW
                      go_simp
                      try with_reducible rfl
                    try simp only [Act.put, List.getElem_toArray, List.getElem_cons_succ, List.getElem_cons_zero, List.setIfInBounds_toArray, List.set_cons_zero, List.set_cons_succ]
                    refine wpAnyU_one 6 (by kernel_rfl) rfl (fun K hK => ?_)
                    refine step_callw rfl 54 Tryz.f54 Tryz.func54 (by kernel_rfl) (by kernel_rfl) _ _ rfl #[.slice sR sn sr, .slice xA xn xc] (by simp [Act.eval]) ?_
                    refine (refPush_ok wd sR xA sn sr xn xc sxs xxs ⟨(hm12.rd (.tail _ (.tail _ (.tail _ (.head _))))).gr hgS⟩ ⟨hxr.out.gr (Gr.trans hm12.below hgS)⟩ (by omega)).mono ?_
                    rintro e u13 ⟨R14, r15, rfl, hz16⟩
                    have g17 := Gr.trans hgS hz16.gr
                    have hm18 := hmS.new hz16
                    have hme19 : Mem w0 u13 (NL R14 (sn + xn) r15 (sxs ++ xxs) :: SB sg A9 (sn + xn) c10 :: NL A9 (sn + xn) c10 (sxs ++ xxs) :: NL TA1 (xn + 64) tc2 (xxs ++ marksL 64) :: NL sR sn sr sxs :: Blk g10 (.cells [.int .i64 x1, .int .i64 x2, .int .i64 x3, .slice xA xn xc].toArray 66) :: P2 g5 sg og :: Blk g6 (.cells [.slice sR sn sr, .slice oR on_ orr].toArray 95) :: SB og oA on_ oc_ :: NL oA on_ oc_ oxs :: NL oR on_ orr oxs :: Own 1 (.slice OA m oc) (lws outs) :: Own 1 (.slice WA m wc) (lws wants) :: (outs.map lsL ++ wants.map lsL)) := hm12.join hm18
                    have q3 := hme19.cell (g := g6) (t := 95) (fr := (0, 0)) (cs := [.slice sR sn sr, .slice oR on_ orr]) (.tail _ (.tail _ (.tail _ (.tail _ (.tail _ (.tail _ (.tail _ (.head _)))))))) 0 rfl
                    have f3 := hme19.free (g := g6) (t := 95) (cs := [.slice sR sn sr, .slice oR on_ orr]) (.tail _ (.tail _ (.tail _ (.tail _ (.tail _ (.tail _ (.tail _ (.head _)))))))) 0
                    have hm22 : Mem w0 u13 (Blk g6 (.cells [.slice sR sn sr, .slice oR on_ orr].toArray 95) :: NL R14 (sn + xn) r15 (sxs ++ xxs) :: SB sg A9 (sn + xn) c10 :: NL A9 (sn + xn) c10 (sxs ++ xxs) :: NL TA1 (xn + 64) tc2 (xxs ++ marksL 64) :: NL sR sn sr sxs :: Blk g10 (.cells [.int .i64 x1, .int .i64 x2, .int .i64 x3, .slice xA xn xc].toArray 66) :: P2 g5 sg og :: SB og oA on_ oc_ :: NL oA on_ oc_ oxs :: NL oR on_ orr oxs :: Own 1 (.slice OA m oc) (lws outs) :: Own 1 (.slice WA m wc) (lws wants) :: (outs.map lsL ++ wants.map lsL)) := hme19.sel 13 [7, 0, 1, 2, 3, 4, 5, 6, 8, 9, 10, 11, 12] (by decide)
                    have hmf20 := hm22.set 0 (.slice R14 (sn + xn) r15)
                    simp only [List.set_cons_zero, List.set_cons_succ] at hmf20
                    refine ⟨_, rfl, hK _ _ (fun _ => ⟨Gr.cell g17 q1, Gr.cell g17 k3⟩) ?_⟩
                    clear hK K
                    try simp only [Act.put, List.getElem_toArray, List.getElem_cons_succ, List.getElem_cons_zero, List.setIfInBounds_toArray, List.set_cons_zero, List.set_cons_succ]
                    refine wpAnyU_one 7 (by kernel_rfl) rfl (fun K hK => ?_)
                    go_simp
                    refine hK _ _ (fun h => absurd h (by decide)) ?_
                    clear hK K
                    refine wpAnyU_one 8 (by kernel_rfl) rfl (fun K hK => ?_)
                    go_simp
                    refine hK _ _ (fun h => absurd h (by decide)) ?_
                    clear hK K
                    refine wpAnyU_done (by kernel_rfl) ?_ _
                    go_wp2
                    try simp only [Act.put, List.getElem_toArray, List.getElem_cons_succ, List.getElem_cons_zero, List.setIfInBounds_toArray, List.set_cons_succ, List.set_cons_zero]
                    go_meet
                    case rel => exact ⟨_, _, hmf20⟩
                  case rest =>
                    obtain ⟨w23, rfl⟩ : ∃ w9 : World, w9 = wc := ⟨_, rfl⟩
                    obtain ⟨RR, rr, hm24⟩ := hcut
                    clear q1 k3 hm12
                    have k3 := hm24.cell (g := g10) (t := 66) (fr := (0, 0)) (cs := [.int .i64 x1, .int .i64 x2, .int .i64 x3, .slice xA xn xc]) (.tail _ (.tail _ (.tail _ (.tail _ (.tail _ (.tail _ (.head _))))))) 3 rfl
                    have hm25 : Mem w0 w23 (NL TA1 (xn + 64) tc2 (xxs ++ marksL 64) :: SB sg A9 (sn + xn) c10 :: NL A9 (sn + xn) c10 (sxs ++ xxs) :: NL RR (sn + xn) rr (sxs ++ xxs) :: P2 g5 sg og :: Blk g6 (.cells [.slice RR (sn + xn) rr, .slice oR on_ orr].toArray 95) :: SB og oA on_ oc_ :: NL oA on_ oc_ oxs :: NL oR on_ orr oxs :: Own 1 (.slice OA m oc) (lws outs) :: Own 1 (.slice WA m wc) (lws wants) :: (outs.map lsL ++ wants.map lsL)) := hm24.sel 13 [4, 2, 3, 1, 7, 0, 8, 9, 10, 11, 12] (by decide)
                    go_wp2_with fail
                    refine (keptL_ok w0 w23 _ TA1 xA xn tc2 xc xxs hm25 hxr0 (by omega)).mono ?_
                    rintro e w26 ⟨rfl, hm27⟩
                    clear k3
                    have hfa9 : Fact (_ ∧ _ ∧ _ ∧ _) := ⟨by have h := hfa0.out; exact ⟨h.1.1, Nat.le_trans (Nat.le_add_right _ _) h.1.2, Nat.le_succ_of_le h.2.1, h.2.2⟩⟩
                    go_wp2
                    have hm28 : Mem w0 w26 (P2 g5 sg og :: Blk g6 (.cells [.slice RR (sn + xn) rr, .slice oR on_ orr].toArray 95) :: SB sg A9 (sn + xn) c10 :: NL A9 (sn + xn) c10 (sxs ++ xxs) :: NL RR (sn + xn) rr (sxs ++ xxs) :: SB og oA on_ oc_ :: NL oA on_ oc_ oxs :: NL oR on_ orr oxs :: Own 1 (.slice OA m oc) (lws outs) :: Own 1 (.slice WA m wc) (lws wants) :: (outs.map lsL ++ wants.map lsL)) := hm27.sel 10 [3, 4, 0, 1, 2, 5, 6, 7, 8, 9] (by decide)
                    have hgo := hm28
                    go_roundw
                    case rel => exact ⟨i + 1, ⟨sg, A9, (sn + xn), c10, RR, rr, (sxs ++ xxs)⟩, ⟨og, oA, on_, oc_, oR, orr, oxs⟩, OA, m, oc, outs, WA, wc, wants, by go_num, by omega, rfl, rfl, hgo, hfa9⟩
                    case measure => simp [intOf]; omega
              · skip
                as_aux_lemma =>
                  have k3 := hmN.cell (g := g10) (t := 66) (fr := (0, 0)) (cs := [.int .i64 x1, .int .i64 x2, .int .i64 x3, .slice xA xn xc]) (.tail _ (.tail _ (.tail _ (.head _)))) 3 rfl
                  go_wp2_with fail
                  refine (lentL_ok w6 xA xn xc xxs ⟨hxr.out.gr hmN.below⟩ (by omega)).mono ?_
                  rintro e w31 ⟨TA29, tc30, rfl, hn32⟩
                  have hm33 := hmN.new hn32
                  clear k3
                  have htc := OwnAt.cap (hm33.ok _ m0)
                  have htc2 : xn ≤ tc30 := by omega
                  have hlr : Fact (RdC w31 1 (.slice TA29 xn tc30) (nums .i64 xxs)) := ⟨by have h := (hm33.rd (size := 1) (v := .slice TA29 (xn + 64) tc30) (xs := nums .i64 (xxs ++ marksL 64)) m0).npre (by rw [hxl.out]; omega); rwa [hxl.out] at h⟩
                  have k3 := hm33.cell (g := g10) (t := 66) (fr := (0, 0)) (cs := [.int .i64 x1, .int .i64 x2, .int .i64 x3, .slice xA xn xc]) (.tail _ (.tail _ (.tail _ (.tail _ (.head _))))) 3 rfl
                  go_wp2_with fail
                  refine (newL_ok w31 TA29 xn tc30 xxs hlr (by omega)).mono ?_
                  rintro e w34 ⟨ng, nA, nc, rfl, hm35⟩
                  have hm36 : Mem w0 w34 (SB ng nA xn nc :: NL nA xn nc xxs :: NL TA29 (xn + 64) tc30 (xxs ++ marksL 64) :: SB sg sA sn sc_ :: NL sA sn sc_ sxs :: NL sR sn sr sxs :: Blk g10 (.cells [.int .i64 x1, .int .i64 x2, .int .i64 x3, .slice xA xn xc].toArray 66) :: P2 g5 sg og :: Blk g6 (.cells [.slice sR sn sr, .slice oR on_ orr].toArray 95) :: SB og oA on_ oc_ :: NL oA on_ oc_ oxs :: NL oR on_ orr oxs :: Own 1 (.slice OA m oc) (lws outs) :: Own 1 (.slice WA m wc) (lws wants) :: (outs.map lsL ++ wants.map lsL)) := hm33.join hm35
                  clear hlr k3
                  have p1 := hm36.cell (g := g5) (t := 94) (fr := (0, 0)) (cs := [.pointer (some ⟨sg, 0, none⟩), .pointer (some ⟨og, 0, none⟩)]) (.tail _ (.tail _ (.tail _ (.tail _ (.tail _ (.tail _ (.tail _ (.head _)))))))) 0 rfl
                  have f1 := hm36.free (g := g5) (t := 94) (cs := [.pointer (some ⟨sg, 0, none⟩), .pointer (some ⟨og, 0, none⟩)]) (.tail _ (.tail _ (.tail _ (.tail _ (.tail _ (.tail _ (.tail _ (.head _)))))))) 0
                  have hm37 : Mem w0 w34 (P2 g5 sg og :: SB ng nA xn nc :: NL nA xn nc xxs :: NL TA29 (xn + 64) tc30 (xxs ++ marksL 64) :: SB sg sA sn sc_ :: NL sA sn sc_ sxs :: NL sR sn sr sxs :: Blk g10 (.cells [.int .i64 x1, .int .i64 x2, .int .i64 x3, .slice xA xn xc].toArray 66) :: Blk g6 (.cells [.slice sR sn sr, .slice oR on_ orr].toArray 95) :: SB og oA on_ oc_ :: NL oA on_ oc_ oxs :: NL oR on_ orr oxs :: Own 1 (.slice OA m oc) (lws outs) :: Own 1 (.slice WA m wc) (lws wants) :: (outs.map lsL ++ wants.map lsL)) := hm36.sel 14 [7, 0, 1, 2, 3, 4, 5, 6, 8, 9, 10, 11, 12, 13] (by decide)
                  have hm38 := hm37.set 0 (.pointer (some ⟨ng, 0, none⟩))
                  simp only [List.set_cons_zero, List.set_cons_succ] at hm38
                  go_upto_region 23 with (fail)
                  clear p1 f1
                  generalize w34.setCell _ _ = w39 at hm38 ⊢
                  have k3 := hm38.cell (g := g10) (t := 66) (fr := (0, 0)) (cs := [.int .i64 x1, .int .i64 x2, .int .i64 x3, .slice xA xn xc]) (.tail _ (.tail _ (.tail _ (.tail _ (.tail _ (.tail _ (.tail _ (.head _)))))))) 3 rfl
                  go_wp2_with fail
                  refine (copyLongsS_ok w39 xA xn xc xxs ⟨hxr.out.gr hm38.below⟩ (by omega)).mono ?_
                  rintro e w42 ⟨R40, r41, rfl, hn43⟩
                  have hm44 := hm38.new hn43
                  clear k3
                  have q1 := hm44.cell (g := g6) (t := 95) (fr := (0, 0)) (cs := [.slice sR sn sr, .slice oR on_ orr]) (.tail _ (.tail _ (.tail _ (.tail _ (.tail _ (.tail _ (.tail _ (.tail _ (.tail _ (.head _)))))))))) 0 rfl
                  have f1 := hm44.free (g := g6) (t := 95) (cs := [.slice sR sn sr, .slice oR on_ orr]) (.tail _ (.tail _ (.tail _ (.tail _ (.tail _ (.tail _ (.tail _ (.tail _ (.tail _ (.head _)))))))))) 0
                  have hm45 : Mem w0 w42 (Blk g6 (.cells [.slice sR sn sr, .slice oR on_ orr].toArray 95) :: NL R40 xn r41 xxs :: P2 g5 ng og :: SB ng nA xn nc :: NL nA xn nc xxs :: NL TA29 (xn + 64) tc30 (xxs ++ marksL 64) :: SB sg sA sn sc_ :: NL sA sn sc_ sxs :: NL sR sn sr sxs :: Blk g10 (.cells [.int .i64 x1, .int .i64 x2, .int .i64 x3, .slice xA xn xc].toArray 66) :: SB og oA on_ oc_ :: NL oA on_ oc_ oxs :: NL oR on_ orr oxs :: Own 1 (.slice OA m oc) (lws outs) :: Own 1 (.slice WA m wc) (lws wants) :: (outs.map lsL ++ wants.map lsL)) := hm44.sel 15 [9, 0, 1, 2, 3, 4, 5, 6, 7, 8, 10, 11, 12, 13, 14] (by decide)
                  have hm46 := hm45.set 0 (.slice R40 xn r41)
                  simp only [List.set_cons_zero, List.set_cons_succ] at hm46
                  go_upto_region 24 with (fail)
                  clear q1 f1
                  generalize w42.setCell _ _ = w47 at hm46 ⊢
                  have p1 := hm46.cell (g := g5) (t := 94) (fr := (0, 0)) (cs := [.pointer (some ⟨ng, 0, none⟩), .pointer (some ⟨og, 0, none⟩)]) (.tail _ (.tail _ (.head _))) 0 rfl
                  have k3 := hm46.cell (g := g10) (t := 66) (fr := (0, 0)) (cs := [.int .i64 x1, .int .i64 x2, .int .i64 x3, .slice xA xn xc]) (.tail _ (.tail _ (.tail _ (.tail _ (.tail _ (.tail _ (.tail _ (.tail _ (.tail _ (.head _)))))))))) 3 rfl
                  have hm50 : Mem w0 w47 (NL TA29 (xn + 64) tc30 (xxs ++ marksL 64) :: Blk g6 (.cells [.slice R40 xn r41, .slice oR on_ orr].toArray 95) :: NL R40 xn r41 xxs :: P2 g5 ng og :: SB ng nA xn nc :: NL nA xn nc xxs :: SB sg sA sn sc_ :: NL sA sn sc_ sxs :: NL sR sn sr sxs :: Blk g10 (.cells [.int .i64 x1, .int .i64 x2, .int .i64 x3, .slice xA xn xc].toArray 66) :: SB og oA on_ oc_ :: NL oA on_ oc_ oxs :: NL oR on_ orr oxs :: Own 1 (.slice OA m oc) (lws outs) :: Own 1 (.slice WA m wc) (lws wants) :: (outs.map lsL ++ wants.map lsL)) := hm46.sel 15 [5, 0, 1, 2, 3, 4, 6, 7, 8, 9, 10, 11, 12, 13, 14] (by decide)
                  go_wp2_with fail
                  refine (keptL_ok w0 w47 _ TA29 xA xn tc30 xc xxs hm50 hxr0 (by omega)).mono ?_
                  rintro e w48 ⟨rfl, hm49⟩
                  clear k3
                  have hm51 : Mem w0 w48 (Blk g6 (.cells [.slice R40 xn r41, .slice oR on_ orr].toArray 95) :: NL R40 xn r41 xxs :: P2 g5 ng og :: SB ng nA xn nc :: NL nA xn nc xxs :: Blk g10 (.cells [.int .i64 x1, .int .i64 x2, .int .i64 x3, .slice xA xn xc].toArray 66) :: SB og oA on_ oc_ :: NL oA on_ oc_ oxs :: NL oR on_ orr oxs :: Own 1 (.slice OA m oc) (lws outs) :: Own 1 (.slice WA m wc) (lws wants) :: (outs.map lsL ++ wants.map lsL)) := hm49.sel 14 [0, 1, 2, 3, 4, 8, 9, 10, 11, 12, 13] (by decide)
                  have hfa9 : Fact (_ ∧ _ ∧ _ ∧ _) := ⟨by have h := hfa0.out; exact ⟨Nat.le_trans (Nat.le_add_left _ _) h.1.1, Nat.le_trans (Nat.le_add_right _ _) h.1.2, Nat.le_succ_of_le h.2.1, h.2.2⟩⟩
                  go_wp2
                  have hm52 : Mem w0 w48 (P2 g5 ng og :: Blk g6 (.cells [.slice R40 xn r41, .slice oR on_ orr].toArray 95) :: SB ng nA xn nc :: NL nA xn nc xxs :: NL R40 xn r41 xxs :: SB og oA on_ oc_ :: NL oA on_ oc_ oxs :: NL oR on_ orr oxs :: Own 1 (.slice OA m oc) (lws outs) :: Own 1 (.slice WA m wc) (lws wants) :: (outs.map lsL ++ wants.map lsL)) := hm51.sel 11 [2, 0, 3, 4, 1, 6, 7, 8, 9, 10] (by decide)
                  have hgo := hm52
                  go_roundw
                  case rel => exact ⟨i + 1, ⟨ng, nA, xn, nc, R40, r41, xxs⟩, ⟨og, oA, on_, oc_, oR, orr, oxs⟩, OA, m, oc, outs, WA, wc, wants, by go_num, by omega, rfl, rfl, hgo, hfa9⟩
                  case measure => simp [intOf]; omega
              · skip
                as_aux_lemma =>
                  by_cases hin : x3 < 0 ∨ (sn : Int) < x3
                  · skip
                    have q1 := hmN.cell (g := g6) (t := 95) (fr := (0, 0)) (cs := [.slice sR sn sr, .slice oR on_ orr]) (.tail _ (.tail _ (.tail _ (.tail _ (.tail _ (.head _)))))) 0 rfl
                    have k2 := hmN.cell (g := g10) (t := 66) (fr := (0, 0)) (cs := [.int .i64 x1, .int .i64 x2, .int .i64 x3, .slice xA xn xc]) (.tail _ (.tail _ (.tail _ (.head _)))) 2 rfl
                    go_upto_region 31 with (fail)
                    clear q1 k2
                    go_cut [14, 15, 16] (fun s14 s15 s16 W => ∃ (_u : Unit), s14 = .slice sR sn sr ∧ s15 = .slice none 0 0 ∧ s16 = .bool false ∧ Mem w0 W (SB sg sA sn sc_ :: NL sA sn sc_ sxs :: NL sR sn sr sxs :: Blk g10 (.cells [.int .i64 x1, .int .i64 x2, .int .i64 x3, .slice xA xn xc].toArray 66) :: P2 g5 sg og :: Blk g6 (.cells [.slice sR sn sr, .slice oR on_ orr].toArray 95) :: SB og oA on_ oc_ :: NL oA on_ oc_ oxs :: NL oR on_ orr oxs :: Own 1 (.slice OA m oc) (lws outs) :: Own 1 (.slice WA m wc) (lws wants) :: (outs.map lsL ++ wants.map lsL)))
                    case first =>
                      have hD53 : Mem w0 w6.drew (SB sg sA sn sc_ :: NL sA sn sc_ sxs :: NL sR sn sr sxs :: Blk g10 (.cells [.int .i64 x1, .int .i64 x2, .int .i64 x3, .slice xA xn xc].toArray 66) :: P2 g5 sg og :: Blk g6 (.cells [.slice sR sn sr, .slice oR on_ orr].toArray 95) :: SB og oA on_ oc_ :: NL oA on_ oc_ oxs :: NL oR on_ orr oxs :: Own 1 (.slice OA m oc) (lws outs) :: Own 1 (.slice WA m wc) (lws wants) :: (outs.map lsL ++ wants.map lsL)) := hmN.drew
                      refine wp_region_until (S := fun W => W.cell? ⟨g6, 0, none⟩ = some (.slice sR sn sr) ∧ W.cell? ⟨g10, 2, none⟩ = some (.int .i64 x3)) 12 (by kernel_rfl) ?_
                      generalize w6.drew = wd54 at hD53 ⊢
                      have q1_55 := hD53.cell (g := g6) (t := 95) (fr := (0, 0)) (cs := [.slice sR sn sr, .slice oR on_ orr]) (.tail _ (.tail _ (.tail _ (.tail _ (.tail _ (.head _)))))) 0 rfl
                      have k2_55 := hD53.cell (g := g10) (t := 66) (fr := (0, 0)) (cs := [.int .i64 x1, .int .i64 x2, .int .i64 x3, .slice xA xn xc]) (.tail _ (.tail _ (.tail _ (.head _)))) 2 rfl
                      refine wpAnyU_take 0 (v := ?vv31_1_1) rfl (by kernel_rfl) (by kernel_rfl) (fun _ _ _ h => h) ⟨q1_55, k2_55⟩ (Or.inl ⟨rfl, ?yv31_1_1⟩) ?rv31_1_1
                      case yv31_1_1 =>
                        intro W hW
                        obtain ⟨hW0, hW1⟩ := hW
                        go_simp
                        try with_reducible rfl
                      try simp only [Act.put, List.getElem_toArray, List.getElem_cons_succ, List.getElem_cons_zero, List.setIfInBounds_toArray, List.set_cons_zero, List.set_cons_succ]
                      refine wpAnyU_take 1 (v := ?vv31_1_2) rfl (by kernel_rfl) (by kernel_rfl) (fun _ _ _ h => h) ⟨q1_55, k2_55⟩ (Or.inl ⟨rfl, ?yv31_1_2⟩) ?rv31_1_2
                      case yv31_1_2 =>
                        intro W hW
                        obtain ⟨hW0, hW1⟩ := hW
                        go_simp
                        try with_reducible rfl
                      try simp only [Act.put, List.getElem_toArray, List.getElem_cons_succ, List.getElem_cons_zero, List.setIfInBounds_toArray, List.set_cons_zero, List.set_cons_succ]
                      refine wpAnyU_take 2 (v := ?vv31_1_3) rfl (by kernel_rfl) (by kernel_rfl) (fun _ _ _ h => h) ⟨q1_55, k2_55⟩ (Or.inl ⟨rfl, ?yv31_1_3⟩) ?rv31_1_3
                      case yv31_1_3 =>
                        intro W hW
                        obtain ⟨hW0, hW1⟩ := hW
                        go_simp
                        try with_reducible rfl
                      try simp only [Act.put, List.getElem_toArray, List.getElem_cons_succ, List.getElem_cons_zero, List.setIfInBounds_toArray, List.set_cons_zero, List.set_cons_succ]
                      refine wpAnyU_take 3 (v := ?vv31_1_4) rfl (by kernel_rfl) (by kernel_rfl) (fun _ _ _ h => h) ⟨q1_55, k2_55⟩ (Or.inl ⟨rfl, ?yv31_1_4⟩) ?rv31_1_4
                      case yv31_1_4 =>
                        intro W hW
                        obtain ⟨hW0, hW1⟩ := hW
                        go_simp
                        try with_reducible rfl
                      try simp only [Act.put, List.getElem_toArray, List.getElem_cons_succ, List.getElem_cons_zero, List.setIfInBounds_toArray, List.set_cons_zero, List.set_cons_succ]
                      refine wpAnyU_take 4 (v := ?vv31_1_5) rfl (by kernel_rfl) (by kernel_rfl) (fun _ _ _ h => h) ⟨q1_55, k2_55⟩ (Or.inl ⟨rfl, ?yv31_1_5⟩) ?rv31_1_5
                      case yv31_1_5 =>
                        intro W hW
                        obtain ⟨hW0, hW1⟩ := hW
                        go_simp
                        try with_reducible rfl
                      try simp only [Act.put, List.getElem_toArray, List.getElem_cons_succ, List.getElem_cons_zero, List.setIfInBounds_toArray, List.set_cons_zero, List.set_cons_succ]
                      refine wpAnyU_one 5 (by kernel_rfl) rfl (fun K hK => ?_)
                      refine step_callw rfl 56 Tryz.f56 Tryz.func56 (by kernel_rfl) (by kernel_rfl) _ _ rfl #[.slice sR sn sr, .int .i64 x3] (by simp [Act.eval]) ?_
                      refine (refPop_noG wd54 sR sn sr x3 hin).mono ?_
                      rintro e u56 ⟨rfl, hgg⟩
                      have hm58 : Mem w0 u56 (SB sg sA sn sc_ :: NL sA sn sc_ sxs :: NL sR sn sr sxs :: Blk g10 (.cells [.int .i64 x1, .int .i64 x2, .int .i64 x3, .slice xA xn xc].toArray 66) :: P2 g5 sg og :: Blk g6 (.cells [.slice sR sn sr, .slice oR on_ orr].toArray 95) :: SB og oA on_ oc_ :: NL oA on_ oc_ oxs :: NL oR on_ orr oxs :: Own 1 (.slice OA m oc) (lws outs) :: Own 1 (.slice WA m wc) (lws wants) :: (outs.map lsL ++ wants.map lsL)) := hD53.gr hgg
                      have q1_57 := hm58.cell (g := g6) (t := 95) (fr := (0, 0)) (cs := [.slice sR sn sr, .slice oR on_ orr]) (.tail _ (.tail _ (.tail _ (.tail _ (.tail _ (.head _)))))) 0 rfl
                      have k2_57 := hm58.cell (g := g10) (t := 66) (fr := (0, 0)) (cs := [.int .i64 x1, .int .i64 x2, .int .i64 x3, .slice xA xn xc]) (.tail _ (.tail _ (.tail _ (.head _)))) 2 rfl
                      refine ⟨_, rfl, hK _ _ (fun _ => ⟨q1_57, k2_57⟩) ?_⟩
                      clear hK K
                      try simp only [Act.put, List.getElem_toArray, List.getElem_cons_succ, List.getElem_cons_zero, List.setIfInBounds_toArray, List.set_cons_zero, List.set_cons_succ]
                      refine wpAnyU_take 6 (v := ?vv31_1_6) rfl (by kernel_rfl) (by kernel_rfl) (fun _ _ _ h => h) ⟨q1_57, k2_57⟩ (Or.inl ⟨rfl, ?yv31_1_6⟩) ?rv31_1_6
                      case yv31_1_6 =>
                        intro W hW
                        obtain ⟨hW0, hW1⟩ := hW
                        go_simp
                        try with_reducible rfl
                      try simp only [Act.put, List.getElem_toArray, List.getElem_cons_succ, List.getElem_cons_zero, List.setIfInBounds_toArray, List.set_cons_zero, List.set_cons_succ]
                      refine wpAnyU_take 7 (v := ?vv31_1_7) rfl (by kernel_rfl) (by kernel_rfl) (fun _ _ _ h => h) ⟨q1_57, k2_57⟩ (Or.inl ⟨rfl, ?yv31_1_7⟩) ?rv31_1_7
                      case yv31_1_7 =>
                        intro W hW
                        obtain ⟨hW0, hW1⟩ := hW
                        go_simp
                        try with_reducible rfl
                      try simp only [Act.put, List.getElem_toArray, List.getElem_cons_succ, List.getElem_cons_zero, List.setIfInBounds_toArray, List.set_cons_zero, List.set_cons_succ]
                      refine wpAnyU_take 8 (v := ?vv31_1_8) rfl (by kernel_rfl) (by kernel_rfl) (fun _ _ _ h => h) ⟨q1_57, k2_57⟩ (Or.inl ⟨rfl, ?yv31_1_8⟩) ?rv31_1_8
                      case yv31_1_8 =>
                        intro W hW
                        obtain ⟨hW0, hW1⟩ := hW
                        go_simp
                        try with_reducible rfl
                      try simp only [Act.put, List.getElem_toArray, List.getElem_cons_succ, List.getElem_cons_zero, List.setIfInBounds_toArray, List.set_cons_zero, List.set_cons_succ]
                      refine wpAnyU_take 9 (v := ?vv31_1_9) rfl (by kernel_rfl) (by kernel_rfl) (fun _ _ _ h => h) ⟨q1_57, k2_57⟩ (Or.inl ⟨rfl, ?yv31_1_9⟩) ?rv31_1_9
                      case yv31_1_9 =>
                        intro W hW
                        obtain ⟨hW0, hW1⟩ := hW
                        go_simp
                        try with_reducible rfl
                      try simp only [Act.put, List.getElem_toArray, List.getElem_cons_succ, List.getElem_cons_zero, List.setIfInBounds_toArray, List.set_cons_zero, List.set_cons_succ]
                      refine wpAnyU_take 10 (v := ?vv31_1_10) rfl (by kernel_rfl) (by kernel_rfl) (fun _ _ _ h => h) ⟨q1_57, k2_57⟩ (Or.inl ⟨rfl, ?yv31_1_10⟩) ?rv31_1_10
                      case yv31_1_10 =>
                        intro W hW
                        obtain ⟨hW0, hW1⟩ := hW
                        go_simp
                        try with_reducible rfl
                      try simp only [Act.put, List.getElem_toArray, List.getElem_cons_succ, List.getElem_cons_zero, List.setIfInBounds_toArray, List.set_cons_zero, List.set_cons_succ]
                      refine wpAnyU_take 11 (v := ?vv31_1_11) rfl (by kernel_rfl) (by kernel_rfl) (fun _ _ _ h => h) ⟨q1_57, k2_57⟩ (Or.inl ⟨rfl, ?yv31_1_11⟩) ?rv31_1_11
                      case yv31_1_11 =>
                        intro W hW
                        obtain ⟨hW0, hW1⟩ := hW
                        go_simp
                        try with_reducible rfl
                      try simp only [Act.put, List.getElem_toArray, List.getElem_cons_succ, List.getElem_cons_zero, List.setIfInBounds_toArray, List.set_cons_zero, List.set_cons_succ]
                      refine wpAnyU_one 12 (by kernel_rfl) rfl (fun K hK => ?_)
                      go_simp
                      refine hK _ _ (fun h => absurd h (by decide)) ?_
                      clear hK K
                      refine wpAnyU_done (by kernel_rfl) ?_ _
                      go_wp2
                      try simp only [Act.put, List.getElem_toArray, List.getElem_cons_succ, List.getElem_cons_zero, List.setIfInBounds_toArray, List.set_cons_succ, List.set_cons_zero]
                      go_meet
                      case rel => exact ⟨(), rfl, rfl, rfl, hm58⟩
                    case rest =>
                      obtain ⟨w59, rfl⟩ : ∃ w9 : World, w9 = wc := ⟨_, rfl⟩
                      obtain ⟨_, rfl, rfl, rfl, hm60⟩ := hcut
                      have p1 := hm60.cell (g := g5) (t := 94) (fr := (0, 0)) (cs := [.pointer (some ⟨sg, 0, none⟩), .pointer (some ⟨og, 0, none⟩)]) (.tail _ (.tail _ (.tail _ (.tail _ (.head _))))) 0 rfl
                      have k2 := hm60.cell (g := g10) (t := 66) (fr := (0, 0)) (cs := [.int .i64 x1, .int .i64 x2, .int .i64 x3, .slice xA xn xc]) (.tail _ (.tail _ (.tail _ (.head _)))) 2 rfl
                      go_upto_region 32 with (fail)
                      clear p1 k2
                      go_cut [17, 18] (fun s17 s18 W => ∃ (_u : Unit), s17 = .slice none 0 0 ∧ s18 = .bool false ∧ Mem w0 W (SB sg sA sn sc_ :: NL sA sn sc_ sxs :: NL sR sn sr sxs :: Blk g10 (.cells [.int .i64 x1, .int .i64 x2, .int .i64 x3, .slice xA xn xc].toArray 66) :: P2 g5 sg og :: Blk g6 (.cells [.slice sR sn sr, .slice oR on_ orr].toArray 95) :: SB og oA on_ oc_ :: NL oA on_ oc_ oxs :: NL oR on_ orr oxs :: Own 1 (.slice OA m oc) (lws outs) :: Own 1 (.slice WA m wc) (lws wants) :: (outs.map lsL ++ wants.map lsL)))
                      case first =>
                        have hD61 : Mem w0 w59.drew (SB sg sA sn sc_ :: NL sA sn sc_ sxs :: NL sR sn sr sxs :: Blk g10 (.cells [.int .i64 x1, .int .i64 x2, .int .i64 x3, .slice xA xn xc].toArray 66) :: P2 g5 sg og :: Blk g6 (.cells [.slice sR sn sr, .slice oR on_ orr].toArray 95) :: SB og oA on_ oc_ :: NL oA on_ oc_ oxs :: NL oR on_ orr oxs :: Own 1 (.slice OA m oc) (lws outs) :: Own 1 (.slice WA m wc) (lws wants) :: (outs.map lsL ++ wants.map lsL)) := hm60.drew
                        refine wp_region_until (S := fun W => W.cell? ⟨g5, 0, none⟩ = some (.pointer (some ⟨sg, 0, none⟩)) ∧ W.cell? ⟨g10, 2, none⟩ = some (.int .i64 x3)) 10 (by kernel_rfl) ?_
                        generalize w59.drew = wd62 at hD61 ⊢
                        have p1_63 := hD61.cell (g := g5) (t := 94) (fr := (0, 0)) (cs := [.pointer (some ⟨sg, 0, none⟩), .pointer (some ⟨og, 0, none⟩)]) (.tail _ (.tail _ (.tail _ (.tail _ (.head _))))) 0 rfl
                        have k2_63 := hD61.cell (g := g10) (t := 66) (fr := (0, 0)) (cs := [.int .i64 x1, .int .i64 x2, .int .i64 x3, .slice xA xn xc]) (.tail _ (.tail _ (.tail _ (.head _)))) 2 rfl
                        refine wpAnyU_take 0 (v := ?vv32_1_1) rfl (by kernel_rfl) (by kernel_rfl) (fun _ _ _ h => h) ⟨p1_63, k2_63⟩ (Or.inl ⟨rfl, ?yv32_1_1⟩) ?rv32_1_1
                        case yv32_1_1 =>
                          intro W hW
                          obtain ⟨hW0, hW1⟩ := hW
                          go_simp
                          try with_reducible rfl
                        try simp only [Act.put, List.getElem_toArray, List.getElem_cons_succ, List.getElem_cons_zero, List.setIfInBounds_toArray, List.set_cons_zero, List.set_cons_succ]
                        refine wpAnyU_take 1 (v := ?vv32_1_2) rfl (by kernel_rfl) (by kernel_rfl) (fun _ _ _ h => h) ⟨p1_63, k2_63⟩ (Or.inl ⟨rfl, ?yv32_1_2⟩) ?rv32_1_2
                        case yv32_1_2 =>
                          intro W hW
                          obtain ⟨hW0, hW1⟩ := hW
                          go_simp
                          try with_reducible rfl
                        try simp only [Act.put, List.getElem_toArray, List.getElem_cons_succ, List.getElem_cons_zero, List.setIfInBounds_toArray, List.set_cons_zero, List.set_cons_succ]
                        refine wpAnyU_take 2 (v := ?vv32_1_3) rfl (by kernel_rfl) (by kernel_rfl) (fun _ _ _ h => h) ⟨p1_63, k2_63⟩ (Or.inl ⟨rfl, ?yv32_1_3⟩) ?rv32_1_3
                        case yv32_1_3 =>
                          intro W hW
                          obtain ⟨hW0, hW1⟩ := hW
                          go_simp
                          try with_reducible rfl
                        try simp only [Act.put, List.getElem_toArray, List.getElem_cons_succ, List.getElem_cons_zero, List.setIfInBounds_toArray, List.set_cons_zero, List.set_cons_succ]
                        refine wpAnyU_take 3 (v := ?vv32_1_4) rfl (by kernel_rfl) (by kernel_rfl) (fun _ _ _ h => h) ⟨p1_63, k2_63⟩ (Or.inl ⟨rfl, ?yv32_1_4⟩) ?rv32_1_4
                        case yv32_1_4 =>
                          intro W hW
                          obtain ⟨hW0, hW1⟩ := hW
                          go_simp
                          try with_reducible rfl
                        try simp only [Act.put, List.getElem_toArray, List.getElem_cons_succ, List.getElem_cons_zero, List.setIfInBounds_toArray, List.set_cons_zero, List.set_cons_succ]
                        refine wpAnyU_take 4 (v := ?vv32_1_5) rfl (by kernel_rfl) (by kernel_rfl) (fun _ _ _ h => h) ⟨p1_63, k2_63⟩ (Or.inl ⟨rfl, ?yv32_1_5⟩) ?rv32_1_5
                        case yv32_1_5 =>
                          intro W hW
                          obtain ⟨hW0, hW1⟩ := hW
                          go_simp
                          try with_reducible rfl
                        try simp only [Act.put, List.getElem_toArray, List.getElem_cons_succ, List.getElem_cons_zero, List.setIfInBounds_toArray, List.set_cons_zero, List.set_cons_succ]
                        refine wpAnyU_one 5 (by kernel_rfl) rfl (fun K hK => ?_)
                        refine step_callw rfl 57 Tryz.f57 Tryz.func57 (by kernel_rfl) (by kernel_rfl) _ _ rfl #[.pointer (some ⟨sg, 0, none⟩), .int .i64 x3] (by simp [Act.eval]) ?_
                        refine (popNo2G w0 wd62 _ sg sA sn sc_ 134 hD61 (.head _) (by omega) x3 hin hx3).mono ?_
                        rintro e u64 ⟨rfl, hgg⟩
                        have hm66 : Mem w0 u64 (SB sg sA sn sc_ :: NL sA sn sc_ sxs :: NL sR sn sr sxs :: Blk g10 (.cells [.int .i64 x1, .int .i64 x2, .int .i64 x3, .slice xA xn xc].toArray 66) :: P2 g5 sg og :: Blk g6 (.cells [.slice sR sn sr, .slice oR on_ orr].toArray 95) :: SB og oA on_ oc_ :: NL oA on_ oc_ oxs :: NL oR on_ orr oxs :: Own 1 (.slice OA m oc) (lws outs) :: Own 1 (.slice WA m wc) (lws wants) :: (outs.map lsL ++ wants.map lsL)) := hD61.gr hgg
                        have p1_65 := hm66.cell (g := g5) (t := 94) (fr := (0, 0)) (cs := [.pointer (some ⟨sg, 0, none⟩), .pointer (some ⟨og, 0, none⟩)]) (.tail _ (.tail _ (.tail _ (.tail _ (.head _))))) 0 rfl
                        have k2_65 := hm66.cell (g := g10) (t := 66) (fr := (0, 0)) (cs := [.int .i64 x1, .int .i64 x2, .int .i64 x3, .slice xA xn xc]) (.tail _ (.tail _ (.tail _ (.head _)))) 2 rfl
                        refine ⟨_, rfl, hK _ _ (fun _ => ⟨p1_65, k2_65⟩) ?_⟩
                        clear hK K
                        try simp only [Act.put, List.getElem_toArray, List.getElem_cons_succ, List.getElem_cons_zero, List.setIfInBounds_toArray, List.set_cons_zero, List.set_cons_succ]
                        refine wpAnyU_take 6 (v := ?vv32_1_6) rfl (by kernel_rfl) (by kernel_rfl) (fun _ _ _ h => h) ⟨p1_65, k2_65⟩ (Or.inl ⟨rfl, ?yv32_1_6⟩) ?rv32_1_6
                        case yv32_1_6 =>
                          intro W hW
                          obtain ⟨hW0, hW1⟩ := hW
                          go_simp
                          try with_reducible rfl
                        try simp only [Act.put, List.getElem_toArray, List.getElem_cons_succ, List.getElem_cons_zero, List.setIfInBounds_toArray, List.set_cons_zero, List.set_cons_succ]
                        refine wpAnyU_take 7 (v := ?vv32_1_7) rfl (by kernel_rfl) (by kernel_rfl) (fun _ _ _ h => h) ⟨p1_65, k2_65⟩ (Or.inl ⟨rfl, ?yv32_1_7⟩) ?rv32_1_7
                        case yv32_1_7 =>
                          intro W hW
                          obtain ⟨hW0, hW1⟩ := hW
                          go_simp
                          try with_reducible rfl
                        try simp only [Act.put, List.getElem_toArray, List.getElem_cons_succ, List.getElem_cons_zero, List.setIfInBounds_toArray, List.set_cons_zero, List.set_cons_succ]
                        refine wpAnyU_take 8 (v := ?vv32_1_8) rfl (by kernel_rfl) (by kernel_rfl) (fun _ _ _ h => h) ⟨p1_65, k2_65⟩ (Or.inl ⟨rfl, ?yv32_1_8⟩) ?rv32_1_8
                        case yv32_1_8 =>
                          intro W hW
                          obtain ⟨hW0, hW1⟩ := hW
                          go_simp
                          try with_reducible rfl
                        try simp only [Act.put, List.getElem_toArray, List.getElem_cons_succ, List.getElem_cons_zero, List.setIfInBounds_toArray, List.set_cons_zero, List.set_cons_succ]
                        refine wpAnyU_take 9 (v := ?vv32_1_9) rfl (by kernel_rfl) (by kernel_rfl) (fun _ _ _ h => h) ⟨p1_65, k2_65⟩ (Or.inl ⟨rfl, ?yv32_1_9⟩) ?rv32_1_9
                        case yv32_1_9 =>
                          intro W hW
                          obtain ⟨hW0, hW1⟩ := hW
                          go_simp
                          try with_reducible rfl
                        try simp only [Act.put, List.getElem_toArray, List.getElem_cons_succ, List.getElem_cons_zero, List.setIfInBounds_toArray, List.set_cons_zero, List.set_cons_succ]
                        refine wpAnyU_one 10 (by kernel_rfl) rfl (fun K hK => ?_)
                        go_simp
                        refine hK _ _ (fun h => absurd h (by decide)) ?_
                        clear hK K
                        refine wpAnyU_done (by kernel_rfl) ?_ _
                        go_wp2
                        try simp only [Act.put, List.getElem_toArray, List.getElem_cons_succ, List.getElem_cons_zero, List.setIfInBounds_toArray, List.set_cons_succ, List.set_cons_zero]
                        go_meet
                        case rel => exact ⟨(), rfl, rfl, hm66⟩
                      case rest =>
                        obtain ⟨w67, rfl⟩ : ∃ w9 : World, w9 = wc := ⟨_, rfl⟩
                        obtain ⟨_, rfl, rfl, hm68⟩ := hcut
                        have hm69 : Mem w0 w67 (NL none 0 0 [] :: NL none 0 0 [] :: SB sg sA sn sc_ :: NL sA sn sc_ sxs :: NL sR sn sr sxs :: Blk g10 (.cells [.int .i64 x1, .int .i64 x2, .int .i64 x3, .slice xA xn xc].toArray 66) :: P2 g5 sg og :: Blk g6 (.cells [.slice sR sn sr, .slice oR on_ orr].toArray 95) :: SB og oA on_ oc_ :: NL oA on_ oc_ oxs :: NL oR on_ orr oxs :: Own 1 (.slice OA m oc) (lws outs) :: Own 1 (.slice WA m wc) (lws wants) :: (outs.map lsL ++ wants.map lsL)) := (hm68.nil 1 none).nil 1 none
                        go_upto_region 34 with (at_builtin; refine wp_app rfl _ _ _ rfl 34 iS _ 1 24 ty_LLs si sz0 sz1 sz2 rfl OA m oc _ rfl ((hm69.alloc _).sel 14 [12, 0, 1, 2, 3, 4, 5, 6, 7, 8, 9, 10, 11, 13] (by decide)) _ 1 1 [.slice none 0 0] rfl (RdC.lit _ _ _ _ _ rfl (by simp [maxLen]) (lws_one [⟨none, 0, 0, []⟩])) (by unfold maxLen; omega) (by omega) ?_; intro A70 c71 w72 hm73)
                        have hm74 : Mem w0 w72 (Own 1 (.slice A70 (m + 1) c71) (lws (outs ++ [⟨none, 0, 0, []⟩])) :: NL none 0 0 [] :: NL none 0 0 [] :: SB sg sA sn sc_ :: NL sA sn sc_ sxs :: NL sR sn sr sxs :: Blk g10 (.cells [.int .i64 x1, .int .i64 x2, .int .i64 x3, .slice xA xn xc].toArray 66) :: P2 g5 sg og :: Blk g6 (.cells [.slice sR sn sr, .slice oR on_ orr].toArray 95) :: SB og oA on_ oc_ :: NL oA on_ oc_ oxs :: NL oR on_ orr oxs :: Own 1 (.slice WA m wc) (lws wants) :: (outs.map lsL ++ wants.map lsL)) := by rw [lws_app]; exact hm73.sub (.cons_cons _ (.cons _ (List.Sublist.refl _)))
                        go_upto_region 35 with (at_builtin; refine wp_app rfl _ _ _ rfl 34 iS _ 1 24 ty_LLs si sz0 sz1 sz2 rfl WA m wc _ rfl ((hm74.alloc _).sel 14 [13, 0, 1, 2, 3, 4, 5, 6, 7, 8, 9, 10, 11, 12] (by decide)) _ 1 1 [.slice none 0 0] rfl (RdC.lit _ _ _ _ _ rfl (by simp [maxLen]) (lws_one [⟨none, 0, 0, []⟩])) (by unfold maxLen; omega) (by omega) ?_; intro A75 c76 w77 hm78)
                        have hm79 : Mem w0 w77 (Own 1 (.slice A75 (m + 1) c76) (lws (wants ++ [⟨none, 0, 0, []⟩])) :: Own 1 (.slice A70 (m + 1) c71) (lws (outs ++ [⟨none, 0, 0, []⟩])) :: NL none 0 0 [] :: NL none 0 0 [] :: SB sg sA sn sc_ :: NL sA sn sc_ sxs :: NL sR sn sr sxs :: Blk g10 (.cells [.int .i64 x1, .int .i64 x2, .int .i64 x3, .slice xA xn xc].toArray 66) :: P2 g5 sg og :: Blk g6 (.cells [.slice sR sn sr, .slice oR on_ orr].toArray 95) :: SB og oA on_ oc_ :: NL oA on_ oc_ oxs :: NL oR on_ orr oxs :: (outs.map lsL ++ wants.map lsL)) := by rw [lws_app]; exact hm78.sub (.cons_cons _ (.cons _ (List.Sublist.refl _)))
                        have q1 := hm79.cell (g := g6) (t := 95) (fr := (0, 0)) (cs := [.slice sR sn sr, .slice oR on_ orr]) (.tail _ (.tail _ (.tail _ (.tail _ (.tail _ (.tail _ (.tail _ (.tail _ (.tail _ (.head _)))))))))) 0 rfl
                        have f1 := hm79.free (g := g6) (t := 95) (cs := [.slice sR sn sr, .slice oR on_ orr]) (.tail _ (.tail _ (.tail _ (.tail _ (.tail _ (.tail _ (.tail _ (.tail _ (.tail _ (.head _)))))))))) 0
                        have hm80 : Mem w0 w77 (Blk g6 (.cells [.slice sR sn sr, .slice oR on_ orr].toArray 95) :: Own 1 (.slice A75 (m + 1) c76) (lws (wants ++ [⟨none, 0, 0, []⟩])) :: Own 1 (.slice A70 (m + 1) c71) (lws (outs ++ [⟨none, 0, 0, []⟩])) :: NL none 0 0 [] :: NL none 0 0 [] :: SB sg sA sn sc_ :: NL sA sn sc_ sxs :: NL sR sn sr sxs :: Blk g10 (.cells [.int .i64 x1, .int .i64 x2, .int .i64 x3, .slice xA xn xc].toArray 66) :: P2 g5 sg og :: SB og oA on_ oc_ :: NL oA on_ oc_ oxs :: NL oR on_ orr oxs :: (outs.map lsL ++ wants.map lsL)) := hm79.sel 13 [9, 0, 1, 2, 3, 4, 5, 6, 7, 8, 10, 11, 12] (by decide)
                        have hm81 := hm80.set 0 (.slice sR sn sr)
                        simp only [List.set_cons_zero, List.set_cons_succ] at hm81
                        go_upto_region 36 with (fail)
                        clear q1 f1
                        generalize w77.setCell _ _ = w82 at hm81 ⊢
                        go_wp2
                        have hm83 : Mem w0 w82 (P2 g5 sg og :: Blk g6 (.cells [.slice sR sn sr, .slice oR on_ orr].toArray 95) :: SB sg sA sn sc_ :: NL sA sn sc_ sxs :: NL sR sn sr sxs :: SB og oA on_ oc_ :: NL oA on_ oc_ oxs :: NL oR on_ orr oxs :: Own 1 (.slice A70 (m + 1) c71) (lws (outs ++ [⟨none, 0, 0, []⟩])) :: Own 1 (.slice A75 (m + 1) c76) (lws (wants ++ [⟨none, 0, 0, []⟩])) :: NL none 0 0 [] :: NL none 0 0 [] :: (outs.map lsL ++ wants.map lsL)) := hm81.sel 13 [9, 0, 5, 6, 7, 10, 11, 12, 2, 1, 3, 4] (by decide)
                        have hm84 : Mem w0 w82 (P2 g5 sg og :: Blk g6 (.cells [.slice sR sn sr, .slice oR on_ orr].toArray 95) :: SB sg sA sn sc_ :: NL sA sn sc_ sxs :: NL sR sn sr sxs :: SB og oA on_ oc_ :: NL oA on_ oc_ oxs :: NL oR on_ orr oxs :: Own 1 (.slice A70 (m + 1) c71) (lws (outs ++ [⟨none, 0, 0, []⟩])) :: Own 1 (.slice A75 (m + 1) c76) (lws (wants ++ [⟨none, 0, 0, []⟩])) :: ((outs ++ ([⟨none, 0, 0, []⟩] : List LL)).map lsL ++ (wants ++ ([⟨none, 0, 0, []⟩] : List LL)).map lsL)) := by rw [List.map_append, List.map_append]; exact hm83.perm (perm_tail [_, _, _, _, _, _, _, _, _, _] _ _ _ _)
                        have hfa9 : Fact (_ ∧ _ ∧ _ ∧ OutsOk (m + 1) (outs ++ ([⟨none, 0, 0, []⟩] : List LL)) (wants ++ ([⟨none, 0, 0, []⟩] : List LL))) := ⟨by have h := hfa0.out; exact ⟨Nat.le_trans (Nat.le_add_right _ _) h.1.1, Nat.le_trans (Nat.le_add_right _ _) h.1.2, Nat.succ_le_succ h.2.1, h.2.2.snoc _ _ rfl rfl (by simp only; omega)⟩⟩
                        go_roundw
                        case rel => exact ⟨i + 1, ⟨sg, sA, sn, sc_, sR, sr, sxs⟩, ⟨og, oA, on_, oc_, oR, orr, oxs⟩, A70, m + 1, c71, _, A75, c76, _, by go_num, by omega, rfl, rfl, hm84, hfa9⟩
                        case measure => simp [intOf]; omega
                  · skip
                    obtain ⟨kk, rfl⟩ : ∃ kk : Nat, x3 = (kk : Int) := ⟨x3.toNat, by omega⟩
                    have hkk : kk ≤ sn := by omega
                    obtain ⟨qq, hqq⟩ : ∃ qq, Fact (sn - kk = qq) := ⟨_, ⟨rfl⟩⟩
                    have hqq1 : qq ≤ sn := by have := hqq.out; omega
                    have hrA := fun hc => OwnAt.addr (hmN.ok _ (.tail _ (.tail _ (.head _)))) hc
                    have q1 := hmN.cell (g := g6) (t := 95) (fr := (0, 0)) (cs := [.slice sR sn sr, .slice oR on_ orr]) (.tail _ (.tail _ (.tail _ (.tail _ (.tail _ (.head _)))))) 0 rfl
                    have k2 := hmN.cell (g := g10) (t := 66) (fr := (0, 0)) (cs := [.int .i64 x1, .int .i64 x2, .int .i64 (kk : Int), .slice xA xn xc]) (.tail _ (.tail _ (.tail _ (.head _)))) 2 rfl
                    go_upto_region 31 with (fail)
                    clear q1 k2
                    go_cut [14, 15, 16] (fun s14 s15 s16 W => ∃ (NA : Option Addr) (nc : Nat) (JA : Option Addr) (jc : Nat), s14 = .slice NA qq nc ∧ s15 = .slice JA kk jc ∧ s16 = .bool true ∧ Mem w0 W (NL JA kk jc (sxs.drop qq) :: NL NA qq nc (sxs.take qq) :: SB sg sA sn sc_ :: NL sA sn sc_ sxs :: NL sR sn sr sxs :: Blk g10 (.cells [.int .i64 x1, .int .i64 x2, .int .i64 (kk : Int), .slice xA xn xc].toArray 66) :: P2 g5 sg og :: Blk g6 (.cells [.slice sR sn sr, .slice oR on_ orr].toArray 95) :: SB og oA on_ oc_ :: NL oA on_ oc_ oxs :: NL oR on_ orr oxs :: Own 1 (.slice OA m oc) (lws outs) :: Own 1 (.slice WA m wc) (lws wants) :: (outs.map lsL ++ wants.map lsL)))
                    case first =>
                      have hD85 : Mem w0 w6.drew (SB sg sA sn sc_ :: NL sA sn sc_ sxs :: NL sR sn sr sxs :: Blk g10 (.cells [.int .i64 x1, .int .i64 x2, .int .i64 (kk : Int), .slice xA xn xc].toArray 66) :: P2 g5 sg og :: Blk g6 (.cells [.slice sR sn sr, .slice oR on_ orr].toArray 95) :: SB og oA on_ oc_ :: NL oA on_ oc_ oxs :: NL oR on_ orr oxs :: Own 1 (.slice OA m oc) (lws outs) :: Own 1 (.slice WA m wc) (lws wants) :: (outs.map lsL ++ wants.map lsL)) := hmN.drew
                      refine wp_region_until (S := fun W => W.cell? ⟨g6, 0, none⟩ = some (.slice sR sn sr) ∧ W.cell? ⟨g10, 2, none⟩ = some (.int .i64 (kk : Int))) 12 (by kernel_rfl) ?_
                      generalize w6.drew = wd86 at hD85 ⊢
                      have q1_87 := hD85.cell (g := g6) (t := 95) (fr := (0, 0)) (cs := [.slice sR sn sr, .slice oR on_ orr]) (.tail _ (.tail _ (.tail _ (.tail _ (.tail _ (.head _)))))) 0 rfl
                      have k2_87 := hD85.cell (g := g10) (t := 66) (fr := (0, 0)) (cs := [.int .i64 x1, .int .i64 x2, .int .i64 (kk : Int), .slice xA xn xc]) (.tail _ (.tail _ (.tail _ (.head _)))) 2 rfl
                      refine wpAnyU_take 0 (v := ?vv31_2_1) rfl (by kernel_rfl) (by kernel_rfl) (fun _ _ _ h => h) ⟨q1_87, k2_87⟩ (Or.inl ⟨rfl, ?yv31_2_1⟩) ?rv31_2_1
                      case yv31_2_1 =>
                        intro W hW
                        obtain ⟨hW0, hW1⟩ := hW
                        go_simp
                        try with_reducible rfl
                      try simp only [Act.put, List.getElem_toArray, List.getElem_cons_succ, List.getElem_cons_zero, List.setIfInBounds_toArray, List.set_cons_zero, List.set_cons_succ]
                      refine wpAnyU_take 1 (v := ?vv31_2_2) rfl (by kernel_rfl) (by kernel_rfl) (fun _ _ _ h => h) ⟨q1_87, k2_87⟩ (Or.inl ⟨rfl, ?yv31_2_2⟩) ?rv31_2_2
                      case yv31_2_2 =>
                        intro W hW
                        obtain ⟨hW0, hW1⟩ := hW
                        go_simp
                        try with_reducible rfl
                      try simp only [Act.put, List.getElem_toArray, List.getElem_cons_succ, List.getElem_cons_zero, List.setIfInBounds_toArray, List.set_cons_zero, List.set_cons_succ]
                      refine wpAnyU_take 2 (v := ?vv31_2_3) rfl (by kernel_rfl) (by kernel_rfl) (fun _ _ _ h => h) ⟨q1_87, k2_87⟩ (Or.inl ⟨rfl, ?yv31_2_3⟩) ?rv31_2_3
                      case yv31_2_3 =>
                        intro W hW
                        obtain ⟨hW0, hW1⟩ := hW
                        go_simp
                        try with_reducible rfl
                      try simp only [Act.put, List.getElem_toArray, List.getElem_cons_succ, List.getElem_cons_zero, List.setIfInBounds_toArray, List.set_cons_zero, List.set_cons_succ]
                      refine wpAnyU_take 3 (v := ?vv31_2_4) rfl (by kernel_rfl) (by kernel_rfl) (fun _ _ _ h => h) ⟨q1_87, k2_87⟩ (Or.inl ⟨rfl, ?yv31_2_4⟩) ?rv31_2_4
                      case yv31_2_4 =>
                        intro W hW
                        obtain ⟨hW0, hW1⟩ := hW
                        go_simp
                        try with_reducible rfl
                      try simp only [Act.put, List.getElem_toArray, List.getElem_cons_succ, List.getElem_cons_zero, List.setIfInBounds_toArray, List.set_cons_zero, List.set_cons_succ]
                      refine wpAnyU_take 4 (v := ?vv31_2_5) rfl (by kernel_rfl) (by kernel_rfl) (fun _ _ _ h => h) ⟨q1_87, k2_87⟩ (Or.inl ⟨rfl, ?yv31_2_5⟩) ?rv31_2_5
                      case yv31_2_5 =>
                        intro W hW
                        obtain ⟨hW0, hW1⟩ := hW
                        go_simp
                        try with_reducible rfl
                      try simp only [Act.put, List.getElem_toArray, List.getElem_cons_succ, List.getElem_cons_zero, List.setIfInBounds_toArray, List.set_cons_zero, List.set_cons_succ]
                      refine wpAnyU_one 5 (by kernel_rfl) rfl (fun K hK => ?_)
                      refine step_callw rfl 56 Tryz.f56 Tryz.func56 (by kernel_rfl) (by kernel_rfl) _ _ rfl #[.slice sR sn sr, .int .i64 (kk : Int)] (by simp [Act.eval]) ?_
                      refine (refPop_ok wd86 sR sn sr sxs ⟨hD85.rd (.tail _ (.tail _ (.head _)))⟩ (by omega) kk hkk _ rfl hrA).mono ?_
                      rintro e u88 ⟨NA, nc, JA, jc, rfl, hmP⟩
                      rw [hqq.out] at hmP
                      have hm90 : Mem w0 u88 (NL JA kk jc (sxs.drop qq) :: NL NA qq nc (sxs.take qq) :: SB sg sA sn sc_ :: NL sA sn sc_ sxs :: NL sR sn sr sxs :: Blk g10 (.cells [.int .i64 x1, .int .i64 x2, .int .i64 (kk : Int), .slice xA xn xc].toArray 66) :: P2 g5 sg og :: Blk g6 (.cells [.slice sR sn sr, .slice oR on_ orr].toArray 95) :: SB og oA on_ oc_ :: NL oA on_ oc_ oxs :: NL oR on_ orr oxs :: Own 1 (.slice OA m oc) (lws outs) :: Own 1 (.slice WA m wc) (lws wants) :: (outs.map lsL ++ wants.map lsL)) := hD85.join hmP
                      have q1_89 := hm90.cell (g := g6) (t := 95) (fr := (0, 0)) (cs := [.slice sR sn sr, .slice oR on_ orr]) (.tail _ (.tail _ (.tail _ (.tail _ (.tail _ (.tail _ (.tail _ (.head _)))))))) 0 rfl
                      have k2_89 := hm90.cell (g := g10) (t := 66) (fr := (0, 0)) (cs := [.int .i64 x1, .int .i64 x2, .int .i64 (kk : Int), .slice xA xn xc]) (.tail _ (.tail _ (.tail _ (.tail _ (.tail _ (.head _)))))) 2 rfl
                      refine ⟨_, rfl, hK _ _ (fun _ => ⟨q1_89, k2_89⟩) ?_⟩
                      clear hK K
                      try simp only [Act.put, List.getElem_toArray, List.getElem_cons_succ, List.getElem_cons_zero, List.setIfInBounds_toArray, List.set_cons_zero, List.set_cons_succ]
                      refine wpAnyU_take 6 (v := ?vv31_2_6) rfl (by kernel_rfl) (by kernel_rfl) (fun _ _ _ h => h) ⟨q1_89, k2_89⟩ (Or.inl ⟨rfl, ?yv31_2_6⟩) ?rv31_2_6
                      case yv31_2_6 =>
                        intro W hW
                        obtain ⟨hW0, hW1⟩ := hW
                        go_simp
                        try with_reducible rfl
                      try simp only [Act.put, List.getElem_toArray, List.getElem_cons_succ, List.getElem_cons_zero, List.setIfInBounds_toArray, List.set_cons_zero, List.set_cons_succ]
                      refine wpAnyU_take 7 (v := ?vv31_2_7) rfl (by kernel_rfl) (by kernel_rfl) (fun _ _ _ h => h) ⟨q1_89, k2_89⟩ (Or.inl ⟨rfl, ?yv31_2_7⟩) ?rv31_2_7
                      case yv31_2_7 =>
                        intro W hW
                        obtain ⟨hW0, hW1⟩ := hW
                        go_simp
                        try with_reducible rfl
                      try simp only [Act.put, List.getElem_toArray, List.getElem_cons_succ, List.getElem_cons_zero, List.setIfInBounds_toArray, List.set_cons_zero, List.set_cons_succ]
                      refine wpAnyU_take 8 (v := ?vv31_2_8) rfl (by kernel_rfl) (by kernel_rfl) (fun _ _ _ h => h) ⟨q1_89, k2_89⟩ (Or.inl ⟨rfl, ?yv31_2_8⟩) ?rv31_2_8
                      case yv31_2_8 =>
                        intro W hW
                        obtain ⟨hW0, hW1⟩ := hW
                        go_simp
                        try with_reducible rfl
                      try simp only [Act.put, List.getElem_toArray, List.getElem_cons_succ, List.getElem_cons_zero, List.setIfInBounds_toArray, List.set_cons_zero, List.set_cons_succ]
                      refine wpAnyU_take 9 (v := ?vv31_2_9) rfl (by kernel_rfl) (by kernel_rfl) (fun _ _ _ h => h) ⟨q1_89, k2_89⟩ (Or.inl ⟨rfl, ?yv31_2_9⟩) ?rv31_2_9
                      case yv31_2_9 =>
                        intro W hW
                        obtain ⟨hW0, hW1⟩ := hW
                        go_simp
                        try with_reducible rfl
                      try simp only [Act.put, List.getElem_toArray, List.getElem_cons_succ, List.getElem_cons_zero, List.setIfInBounds_toArray, List.set_cons_zero, List.set_cons_succ]
                      refine wpAnyU_take 10 (v := ?vv31_2_10) rfl (by kernel_rfl) (by kernel_rfl) (fun _ _ _ h => h) ⟨q1_89, k2_89⟩ (Or.inl ⟨rfl, ?yv31_2_10⟩) ?rv31_2_10
                      case yv31_2_10 =>
                        intro W hW
                        obtain ⟨hW0, hW1⟩ := hW
                        go_simp
                        try with_reducible rfl
                      try simp only [Act.put, List.getElem_toArray, List.getElem_cons_succ, List.getElem_cons_zero, List.setIfInBounds_toArray, List.set_cons_zero, List.set_cons_succ]
                      refine wpAnyU_take 11 (v := ?vv31_2_11) rfl (by kernel_rfl) (by kernel_rfl) (fun _ _ _ h => h) ⟨q1_89, k2_89⟩ (Or.inl ⟨rfl, ?yv31_2_11⟩) ?rv31_2_11
                      case yv31_2_11 =>
                        intro W hW
                        obtain ⟨hW0, hW1⟩ := hW
                        go_simp
                        try with_reducible rfl
                      try simp only [Act.put, List.getElem_toArray, List.getElem_cons_succ, List.getElem_cons_zero, List.setIfInBounds_toArray, List.set_cons_zero, List.set_cons_succ]
                      refine wpAnyU_one 12 (by kernel_rfl) rfl (fun K hK => ?_)
                      go_simp
                      refine hK _ _ (fun h => absurd h (by decide)) ?_
                      clear hK K
                      refine wpAnyU_done (by kernel_rfl) ?_ _
                      go_wp2
                      try simp only [Act.put, List.getElem_toArray, List.getElem_cons_succ, List.getElem_cons_zero, List.setIfInBounds_toArray, List.set_cons_succ, List.set_cons_zero]
                      go_meet
                      case rel => exact ⟨_, _, _, _, by rw [hqq.out], rfl, rfl, hm90⟩
                    case rest =>
                      obtain ⟨w91, rfl⟩ : ∃ w9 : World, w9 = wc := ⟨_, rfl⟩
                      obtain ⟨NA, nc, JA, jc, rfl, rfl, rfl, hm92⟩ := hcut
                      have hm93 : Mem w0 w91 (SB sg sA sn sc_ :: NL sA sn sc_ sxs :: NL JA kk jc (sxs.drop qq) :: NL NA qq nc (sxs.take qq) :: NL sR sn sr sxs :: Blk g10 (.cells [.int .i64 x1, .int .i64 x2, .int .i64 (kk : Int), .slice xA xn xc].toArray 66) :: P2 g5 sg og :: Blk g6 (.cells [.slice sR sn sr, .slice oR on_ orr].toArray 95) :: SB og oA on_ oc_ :: NL oA on_ oc_ oxs :: NL oR on_ orr oxs :: Own 1 (.slice OA m oc) (lws outs) :: Own 1 (.slice WA m wc) (lws wants) :: (outs.map lsL ++ wants.map lsL)) := hm92.sel 13 [2, 3, 0, 1, 4, 5, 6, 7, 8, 9, 10, 11, 12] (by decide)
                      have p1 := hm93.cell (g := g5) (t := 94) (fr := (0, 0)) (cs := [.pointer (some ⟨sg, 0, none⟩), .pointer (some ⟨og, 0, none⟩)]) (.tail _ (.tail _ (.tail _ (.tail _ (.tail _ (.tail _ (.head _))))))) 0 rfl
                      have k2 := hm93.cell (g := g10) (t := 66) (fr := (0, 0)) (cs := [.int .i64 x1, .int .i64 x2, .int .i64 (kk : Int), .slice xA xn xc]) (.tail _ (.tail _ (.tail _ (.tail _ (.tail _ (.head _)))))) 2 rfl
                      go_upto_region 32 with (fail)
                      clear p1 k2
                      go_cut [17, 18] (fun s17 s18 W => ∃ (IA : Option Addr) (ic : Nat), s17 = .slice IA kk ic ∧ s18 = .bool true ∧ Mem w0 W (SB sg sA qq qq :: NL sA qq qq (sxs.take qq) :: NL IA kk ic (sxs.drop qq) :: NL JA kk jc (sxs.drop qq) :: NL NA qq nc (sxs.take qq) :: NL sR sn sr sxs :: Blk g10 (.cells [.int .i64 x1, .int .i64 x2, .int .i64 (kk : Int), .slice xA xn xc].toArray 66) :: P2 g5 sg og :: Blk g6 (.cells [.slice sR sn sr, .slice oR on_ orr].toArray 95) :: SB og oA on_ oc_ :: NL oA on_ oc_ oxs :: NL oR on_ orr oxs :: Own 1 (.slice OA m oc) (lws outs) :: Own 1 (.slice WA m wc) (lws wants) :: (outs.map lsL ++ wants.map lsL)))
                      case first =>
                        have hD94 : Mem w0 w91.drew (SB sg sA sn sc_ :: NL sA sn sc_ sxs :: NL JA kk jc (sxs.drop qq) :: NL NA qq nc (sxs.take qq) :: NL sR sn sr sxs :: Blk g10 (.cells [.int .i64 x1, .int .i64 x2, .int .i64 (kk : Int), .slice xA xn xc].toArray 66) :: P2 g5 sg og :: Blk g6 (.cells [.slice sR sn sr, .slice oR on_ orr].toArray 95) :: SB og oA on_ oc_ :: NL oA on_ oc_ oxs :: NL oR on_ orr oxs :: Own 1 (.slice OA m oc) (lws outs) :: Own 1 (.slice WA m wc) (lws wants) :: (outs.map lsL ++ wants.map lsL)) := hm93.drew
                        refine wp_region_until (S := fun W => W.cell? ⟨g5, 0, none⟩ = some (.pointer (some ⟨sg, 0, none⟩)) ∧ W.cell? ⟨g10, 2, none⟩ = some (.int .i64 (kk : Int))) 10 (by kernel_rfl) ?_
                        generalize w91.drew = wd95 at hD94 ⊢
                        have p1_96 := hD94.cell (g := g5) (t := 94) (fr := (0, 0)) (cs := [.pointer (some ⟨sg, 0, none⟩), .pointer (some ⟨og, 0, none⟩)]) (.tail _ (.tail _ (.tail _ (.tail _ (.tail _ (.tail _ (.head _))))))) 0 rfl
                        have k2_96 := hD94.cell (g := g10) (t := 66) (fr := (0, 0)) (cs := [.int .i64 x1, .int .i64 x2, .int .i64 (kk : Int), .slice xA xn xc]) (.tail _ (.tail _ (.tail _ (.tail _ (.tail _ (.head _)))))) 2 rfl
                        refine wpAnyU_take 0 (v := ?vv32_2_1) rfl (by kernel_rfl) (by kernel_rfl) (fun _ _ _ h => h) ⟨p1_96, k2_96⟩ (Or.inl ⟨rfl, ?yv32_2_1⟩) ?rv32_2_1
                        case yv32_2_1 =>
                          intro W hW
                          obtain ⟨hW0, hW1⟩ := hW
                          go_simp
                          try with_reducible rfl
                        try simp only [Act.put, List.getElem_toArray, List.getElem_cons_succ, List.getElem_cons_zero, List.setIfInBounds_toArray, List.set_cons_zero, List.set_cons_succ]
                        refine wpAnyU_take 1 (v := ?vv32_2_2) rfl (by kernel_rfl) (by kernel_rfl) (fun _ _ _ h => h) ⟨p1_96, k2_96⟩ (Or.inl ⟨rfl, ?yv32_2_2⟩) ?rv32_2_2
                        case yv32_2_2 =>
                          intro W hW
                          obtain ⟨hW0, hW1⟩ := hW
                          go_simp
                          try with_reducible rfl
                        try simp only [Act.put, List.getElem_toArray, List.getElem_cons_succ, List.getElem_cons_zero, List.setIfInBounds_toArray, List.set_cons_zero, List.set_cons_succ]
                        refine wpAnyU_take 2 (v := ?vv32_2_3) rfl (by kernel_rfl) (by kernel_rfl) (fun _ _ _ h => h) ⟨p1_96, k2_96⟩ (Or.inl ⟨rfl, ?yv32_2_3⟩) ?rv32_2_3
                        case yv32_2_3 =>
                          intro W hW
                          obtain ⟨hW0, hW1⟩ := hW
                          go_simp
                          try with_reducible rfl
                        try simp only [Act.put, List.getElem_toArray, List.getElem_cons_succ, List.getElem_cons_zero, List.setIfInBounds_toArray, List.set_cons_zero, List.set_cons_succ]
                        refine wpAnyU_take 3 (v := ?vv32_2_4) rfl (by kernel_rfl) (by kernel_rfl) (fun _ _ _ h => h) ⟨p1_96, k2_96⟩ (Or.inl ⟨rfl, ?yv32_2_4⟩) ?rv32_2_4
                        case yv32_2_4 =>
                          intro W hW
                          obtain ⟨hW0, hW1⟩ := hW
                          go_simp
                          try with_reducible rfl
                        try simp only [Act.put, List.getElem_toArray, List.getElem_cons_succ, List.getElem_cons_zero, List.setIfInBounds_toArray, List.set_cons_zero, List.set_cons_succ]
                        refine wpAnyU_take 4 (v := ?vv32_2_5) rfl (by kernel_rfl) (by kernel_rfl) (fun _ _ _ h => h) ⟨p1_96, k2_96⟩ (Or.inl ⟨rfl, ?yv32_2_5⟩) ?rv32_2_5
                        case yv32_2_5 =>
                          intro W hW
                          obtain ⟨hW0, hW1⟩ := hW
                          go_simp
                          try with_reducible rfl
                        try simp only [Act.put, List.getElem_toArray, List.getElem_cons_succ, List.getElem_cons_zero, List.setIfInBounds_toArray, List.set_cons_zero, List.set_cons_succ]
                        refine wpAnyU_one 5 (by kernel_rfl) rfl (fun K hK => ?_)
                        refine step_callw rfl 57 Tryz.f57 Tryz.func57 (by kernel_rfl) (by kernel_rfl) _ _ rfl #[.pointer (some ⟨sg, 0, none⟩), .int .i64 (kk : Int)] (by simp [Act.eval]) ?_
                        refine (popL_ok w0 wd95 _ sg sA sn sc_ sxs 134 hD94 (by omega) kk hkk _ rfl).mono ?_
                        rintro e u97 ⟨IA, ic, rfl, hmP⟩
                        rw [hqq.out] at hmP
                        have hm99 : Mem w0 u97 (SB sg sA qq qq :: NL sA qq qq (sxs.take qq) :: NL IA kk ic (sxs.drop qq) :: NL JA kk jc (sxs.drop qq) :: NL NA qq nc (sxs.take qq) :: NL sR sn sr sxs :: Blk g10 (.cells [.int .i64 x1, .int .i64 x2, .int .i64 (kk : Int), .slice xA xn xc].toArray 66) :: P2 g5 sg og :: Blk g6 (.cells [.slice sR sn sr, .slice oR on_ orr].toArray 95) :: SB og oA on_ oc_ :: NL oA on_ oc_ oxs :: NL oR on_ orr oxs :: Own 1 (.slice OA m oc) (lws outs) :: Own 1 (.slice WA m wc) (lws wants) :: (outs.map lsL ++ wants.map lsL)) := hmP
                        have p1_98 := hm99.cell (g := g5) (t := 94) (fr := (0, 0)) (cs := [.pointer (some ⟨sg, 0, none⟩), .pointer (some ⟨og, 0, none⟩)]) (.tail _ (.tail _ (.tail _ (.tail _ (.tail _ (.tail _ (.tail _ (.head _)))))))) 0 rfl
                        have k2_98 := hm99.cell (g := g10) (t := 66) (fr := (0, 0)) (cs := [.int .i64 x1, .int .i64 x2, .int .i64 (kk : Int), .slice xA xn xc]) (.tail _ (.tail _ (.tail _ (.tail _ (.tail _ (.tail _ (.head _))))))) 2 rfl
                        refine ⟨_, rfl, hK _ _ (fun _ => ⟨p1_98, k2_98⟩) ?_⟩
                        clear hK K
                        try simp only [Act.put, List.getElem_toArray, List.getElem_cons_succ, List.getElem_cons_zero, List.setIfInBounds_toArray, List.set_cons_zero, List.set_cons_succ]
                        refine wpAnyU_take 6 (v := ?vv32_2_6) rfl (by kernel_rfl) (by kernel_rfl) (fun _ _ _ h => h) ⟨p1_98, k2_98⟩ (Or.inl ⟨rfl, ?yv32_2_6⟩) ?rv32_2_6
                        case yv32_2_6 =>
                          intro W hW
                          obtain ⟨hW0, hW1⟩ := hW
                          go_simp
                          try with_reducible rfl
                        try simp only [Act.put, List.getElem_toArray, List.getElem_cons_succ, List.getElem_cons_zero, List.setIfInBounds_toArray, List.set_cons_zero, List.set_cons_succ]
                        refine wpAnyU_take 7 (v := ?vv32_2_7) rfl (by kernel_rfl) (by kernel_rfl) (fun _ _ _ h => h) ⟨p1_98, k2_98⟩ (Or.inl ⟨rfl, ?yv32_2_7⟩) ?rv32_2_7
                        case yv32_2_7 =>
                          intro W hW
                          obtain ⟨hW0, hW1⟩ := hW
                          go_simp
                          try with_reducible rfl
                        try simp only [Act.put, List.getElem_toArray, List.getElem_cons_succ, List.getElem_cons_zero, List.setIfInBounds_toArray, List.set_cons_zero, List.set_cons_succ]
                        refine wpAnyU_take 8 (v := ?vv32_2_8) rfl (by kernel_rfl) (by kernel_rfl) (fun _ _ _ h => h) ⟨p1_98, k2_98⟩ (Or.inl ⟨rfl, ?yv32_2_8⟩) ?rv32_2_8
                        case yv32_2_8 =>
                          intro W hW
                          obtain ⟨hW0, hW1⟩ := hW
                          go_simp
                          try with_reducible rfl
                        try simp only [Act.put, List.getElem_toArray, List.getElem_cons_succ, List.getElem_cons_zero, List.setIfInBounds_toArray, List.set_cons_zero, List.set_cons_succ]
                        refine wpAnyU_take 9 (v := ?vv32_2_9) rfl (by kernel_rfl) (by kernel_rfl) (fun _ _ _ h => h) ⟨p1_98, k2_98⟩ (Or.inl ⟨rfl, ?yv32_2_9⟩) ?rv32_2_9
                        case yv32_2_9 =>
                          intro W hW
                          obtain ⟨hW0, hW1⟩ := hW
                          go_simp
                          try with_reducible rfl
                        try simp only [Act.put, List.getElem_toArray, List.getElem_cons_succ, List.getElem_cons_zero, List.setIfInBounds_toArray, List.set_cons_zero, List.set_cons_succ]
                        refine wpAnyU_one 10 (by kernel_rfl) rfl (fun K hK => ?_)
                        go_simp
                        refine hK _ _ (fun h => absurd h (by decide)) ?_
                        clear hK K
                        refine wpAnyU_done (by kernel_rfl) ?_ _
                        go_wp2
                        try simp only [Act.put, List.getElem_toArray, List.getElem_cons_succ, List.getElem_cons_zero, List.setIfInBounds_toArray, List.set_cons_succ, List.set_cons_zero]
                        go_meet
                        case rel => exact ⟨_, _, rfl, rfl, hm99⟩
                      case rest =>
                        obtain ⟨w100, rfl⟩ : ∃ w9 : World, w9 = wc := ⟨_, rfl⟩
                        obtain ⟨IA, ic, rfl, rfl, hm101⟩ := hcut
                        have hm102 : Mem w0 w100 (SB sg sA qq qq :: NL sA qq qq (sxs.take qq) :: NL IA kk ic (sxs.drop qq) :: NL JA kk jc (sxs.drop qq) :: NL NA qq nc (sxs.take qq) :: Blk g10 (.cells [.int .i64 x1, .int .i64 x2, .int .i64 (kk : Int), .slice xA xn xc].toArray 66) :: P2 g5 sg og :: Blk g6 (.cells [.slice sR sn sr, .slice oR on_ orr].toArray 95) :: SB og oA on_ oc_ :: NL oA on_ oc_ oxs :: NL oR on_ orr oxs :: Own 1 (.slice OA m oc) (lws outs) :: Own 1 (.slice WA m wc) (lws wants) :: (outs.map lsL ++ wants.map lsL)) := hm101.sel 14 [0, 1, 2, 3, 4, 6, 7, 8, 9, 10, 11, 12, 13] (by decide)
                        go_upto_region 34 with (at_builtin; refine wp_app rfl _ _ _ rfl 34 iS _ 1 24 ty_LLs si sz0 sz1 sz2 rfl OA m oc _ rfl ((hm102.alloc _).sel 14 [12, 0, 1, 2, 3, 4, 5, 6, 7, 8, 9, 10, 11, 13] (by decide)) _ 1 1 [.slice IA kk ic] rfl (RdC.lit _ _ _ _ _ rfl (by simp [maxLen]) (lws_one [⟨IA, kk, ic, []⟩])) (by unfold maxLen; omega) (by omega) ?_; intro A103 c104 w105 hm106)
                        have hm107 : Mem w0 w105 (Own 1 (.slice A103 (m + 1) c104) (lws (outs ++ [⟨IA, kk, ic, (sxs.drop qq)⟩])) :: SB sg sA qq qq :: NL sA qq qq (sxs.take qq) :: NL IA kk ic (sxs.drop qq) :: NL JA kk jc (sxs.drop qq) :: NL NA qq nc (sxs.take qq) :: Blk g10 (.cells [.int .i64 x1, .int .i64 x2, .int .i64 (kk : Int), .slice xA xn xc].toArray 66) :: P2 g5 sg og :: Blk g6 (.cells [.slice sR sn sr, .slice oR on_ orr].toArray 95) :: SB og oA on_ oc_ :: NL oA on_ oc_ oxs :: NL oR on_ orr oxs :: Own 1 (.slice WA m wc) (lws wants) :: (outs.map lsL ++ wants.map lsL)) := by rw [lws_app]; exact hm106.sub (.cons_cons _ (.cons _ (List.Sublist.refl _)))
                        go_upto_region 35 with (at_builtin; refine wp_app rfl _ _ _ rfl 34 iS _ 1 24 ty_LLs si sz0 sz1 sz2 rfl WA m wc _ rfl ((hm107.alloc _).sel 14 [13, 0, 1, 2, 3, 4, 5, 6, 7, 8, 9, 10, 11, 12] (by decide)) _ 1 1 [.slice JA kk jc] rfl (RdC.lit _ _ _ _ _ rfl (by simp [maxLen]) (lws_one [⟨JA, kk, jc, []⟩])) (by unfold maxLen; omega) (by omega) ?_; intro A108 c109 w110 hm111)
                        have hm112 : Mem w0 w110 (Own 1 (.slice A108 (m + 1) c109) (lws (wants ++ [⟨JA, kk, jc, (sxs.drop qq)⟩])) :: Own 1 (.slice A103 (m + 1) c104) (lws (outs ++ [⟨IA, kk, ic, (sxs.drop qq)⟩])) :: SB sg sA qq qq :: NL sA qq qq (sxs.take qq) :: NL IA kk ic (sxs.drop qq) :: NL JA kk jc (sxs.drop qq) :: NL NA qq nc (sxs.take qq) :: Blk g10 (.cells [.int .i64 x1, .int .i64 x2, .int .i64 (kk : Int), .slice xA xn xc].toArray 66) :: P2 g5 sg og :: Blk g6 (.cells [.slice sR sn sr, .slice oR on_ orr].toArray 95) :: SB og oA on_ oc_ :: NL oA on_ oc_ oxs :: NL oR on_ orr oxs :: (outs.map lsL ++ wants.map lsL)) := by rw [lws_app]; exact hm111.sub (.cons_cons _ (.cons _ (List.Sublist.refl _)))
                        have q1 := hm112.cell (g := g6) (t := 95) (fr := (0, 0)) (cs := [.slice sR sn sr, .slice oR on_ orr]) (.tail _ (.tail _ (.tail _ (.tail _ (.tail _ (.tail _ (.tail _ (.tail _ (.tail _ (.head _)))))))))) 0 rfl
                        have f1 := hm112.free (g := g6) (t := 95) (cs := [.slice sR sn sr, .slice oR on_ orr]) (.tail _ (.tail _ (.tail _ (.tail _ (.tail _ (.tail _ (.tail _ (.tail _ (.tail _ (.head _)))))))))) 0
                        have hm113 : Mem w0 w110 (Blk g6 (.cells [.slice sR sn sr, .slice oR on_ orr].toArray 95) :: Own 1 (.slice A108 (m + 1) c109) (lws (wants ++ [⟨JA, kk, jc, (sxs.drop qq)⟩])) :: Own 1 (.slice A103 (m + 1) c104) (lws (outs ++ [⟨IA, kk, ic, (sxs.drop qq)⟩])) :: SB sg sA qq qq :: NL sA qq qq (sxs.take qq) :: NL IA kk ic (sxs.drop qq) :: NL JA kk jc (sxs.drop qq) :: NL NA qq nc (sxs.take qq) :: Blk g10 (.cells [.int .i64 x1, .int .i64 x2, .int .i64 (kk : Int), .slice xA xn xc].toArray 66) :: P2 g5 sg og :: SB og oA on_ oc_ :: NL oA on_ oc_ oxs :: NL oR on_ orr oxs :: (outs.map lsL ++ wants.map lsL)) := hm112.sel 13 [9, 0, 1, 2, 3, 4, 5, 6, 7, 8, 10, 11, 12] (by decide)
                        have hm114 := hm113.set 0 (.slice NA qq nc)
                        simp only [List.set_cons_zero, List.set_cons_succ] at hm114
                        go_upto_region 36 with (fail)
                        clear q1 f1
                        generalize w110.setCell _ _ = w115 at hm114 ⊢
                        go_wp2
                        have hm116 : Mem w0 w115 (P2 g5 sg og :: Blk g6 (.cells [.slice NA qq nc, .slice oR on_ orr].toArray 95) :: SB sg sA qq qq :: NL sA qq qq (sxs.take qq) :: NL NA qq nc (sxs.take qq) :: SB og oA on_ oc_ :: NL oA on_ oc_ oxs :: NL oR on_ orr oxs :: Own 1 (.slice A103 (m + 1) c104) (lws (outs ++ [⟨IA, kk, ic, (sxs.drop qq)⟩])) :: Own 1 (.slice A108 (m + 1) c109) (lws (wants ++ [⟨JA, kk, jc, (sxs.drop qq)⟩])) :: NL IA kk ic (sxs.drop qq) :: NL JA kk jc (sxs.drop qq) :: (outs.map lsL ++ wants.map lsL)) := hm114.sel 13 [9, 0, 3, 4, 7, 10, 11, 12, 2, 1, 5, 6] (by decide)
                        have hm117 : Mem w0 w115 (P2 g5 sg og :: Blk g6 (.cells [.slice NA qq nc, .slice oR on_ orr].toArray 95) :: SB sg sA qq qq :: NL sA qq qq (sxs.take qq) :: NL NA qq nc (sxs.take qq) :: SB og oA on_ oc_ :: NL oA on_ oc_ oxs :: NL oR on_ orr oxs :: Own 1 (.slice A103 (m + 1) c104) (lws (outs ++ [⟨IA, kk, ic, (sxs.drop qq)⟩])) :: Own 1 (.slice A108 (m + 1) c109) (lws (wants ++ [⟨JA, kk, jc, (sxs.drop qq)⟩])) :: ((outs ++ ([⟨IA, kk, ic, (sxs.drop qq)⟩] : List LL)).map lsL ++ (wants ++ ([⟨JA, kk, jc, (sxs.drop qq)⟩] : List LL)).map lsL)) := by rw [List.map_append, List.map_append]; exact hm116.perm (perm_tail [_, _, _, _, _, _, _, _, _, _] _ _ _ _)
                        have hfa9 : Fact (_ ∧ _ ∧ _ ∧ OutsOk (m + 1) (outs ++ ([⟨IA, kk, ic, (sxs.drop qq)⟩] : List LL)) (wants ++ ([⟨JA, kk, jc, (sxs.drop qq)⟩] : List LL))) := ⟨by have h := hfa0.out; exact ⟨Nat.le_trans hqq1 (Nat.le_trans (Nat.le_add_right _ _) h.1.1), Nat.le_trans (Nat.le_add_right _ _) h.1.2, Nat.succ_le_succ h.2.1, h.2.2.snoc _ _ rfl rfl (by simp only; omega)⟩⟩
                        go_roundw
                        case rel => exact ⟨i + 1, ⟨sg, sA, qq, qq, NA, nc, (sxs.take qq)⟩, ⟨og, oA, on_, oc_, oR, orr, oxs⟩, A103, m + 1, c104, _, A108, c109, _, by go_num, by omega, rfl, rfl, hm117, hfa9⟩
                        case measure => simp [intOf]; omega
              · skip
                as_aux_lemma =>
                  have p1 := hmN.cell (g := g5) (t := 94) (fr := (0, 0)) (cs := [.pointer (some ⟨sg, 0, none⟩), .pointer (some ⟨og, 0, none⟩)]) (.tail _ (.tail _ (.tail _ (.tail _ (.head _))))) 0 rfl
                  go_wp2_with fail
                  refine (itemsL_ok w0 w6 _ sg sA sn sc_ sxs 134 hmN (.head _) ⟨hmN.rd (.tail _ (.head _))⟩ (by omega)).mono ?_
                  rintro e w120 ⟨A118, c119, rfl, hm121⟩
                  clear p1
                  have hm122 : Mem w0 w120 (NL A118 sn c119 sxs :: SB sg sA sn sc_ :: NL sA sn sc_ sxs :: NL sR sn sr sxs :: Blk g10 (.cells [.int .i64 x1, .int .i64 x2, .int .i64 x3, .slice xA xn xc].toArray 66) :: P2 g5 sg og :: Blk g6 (.cells [.slice sR sn sr, .slice oR on_ orr].toArray 95) :: SB og oA on_ oc_ :: NL oA on_ oc_ oxs :: NL oR on_ orr oxs :: Own 1 (.slice OA m oc) (lws outs) :: Own 1 (.slice WA m wc) (lws wants) :: (outs.map lsL ++ wants.map lsL)) := hm121
                  go_upto_region 40 with (at_builtin; refine wp_app rfl _ _ _ rfl 34 iS _ 1 24 ty_LLs si sz0 sz1 sz2 rfl OA m oc _ rfl ((hm122.alloc _).sel 13 [11, 0, 1, 2, 3, 4, 5, 6, 7, 8, 9, 10, 12] (by decide)) _ 1 1 [.slice A118 sn c119] rfl (RdC.lit _ _ _ _ _ rfl (by simp [maxLen]) (lws_one [⟨A118, sn, c119, []⟩])) (by unfold maxLen; omega) (by omega) ?_; intro A123 c124 w125 hm126)
                  have hm127 : Mem w0 w125 (Own 1 (.slice A123 (m + 1) c124) (lws (outs ++ [⟨A118, sn, c119, sxs⟩])) :: NL A118 sn c119 sxs :: SB sg sA sn sc_ :: NL sA sn sc_ sxs :: NL sR sn sr sxs :: Blk g10 (.cells [.int .i64 x1, .int .i64 x2, .int .i64 x3, .slice xA xn xc].toArray 66) :: P2 g5 sg og :: Blk g6 (.cells [.slice sR sn sr, .slice oR on_ orr].toArray 95) :: SB og oA on_ oc_ :: NL oA on_ oc_ oxs :: NL oR on_ orr oxs :: Own 1 (.slice WA m wc) (lws wants) :: (outs.map lsL ++ wants.map lsL)) := by rw [lws_app]; exact hm126.sub (.cons_cons _ (.cons _ (List.Sublist.refl _)))
                  have q1 := hm127.cell (g := g6) (t := 95) (fr := (0, 0)) (cs := [.slice sR sn sr, .slice oR on_ orr]) (.tail _ (.tail _ (.tail _ (.tail _ (.tail _ (.tail _ (.tail _ (.head _)))))))) 0 rfl
                  go_wp2_with fail
                  refine (copyLongsS_ok w125 sR sn sr sxs ⟨hm127.rd (.tail _ (.tail _ (.tail _ (.tail _ (.head _)))))⟩ (by omega)).mono ?_
                  rintro e w130 ⟨A128, c129, rfl, hn131⟩
                  have hm132 := hm127.new hn131
                  clear q1
                  go_wp2_with (at_builtin; refine wp_app rfl _ _ _ rfl 34 iS _ 1 24 ty_LLs si sz0 sz1 sz2 rfl WA m wc _ rfl ((hm132.alloc _).sel 14 [13, 0, 1, 2, 3, 4, 5, 6, 7, 8, 9, 10, 11, 12] (by decide)) _ 1 1 [.slice A128 sn c129] rfl (RdC.lit _ _ _ _ _ rfl (by simp [maxLen]) (lws_one [⟨A128, sn, c129, []⟩])) (by unfold maxLen; omega) (by omega) ?_; intro A133 c134 w135 hm136)
                  have hm137 : Mem w0 w135 (Own 1 (.slice A133 (m + 1) c134) (lws (wants ++ [⟨A128, sn, c129, sxs⟩])) :: NL A128 sn c129 sxs :: Own 1 (.slice A123 (m + 1) c124) (lws (outs ++ [⟨A118, sn, c119, sxs⟩])) :: NL A118 sn c119 sxs :: SB sg sA sn sc_ :: NL sA sn sc_ sxs :: NL sR sn sr sxs :: Blk g10 (.cells [.int .i64 x1, .int .i64 x2, .int .i64 x3, .slice xA xn xc].toArray 66) :: P2 g5 sg og :: Blk g6 (.cells [.slice sR sn sr, .slice oR on_ orr].toArray 95) :: SB og oA on_ oc_ :: NL oA on_ oc_ oxs :: NL oR on_ orr oxs :: (outs.map lsL ++ wants.map lsL)) := by rw [lws_app]; exact hm136.sub (.cons_cons _ (.cons _ (List.Sublist.refl _)))
                  have hm138 : Mem w0 w135 (P2 g5 sg og :: Blk g6 (.cells [.slice sR sn sr, .slice oR on_ orr].toArray 95) :: SB sg sA sn sc_ :: NL sA sn sc_ sxs :: NL sR sn sr sxs :: SB og oA on_ oc_ :: NL oA on_ oc_ oxs :: NL oR on_ orr oxs :: Own 1 (.slice A123 (m + 1) c124) (lws (outs ++ [⟨A118, sn, c119, sxs⟩])) :: Own 1 (.slice A133 (m + 1) c134) (lws (wants ++ [⟨A128, sn, c129, sxs⟩])) :: NL A118 sn c119 sxs :: NL A128 sn c129 sxs :: (outs.map lsL ++ wants.map lsL)) := hm137.sel 13 [8, 9, 4, 5, 6, 10, 11, 12, 2, 0, 3, 1] (by decide)
                  have hm139 : Mem w0 w135 (P2 g5 sg og :: Blk g6 (.cells [.slice sR sn sr, .slice oR on_ orr].toArray 95) :: SB sg sA sn sc_ :: NL sA sn sc_ sxs :: NL sR sn sr sxs :: SB og oA on_ oc_ :: NL oA on_ oc_ oxs :: NL oR on_ orr oxs :: Own 1 (.slice A123 (m + 1) c124) (lws (outs ++ [⟨A118, sn, c119, sxs⟩])) :: Own 1 (.slice A133 (m + 1) c134) (lws (wants ++ [⟨A128, sn, c129, sxs⟩])) :: ((outs ++ ([⟨A118, sn, c119, sxs⟩] : List LL)).map lsL ++ (wants ++ ([⟨A128, sn, c129, sxs⟩] : List LL)).map lsL)) := by rw [List.map_append, List.map_append]; exact hm138.perm (perm_tail [_, _, _, _, _, _, _, _, _, _] _ _ _ _)
                  have hfa9 : Fact (_ ∧ _ ∧ _ ∧ OutsOk (m + 1) (outs ++ ([⟨A118, sn, c119, sxs⟩] : List LL)) (wants ++ ([⟨A128, sn, c129, sxs⟩] : List LL))) := ⟨by have h := hfa0.out; exact ⟨Nat.le_trans (Nat.le_add_right _ _) h.1.1, Nat.le_trans (Nat.le_add_right _ _) h.1.2, Nat.succ_le_succ h.2.1, h.2.2.snoc _ _ rfl rfl (by simp only; omega)⟩⟩
                  go_roundw
                  case rel => exact ⟨i + 1, ⟨sg, sA, sn, sc_, sR, sr, sxs⟩, ⟨og, oA, on_, oc_, oR, orr, oxs⟩, A123, m + 1, c124, _, A133, c134, _, by go_num, by omega, rfl, rfl, hm139, hfa9⟩
                  case measure => simp [intOf]; omega
              · skip
                as_aux_lemma =>
                  rcases hk4 with rfl | rfl | rfl
                  · skip
                    have p1 := hmN.cell (g := g5) (t := 94) (fr := (0, 0)) (cs := [.pointer (some ⟨sg, 0, none⟩), .pointer (some ⟨og, 0, none⟩)]) (.tail _ (.tail _ (.tail _ (.tail _ (.head _))))) 0 rfl
                    have q1 := hmN.cell (g := g6) (t := 95) (fr := (0, 0)) (cs := [.slice sR sn sr, .slice oR on_ orr]) (.tail _ (.tail _ (.tail _ (.tail _ (.tail _ (.head _)))))) 0 rfl
                    have k2 := hmN.cell (g := g10) (t := 66) (fr := (0, 0)) (cs := [.int .i64 x1, .int .i64 x2, .int .i64 x3, .slice xA xn xc]) (.tail _ (.tail _ (.tail _ (.head _)))) 2 rfl
                    have k3 := hmN.cell (g := g10) (t := 66) (fr := (0, 0)) (cs := [.int .i64 x1, .int .i64 x2, .int .i64 x3, .slice xA xn xc]) (.tail _ (.tail _ (.tail _ (.head _)))) 3 rfl
                    have k0 := hmN.cell (g := g10) (t := 66) (fr := (0, 0)) (cs := [.int .i64 x1, .int .i64 x2, .int .i64 x3, .slice xA xn xc]) (.tail _ (.tail _ (.tail _ (.head _)))) 0 rfl
                    have k1 := hmN.cell (g := g10) (t := 66) (fr := (0, 0)) (cs := [.int .i64 x1, .int .i64 x2, .int .i64 x3, .slice xA xn xc]) (.tail _ (.tail _ (.tail _ (.head _)))) 1 rfl
                    go_upto_region 41 with (fail)
                    clear p1 q1 k0 k1 k2 k3
                    go_cut [19, 20] (fun s19 s20 W => ∃ (tA : Option Addr) (tn tc : Nat) (tR : Option Addr) (tr : Nat) (txs : List Int), s19 = .slice tR tn tr ∧ s20 = .bool true ∧ tn ≤ sn ∧ Mem w0 W (SB sg tA tn tc :: NL tA tn tc txs :: NL tR tn tr txs :: Blk g10 (.cells [.int .i64 x1, .int .i64 x2, .int .i64 x3, .slice xA xn xc].toArray 66) :: P2 g5 sg og :: Blk g6 (.cells [.slice sR sn sr, .slice oR on_ orr].toArray 95) :: SB og oA on_ oc_ :: NL oA on_ oc_ oxs :: NL oR on_ orr oxs :: Own 1 (.slice OA m oc) (lws outs) :: Own 1 (.slice WA m wc) (lws wants) :: (outs.map lsL ++ wants.map lsL)))
                    case first =>
                      have hD140 : Mem w0 w6.drew (SB sg sA sn sc_ :: NL sA sn sc_ sxs :: NL sR sn sr sxs :: Blk g10 (.cells [.int .i64 x1, .int .i64 x2, .int .i64 x3, .slice xA xn xc].toArray 66) :: P2 g5 sg og :: Blk g6 (.cells [.slice sR sn sr, .slice oR on_ orr].toArray 95) :: SB og oA on_ oc_ :: NL oA on_ oc_ oxs :: NL oR on_ orr oxs :: Own 1 (.slice OA m oc) (lws outs) :: Own 1 (.slice WA m wc) (lws wants) :: (outs.map lsL ++ wants.map lsL)) := hmN.drew
                      refine wp_region_until (S := fun W => W.cell? ⟨g5, 0, none⟩ = some (.pointer (some ⟨sg, 0, none⟩)) ∧ W.cell? ⟨g6, 0, none⟩ = some (.slice sR sn sr) ∧ W.cell? ⟨g10, 0, none⟩ = some (.int .i64 x1) ∧ W.cell? ⟨g10, 1, none⟩ = some (.int .i64 x2) ∧ W.cell? ⟨g10, 2, none⟩ = some (.int .i64 x3) ∧ W.cell? ⟨g10, 3, none⟩ = some (.slice xA xn xc)) 13 (by kernel_rfl) ?_
                      generalize w6.drew = wd141 at hD140 ⊢
                      have p1_142 := hD140.cell (g := g5) (t := 94) (fr := (0, 0)) (cs := [.pointer (some ⟨sg, 0, none⟩), .pointer (some ⟨og, 0, none⟩)]) (.tail _ (.tail _ (.tail _ (.tail _ (.head _))))) 0 rfl
                      have q1_142 := hD140.cell (g := g6) (t := 95) (fr := (0, 0)) (cs := [.slice sR sn sr, .slice oR on_ orr]) (.tail _ (.tail _ (.tail _ (.tail _ (.tail _ (.head _)))))) 0 rfl
                      have k0_142 := hD140.cell (g := g10) (t := 66) (fr := (0, 0)) (cs := [.int .i64 x1, .int .i64 x2, .int .i64 x3, .slice xA xn xc]) (.tail _ (.tail _ (.tail _ (.head _)))) 0 rfl
                      have k1_142 := hD140.cell (g := g10) (t := 66) (fr := (0, 0)) (cs := [.int .i64 x1, .int .i64 x2, .int .i64 x3, .slice xA xn xc]) (.tail _ (.tail _ (.tail _ (.head _)))) 1 rfl
                      have k2_142 := hD140.cell (g := g10) (t := 66) (fr := (0, 0)) (cs := [.int .i64 x1, .int .i64 x2, .int .i64 x3, .slice xA xn xc]) (.tail _ (.tail _ (.tail _ (.head _)))) 2 rfl
                      have k3_142 := hD140.cell (g := g10) (t := 66) (fr := (0, 0)) (cs := [.int .i64 x1, .int .i64 x2, .int .i64 x3, .slice xA xn xc]) (.tail _ (.tail _ (.tail _ (.head _)))) 3 rfl
                      refine wpAnyU_take 0 (v := ?vv41_1_1) rfl (by kernel_rfl) (by kernel_rfl) (fun _ _ _ h => h) ⟨p1_142, q1_142, k0_142, k1_142, k2_142, k3_142⟩ (Or.inl ⟨rfl, ?yv41_1_1⟩) ?rv41_1_1
                      case yv41_1_1 =>
                        intro W hW
                        obtain ⟨hW0, hW1, hW2, hW3, hW4, hW5⟩ := hW
                        go_simp
                        try with_reducible rfl
                      try simp only [Act.put, List.getElem_toArray, List.getElem_cons_succ, List.getElem_cons_zero, List.setIfInBounds_toArray, List.set_cons_zero, List.set_cons_succ]
                      refine wpAnyU_take 1 (v := ?vv41_1_2) rfl (by kernel_rfl) (by kernel_rfl) (fun _ _ _ h => h) ⟨p1_142, q1_142, k0_142, k1_142, k2_142, k3_142⟩ (Or.inl ⟨rfl, ?yv41_1_2⟩) ?rv41_1_2
                      case yv41_1_2 =>
                        intro W hW
                        obtain ⟨hW0, hW1, hW2, hW3, hW4, hW5⟩ := hW
                        go_simp
                        try with_reducible rfl
                      try simp only [Act.put, List.getElem_toArray, List.getElem_cons_succ, List.getElem_cons_zero, List.setIfInBounds_toArray, List.set_cons_zero, List.set_cons_succ]
                      refine wpAnyU_take 2 (v := ?vv41_1_3) rfl (by kernel_rfl) (by kernel_rfl) (fun _ _ _ h => h) ⟨p1_142, q1_142, k0_142, k1_142, k2_142, k3_142⟩ (Or.inl ⟨rfl, ?yv41_1_3⟩) ?rv41_1_3
                      case yv41_1_3 =>
                        intro W hW
                        obtain ⟨hW0, hW1, hW2, hW3, hW4, hW5⟩ := hW
                        go_simp
                        try with_reducible rfl
                      try simp only [Act.put, List.getElem_toArray, List.getElem_cons_succ, List.getElem_cons_zero, List.setIfInBounds_toArray, List.set_cons_zero, List.set_cons_succ]
                      refine wpAnyU_take 3 (v := ?vv41_1_4) rfl (by kernel_rfl) (by kernel_rfl) (fun _ _ _ h => h) ⟨p1_142, q1_142, k0_142, k1_142, k2_142, k3_142⟩ (Or.inl ⟨rfl, ?yv41_1_4⟩) ?rv41_1_4
                      case yv41_1_4 =>
                        intro W hW
                        obtain ⟨hW0, hW1, hW2, hW3, hW4, hW5⟩ := hW
                        go_simp
                        try with_reducible rfl
                      try simp only [Act.put, List.getElem_toArray, List.getElem_cons_succ, List.getElem_cons_zero, List.setIfInBounds_toArray, List.set_cons_zero, List.set_cons_succ]
                      refine wpAnyU_take 4 (v := ?vv41_1_5) rfl (by kernel_rfl) (by kernel_rfl) (fun _ _ _ h => h) ⟨p1_142, q1_142, k0_142, k1_142, k2_142, k3_142⟩ (Or.inl ⟨rfl, ?yv41_1_5⟩) ?rv41_1_5
                      case yv41_1_5 =>
                        intro W hW
                        obtain ⟨hW0, hW1, hW2, hW3, hW4, hW5⟩ := hW
                        go_simp
                        try with_reducible rfl
                      try simp only [Act.put, List.getElem_toArray, List.getElem_cons_succ, List.getElem_cons_zero, List.setIfInBounds_toArray, List.set_cons_zero, List.set_cons_succ]
                      refine wpAnyU_take 5 (v := ?vv41_1_6) rfl (by kernel_rfl) (by kernel_rfl) (fun _ _ _ h => h) ⟨p1_142, q1_142, k0_142, k1_142, k2_142, k3_142⟩ (Or.inl ⟨rfl, ?yv41_1_6⟩) ?rv41_1_6
                      case yv41_1_6 =>
                        intro W hW
                        obtain ⟨hW0, hW1, hW2, hW3, hW4, hW5⟩ := hW
                        go_simp
                        try with_reducible rfl
                      try simp only [Act.put, List.getElem_toArray, List.getElem_cons_succ, List.getElem_cons_zero, List.setIfInBounds_toArray, List.set_cons_zero, List.set_cons_succ]
                      refine wpAnyU_take 6 (v := ?vv41_1_7) rfl (by kernel_rfl) (by kernel_rfl) (fun _ _ _ h => h) ⟨p1_142, q1_142, k0_142, k1_142, k2_142, k3_142⟩ (Or.inl ⟨rfl, ?yv41_1_7⟩) ?rv41_1_7
                      case yv41_1_7 =>
                        intro W hW
                        obtain ⟨hW0, hW1, hW2, hW3, hW4, hW5⟩ := hW
                        go_simp
                        try with_reducible rfl
                      try simp only [Act.put, List.getElem_toArray, List.getElem_cons_succ, List.getElem_cons_zero, List.setIfInBounds_toArray, List.set_cons_zero, List.set_cons_succ]
                      refine wpAnyU_take 7 (v := ?vv41_1_8) rfl (by kernel_rfl) (by kernel_rfl) (fun _ _ _ h => h) ⟨p1_142, q1_142, k0_142, k1_142, k2_142, k3_142⟩ (Or.inl ⟨rfl, ?yv41_1_8⟩) ?rv41_1_8
                      case yv41_1_8 =>
                        intro W hW
                        obtain ⟨hW0, hW1, hW2, hW3, hW4, hW5⟩ := hW
                        go_simp
                        try with_reducible rfl
                      try simp only [Act.put, List.getElem_toArray, List.getElem_cons_succ, List.getElem_cons_zero, List.setIfInBounds_toArray, List.set_cons_zero, List.set_cons_succ]
                      refine wpAnyU_one 8 (by kernel_rfl) rfl (fun K hK => ?_)
                      refine step_callw rfl 59 Tryz.f59 Tryz.func59 (by kernel_rfl) (by kernel_rfl) _ _ rfl #[.pointer (some ⟨sg, 0, none⟩), .slice sR sn sr, .agg #[.int .i64 x1, .int .i64 x2, .int .i64 x3, .slice xA xn xc], .int .i64 2] (by simp [Act.eval]) ?_
                      refine (stepL_ok w0 wd141 _ sg sA sR sn sc_ sr sxs 134 hD140 (by omega) x1 x2 x3 xA xn xc hx3 2).mono ?_
                      rintro e u143 ⟨tA, tn, tc, tR, tr, txs, rfl, htn, hmS⟩
                      have hm145 : Mem w0 u143 (SB sg tA tn tc :: NL tA tn tc txs :: NL tR tn tr txs :: Blk g10 (.cells [.int .i64 x1, .int .i64 x2, .int .i64 x3, .slice xA xn xc].toArray 66) :: P2 g5 sg og :: Blk g6 (.cells [.slice sR sn sr, .slice oR on_ orr].toArray 95) :: SB og oA on_ oc_ :: NL oA on_ oc_ oxs :: NL oR on_ orr oxs :: Own 1 (.slice OA m oc) (lws outs) :: Own 1 (.slice WA m wc) (lws wants) :: (outs.map lsL ++ wants.map lsL)) := hmS
                      have p1_144 := hm145.cell (g := g5) (t := 94) (fr := (0, 0)) (cs := [.pointer (some ⟨sg, 0, none⟩), .pointer (some ⟨og, 0, none⟩)]) (.tail _ (.tail _ (.tail _ (.tail _ (.head _))))) 0 rfl
                      have q1_144 := hm145.cell (g := g6) (t := 95) (fr := (0, 0)) (cs := [.slice sR sn sr, .slice oR on_ orr]) (.tail _ (.tail _ (.tail _ (.tail _ (.tail _ (.head _)))))) 0 rfl
                      have k0_144 := hm145.cell (g := g10) (t := 66) (fr := (0, 0)) (cs := [.int .i64 x1, .int .i64 x2, .int .i64 x3, .slice xA xn xc]) (.tail _ (.tail _ (.tail _ (.head _)))) 0 rfl
                      have k1_144 := hm145.cell (g := g10) (t := 66) (fr := (0, 0)) (cs := [.int .i64 x1, .int .i64 x2, .int .i64 x3, .slice xA xn xc]) (.tail _ (.tail _ (.tail _ (.head _)))) 1 rfl
                      have k2_144 := hm145.cell (g := g10) (t := 66) (fr := (0, 0)) (cs := [.int .i64 x1, .int .i64 x2, .int .i64 x3, .slice xA xn xc]) (.tail _ (.tail _ (.tail _ (.head _)))) 2 rfl
                      have k3_144 := hm145.cell (g := g10) (t := 66) (fr := (0, 0)) (cs := [.int .i64 x1, .int .i64 x2, .int .i64 x3, .slice xA xn xc]) (.tail _ (.tail _ (.tail _ (.head _)))) 3 rfl
                      refine ⟨_, rfl, hK _ _ (fun _ => ⟨p1_144, q1_144, k0_144, k1_144, k2_144, k3_144⟩) ?_⟩
                      clear hK K
                      try simp only [Act.put, List.getElem_toArray, List.getElem_cons_succ, List.getElem_cons_zero, List.setIfInBounds_toArray, List.set_cons_zero, List.set_cons_succ]
                      refine wpAnyU_take 9 (v := ?vv41_1_9) rfl (by kernel_rfl) (by kernel_rfl) (fun _ _ _ h => h) ⟨p1_144, q1_144, k0_144, k1_144, k2_144, k3_144⟩ (Or.inl ⟨rfl, ?yv41_1_9⟩) ?rv41_1_9
                      case yv41_1_9 =>
                        intro W hW
                        obtain ⟨hW0, hW1, hW2, hW3, hW4, hW5⟩ := hW
                        go_simp
                        try with_reducible rfl
                      try simp only [Act.put, List.getElem_toArray, List.getElem_cons_succ, List.getElem_cons_zero, List.setIfInBounds_toArray, List.set_cons_zero, List.set_cons_succ]
                      refine wpAnyU_take 10 (v := ?vv41_1_10) rfl (by kernel_rfl) (by kernel_rfl) (fun _ _ _ h => h) ⟨p1_144, q1_144, k0_144, k1_144, k2_144, k3_144⟩ (Or.inl ⟨rfl, ?yv41_1_10⟩) ?rv41_1_10
                      case yv41_1_10 =>
                        intro W hW
                        obtain ⟨hW0, hW1, hW2, hW3, hW4, hW5⟩ := hW
                        go_simp
                        try with_reducible rfl
                      try simp only [Act.put, List.getElem_toArray, List.getElem_cons_succ, List.getElem_cons_zero, List.setIfInBounds_toArray, List.set_cons_zero, List.set_cons_succ]
                      refine wpAnyU_take 11 (v := ?vv41_1_11) rfl (by kernel_rfl) (by kernel_rfl) (fun _ _ _ h => h) ⟨p1_144, q1_144, k0_144, k1_144, k2_144, k3_144⟩ (Or.inl ⟨rfl, ?yv41_1_11⟩) ?rv41_1_11
                      case yv41_1_11 =>
                        intro W hW
                        obtain ⟨hW0, hW1, hW2, hW3, hW4, hW5⟩ := hW
                        go_simp
                        try with_reducible rfl
                      try simp only [Act.put, List.getElem_toArray, List.getElem_cons_succ, List.getElem_cons_zero, List.setIfInBounds_toArray, List.set_cons_zero, List.set_cons_succ]
                      refine wpAnyU_take 12 (v := ?vv41_1_12) rfl (by kernel_rfl) (by kernel_rfl) (fun _ _ _ h => h) ⟨p1_144, q1_144, k0_144, k1_144, k2_144, k3_144⟩ (Or.inl ⟨rfl, ?yv41_1_12⟩) ?rv41_1_12
                      case yv41_1_12 =>
                        intro W hW
                        obtain ⟨hW0, hW1, hW2, hW3, hW4, hW5⟩ := hW
                        go_simp
                        try with_reducible rfl
                      try simp only [Act.put, List.getElem_toArray, List.getElem_cons_succ, List.getElem_cons_zero, List.setIfInBounds_toArray, List.set_cons_zero, List.set_cons_succ]
                      refine wpAnyU_one 13 (by kernel_rfl) rfl (fun K hK => ?_)
                      go_simp
                      refine hK _ _ (fun h => absurd h (by decide)) ?_
                      clear hK K
                      refine wpAnyU_done (by kernel_rfl) ?_ _
                      go_wp2
                      try simp only [Act.put, List.getElem_toArray, List.getElem_cons_succ, List.getElem_cons_zero, List.setIfInBounds_toArray, List.set_cons_succ, List.set_cons_zero]
                      go_meet
                      case rel => exact ⟨_, _, _, _, _, _, rfl, rfl, htn, hm145⟩
                    case rest =>
                      obtain ⟨w146, rfl⟩ : ∃ w9 : World, w9 = wc := ⟨_, rfl⟩
                      obtain ⟨tA, tn, tc, tR, tr, txs, rfl, rfl, htn, hm147⟩ := hcut
                      have q1 := hm147.cell (g := g6) (t := 95) (fr := (0, 0)) (cs := [.slice sR sn sr, .slice oR on_ orr]) (.tail _ (.tail _ (.tail _ (.tail _ (.tail _ (.head _)))))) 0 rfl
                      have f1 := hm147.free (g := g6) (t := 95) (cs := [.slice sR sn sr, .slice oR on_ orr]) (.tail _ (.tail _ (.tail _ (.tail _ (.tail _ (.head _)))))) 0
                      have hm148 : Mem w0 w146 (Blk g6 (.cells [.slice sR sn sr, .slice oR on_ orr].toArray 95) :: SB sg tA tn tc :: NL tA tn tc txs :: NL tR tn tr txs :: Blk g10 (.cells [.int .i64 x1, .int .i64 x2, .int .i64 x3, .slice xA xn xc].toArray 66) :: P2 g5 sg og :: SB og oA on_ oc_ :: NL oA on_ oc_ oxs :: NL oR on_ orr oxs :: Own 1 (.slice OA m oc) (lws outs) :: Own 1 (.slice WA m wc) (lws wants) :: (outs.map lsL ++ wants.map lsL)) := hm147.sel 11 [5, 0, 1, 2, 3, 4, 6, 7, 8, 9, 10] (by decide)
                      have hm149 := hm148.set 0 (.slice tR tn tr)
                      simp only [List.set_cons_zero, List.set_cons_succ] at hm149
                      have hfa9 : Fact (_ ∧ _ ∧ _ ∧ _) := ⟨by have h := hfa0.out; exact ⟨Nat.le_trans htn (Nat.le_trans (Nat.le_add_right _ _) h.1.1), Nat.le_trans (Nat.le_add_right _ _) h.1.2, Nat.le_succ_of_le h.2.1, h.2.2⟩⟩
                      go_wp2
                      generalize w146.setCell _ _ = w150 at hm149 ⊢
                      have hm151 : Mem w0 w150 (P2 g5 sg og :: Blk g6 (.cells [.slice tR tn tr, .slice oR on_ orr].toArray 95) :: SB sg tA tn tc :: NL tA tn tc txs :: NL tR tn tr txs :: SB og oA on_ oc_ :: NL oA on_ oc_ oxs :: NL oR on_ orr oxs :: Own 1 (.slice OA m oc) (lws outs) :: Own 1 (.slice WA m wc) (lws wants) :: (outs.map lsL ++ wants.map lsL)) := hm149.sel 11 [5, 0, 1, 2, 3, 6, 7, 8, 9, 10] (by decide)
                      have hgo := hm151
                      go_roundw
                      case rel => exact ⟨i + 1, ⟨sg, tA, tn, tc, tR, tr, txs⟩, ⟨og, oA, on_, oc_, oR, orr, oxs⟩, OA, m, oc, outs, WA, wc, wants, by go_num, by omega, rfl, rfl, hgo, hfa9⟩
                      case measure => simp [intOf]; omega
                  · skip
                    have p1 := hmN.cell (g := g5) (t := 94) (fr := (0, 0)) (cs := [.pointer (some ⟨sg, 0, none⟩), .pointer (some ⟨og, 0, none⟩)]) (.tail _ (.tail _ (.tail _ (.tail _ (.head _))))) 0 rfl
                    have q1 := hmN.cell (g := g6) (t := 95) (fr := (0, 0)) (cs := [.slice sR sn sr, .slice oR on_ orr]) (.tail _ (.tail _ (.tail _ (.tail _ (.tail _ (.head _)))))) 0 rfl
                    have k2 := hmN.cell (g := g10) (t := 66) (fr := (0, 0)) (cs := [.int .i64 x1, .int .i64 x2, .int .i64 x3, .slice xA xn xc]) (.tail _ (.tail _ (.tail _ (.head _)))) 2 rfl
                    have k3 := hmN.cell (g := g10) (t := 66) (fr := (0, 0)) (cs := [.int .i64 x1, .int .i64 x2, .int .i64 x3, .slice xA xn xc]) (.tail _ (.tail _ (.tail _ (.head _)))) 3 rfl
                    have k0 := hmN.cell (g := g10) (t := 66) (fr := (0, 0)) (cs := [.int .i64 x1, .int .i64 x2, .int .i64 x3, .slice xA xn xc]) (.tail _ (.tail _ (.tail _ (.head _)))) 0 rfl
                    have k1 := hmN.cell (g := g10) (t := 66) (fr := (0, 0)) (cs := [.int .i64 x1, .int .i64 x2, .int .i64 x3, .slice xA xn xc]) (.tail _ (.tail _ (.tail _ (.head _)))) 1 rfl
                    go_upto_region 41 with (fail)
                    clear p1 q1 k0 k1 k2 k3
                    go_cut [19, 20] (fun s19 s20 W => ∃ (tA : Option Addr) (tn tc : Nat) (tR : Option Addr) (tr : Nat) (txs : List Int), s19 = .slice tR tn tr ∧ s20 = .bool true ∧ tn ≤ sn ∧ Mem w0 W (SB sg tA tn tc :: NL tA tn tc txs :: NL tR tn tr txs :: Blk g10 (.cells [.int .i64 x1, .int .i64 x2, .int .i64 x3, .slice xA xn xc].toArray 66) :: P2 g5 sg og :: Blk g6 (.cells [.slice sR sn sr, .slice oR on_ orr].toArray 95) :: SB og oA on_ oc_ :: NL oA on_ oc_ oxs :: NL oR on_ orr oxs :: Own 1 (.slice OA m oc) (lws outs) :: Own 1 (.slice WA m wc) (lws wants) :: (outs.map lsL ++ wants.map lsL)))
                    case first =>
                      have hD152 : Mem w0 w6.drew (SB sg sA sn sc_ :: NL sA sn sc_ sxs :: NL sR sn sr sxs :: Blk g10 (.cells [.int .i64 x1, .int .i64 x2, .int .i64 x3, .slice xA xn xc].toArray 66) :: P2 g5 sg og :: Blk g6 (.cells [.slice sR sn sr, .slice oR on_ orr].toArray 95) :: SB og oA on_ oc_ :: NL oA on_ oc_ oxs :: NL oR on_ orr oxs :: Own 1 (.slice OA m oc) (lws outs) :: Own 1 (.slice WA m wc) (lws wants) :: (outs.map lsL ++ wants.map lsL)) := hmN.drew
                      refine wp_region_until (S := fun W => W.cell? ⟨g5, 0, none⟩ = some (.pointer (some ⟨sg, 0, none⟩)) ∧ W.cell? ⟨g6, 0, none⟩ = some (.slice sR sn sr) ∧ W.cell? ⟨g10, 0, none⟩ = some (.int .i64 x1) ∧ W.cell? ⟨g10, 1, none⟩ = some (.int .i64 x2) ∧ W.cell? ⟨g10, 2, none⟩ = some (.int .i64 x3) ∧ W.cell? ⟨g10, 3, none⟩ = some (.slice xA xn xc)) 13 (by kernel_rfl) ?_
                      generalize w6.drew = wd153 at hD152 ⊢
                      have p1_154 := hD152.cell (g := g5) (t := 94) (fr := (0, 0)) (cs := [.pointer (some ⟨sg, 0, none⟩), .pointer (some ⟨og, 0, none⟩)]) (.tail _ (.tail _ (.tail _ (.tail _ (.head _))))) 0 rfl
                      have q1_154 := hD152.cell (g := g6) (t := 95) (fr := (0, 0)) (cs := [.slice sR sn sr, .slice oR on_ orr]) (.tail _ (.tail _ (.tail _ (.tail _ (.tail _ (.head _)))))) 0 rfl
                      have k0_154 := hD152.cell (g := g10) (t := 66) (fr := (0, 0)) (cs := [.int .i64 x1, .int .i64 x2, .int .i64 x3, .slice xA xn xc]) (.tail _ (.tail _ (.tail _ (.head _)))) 0 rfl
                      have k1_154 := hD152.cell (g := g10) (t := 66) (fr := (0, 0)) (cs := [.int .i64 x1, .int .i64 x2, .int .i64 x3, .slice xA xn xc]) (.tail _ (.tail _ (.tail _ (.head _)))) 1 rfl
                      have k2_154 := hD152.cell (g := g10) (t := 66) (fr := (0, 0)) (cs := [.int .i64 x1, .int .i64 x2, .int .i64 x3, .slice xA xn xc]) (.tail _ (.tail _ (.tail _ (.head _)))) 2 rfl
                      have k3_154 := hD152.cell (g := g10) (t := 66) (fr := (0, 0)) (cs := [.int .i64 x1, .int .i64 x2, .int .i64 x3, .slice xA xn xc]) (.tail _ (.tail _ (.tail _ (.head _)))) 3 rfl
                      refine wpAnyU_take 0 (v := ?vv41_2_1) rfl (by kernel_rfl) (by kernel_rfl) (fun _ _ _ h => h) ⟨p1_154, q1_154, k0_154, k1_154, k2_154, k3_154⟩ (Or.inl ⟨rfl, ?yv41_2_1⟩) ?rv41_2_1
                      case yv41_2_1 =>
                        intro W hW
                        obtain ⟨hW0, hW1, hW2, hW3, hW4, hW5⟩ := hW
                        go_simp
                        try with_reducible rfl
                      try simp only [Act.put, List.getElem_toArray, List.getElem_cons_succ, List.getElem_cons_zero, List.setIfInBounds_toArray, List.set_cons_zero, List.set_cons_succ]
                      refine wpAnyU_take 1 (v := ?vv41_2_2) rfl (by kernel_rfl) (by kernel_rfl) (fun _ _ _ h => h) ⟨p1_154, q1_154, k0_154, k1_154, k2_154, k3_154⟩ (Or.inl ⟨rfl, ?yv41_2_2⟩) ?rv41_2_2
                      case yv41_2_2 =>
                        intro W hW
                        obtain ⟨hW0, hW1, hW2, hW3, hW4, hW5⟩ := hW
                        go_simp
                        try with_reducible rfl
                      try simp only [Act.put, List.getElem_toArray, List.getElem_cons_succ, List.getElem_cons_zero, List.setIfInBounds_toArray, List.set_cons_zero, List.set_cons_succ]
                      refine wpAnyU_take 2 (v := ?vv41_2_3) rfl (by kernel_rfl) (by kernel_rfl) (fun _ _ _ h => h) ⟨p1_154, q1_154, k0_154, k1_154, k2_154, k3_154⟩ (Or.inl ⟨rfl, ?yv41_2_3⟩) ?rv41_2_3
                      case yv41_2_3 =>
                        intro W hW
                        obtain ⟨hW0, hW1, hW2, hW3, hW4, hW5⟩ := hW
                        go_simp
                        try with_reducible rfl
                      try simp only [Act.put, List.getElem_toArray, List.getElem_cons_succ, List.getElem_cons_zero, List.setIfInBounds_toArray, List.set_cons_zero, List.set_cons_succ]
                      refine wpAnyU_take 3 (v := ?vv41_2_4) rfl (by kernel_rfl) (by kernel_rfl) (fun _ _ _ h => h) ⟨p1_154, q1_154, k0_154, k1_154, k2_154, k3_154⟩ (Or.inl ⟨rfl, ?yv41_2_4⟩) ?rv41_2_4
                      case yv41_2_4 =>
                        intro W hW
                        obtain ⟨hW0, hW1, hW2, hW3, hW4, hW5⟩ := hW
                        go_simp
                        try with_reducible rfl
                      try simp only [Act.put, List.getElem_toArray, List.getElem_cons_succ, List.getElem_cons_zero, List.setIfInBounds_toArray, List.set_cons_zero, List.set_cons_succ]
                      refine wpAnyU_take 4 (v := ?vv41_2_5) rfl (by kernel_rfl) (by kernel_rfl) (fun _ _ _ h => h) ⟨p1_154, q1_154, k0_154, k1_154, k2_154, k3_154⟩ (Or.inl ⟨rfl, ?yv41_2_5⟩) ?rv41_2_5
                      case yv41_2_5 =>
                        intro W hW
                        obtain ⟨hW0, hW1, hW2, hW3, hW4, hW5⟩ := hW
                        go_simp
                        try with_reducible rfl
                      try simp only [Act.put, List.getElem_toArray, List.getElem_cons_succ, List.getElem_cons_zero, List.setIfInBounds_toArray, List.set_cons_zero, List.set_cons_succ]
                      refine wpAnyU_take 5 (v := ?vv41_2_6) rfl (by kernel_rfl) (by kernel_rfl) (fun _ _ _ h => h) ⟨p1_154, q1_154, k0_154, k1_154, k2_154, k3_154⟩ (Or.inl ⟨rfl, ?yv41_2_6⟩) ?rv41_2_6
                      case yv41_2_6 =>
                        intro W hW
                        obtain ⟨hW0, hW1, hW2, hW3, hW4, hW5⟩ := hW
                        go_simp
                        try with_reducible rfl
                      try simp only [Act.put, List.getElem_toArray, List.getElem_cons_succ, List.getElem_cons_zero, List.setIfInBounds_toArray, List.set_cons_zero, List.set_cons_succ]
                      refine wpAnyU_take 6 (v := ?vv41_2_7) rfl (by kernel_rfl) (by kernel_rfl) (fun _ _ _ h => h) ⟨p1_154, q1_154, k0_154, k1_154, k2_154, k3_154⟩ (Or.inl ⟨rfl, ?yv41_2_7⟩) ?rv41_2_7
                      case yv41_2_7 =>
                        intro W hW
                        obtain ⟨hW0, hW1, hW2, hW3, hW4, hW5⟩ := hW
                        go_simp
                        try with_reducible rfl
                      try simp only [Act.put, List.getElem_toArray, List.getElem_cons_succ, List.getElem_cons_zero, List.setIfInBounds_toArray, List.set_cons_zero, List.set_cons_succ]
                      refine wpAnyU_take 7 (v := ?vv41_2_8) rfl (by kernel_rfl) (by kernel_rfl) (fun _ _ _ h => h) ⟨p1_154, q1_154, k0_154, k1_154, k2_154, k3_154⟩ (Or.inl ⟨rfl, ?yv41_2_8⟩) ?rv41_2_8
                      case yv41_2_8 =>
                        intro W hW
                        obtain ⟨hW0, hW1, hW2, hW3, hW4, hW5⟩ := hW
                        go_simp
                        try with_reducible rfl
                      try simp only [Act.put, List.getElem_toArray, List.getElem_cons_succ, List.getElem_cons_zero, List.setIfInBounds_toArray, List.set_cons_zero, List.set_cons_succ]
                      refine wpAnyU_one 8 (by kernel_rfl) rfl (fun K hK => ?_)
                      refine step_callw rfl 59 Tryz.f59 Tryz.func59 (by kernel_rfl) (by kernel_rfl) _ _ rfl #[.pointer (some ⟨sg, 0, none⟩), .slice sR sn sr, .agg #[.int .i64 x1, .int .i64 x2, .int .i64 x3, .slice xA xn xc], .int .i64 3] (by simp [Act.eval]) ?_
                      refine (stepL_ok w0 wd153 _ sg sA sR sn sc_ sr sxs 134 hD152 (by omega) x1 x2 x3 xA xn xc hx3 3).mono ?_
                      rintro e u155 ⟨tA, tn, tc, tR, tr, txs, rfl, htn, hmS⟩
                      have hm157 : Mem w0 u155 (SB sg tA tn tc :: NL tA tn tc txs :: NL tR tn tr txs :: Blk g10 (.cells [.int .i64 x1, .int .i64 x2, .int .i64 x3, .slice xA xn xc].toArray 66) :: P2 g5 sg og :: Blk g6 (.cells [.slice sR sn sr, .slice oR on_ orr].toArray 95) :: SB og oA on_ oc_ :: NL oA on_ oc_ oxs :: NL oR on_ orr oxs :: Own 1 (.slice OA m oc) (lws outs) :: Own 1 (.slice WA m wc) (lws wants) :: (outs.map lsL ++ wants.map lsL)) := hmS
                      have p1_156 := hm157.cell (g := g5) (t := 94) (fr := (0, 0)) (cs := [.pointer (some ⟨sg, 0, none⟩), .pointer (some ⟨og, 0, none⟩)]) (.tail _ (.tail _ (.tail _ (.tail _ (.head _))))) 0 rfl
                      have q1_156 := hm157.cell (g := g6) (t := 95) (fr := (0, 0)) (cs := [.slice sR sn sr, .slice oR on_ orr]) (.tail _ (.tail _ (.tail _ (.tail _ (.tail _ (.head _)))))) 0 rfl
                      have k0_156 := hm157.cell (g := g10) (t := 66) (fr := (0, 0)) (cs := [.int .i64 x1, .int .i64 x2, .int .i64 x3, .slice xA xn xc]) (.tail _ (.tail _ (.tail _ (.head _)))) 0 rfl
                      have k1_156 := hm157.cell (g := g10) (t := 66) (fr := (0, 0)) (cs := [.int .i64 x1, .int .i64 x2, .int .i64 x3, .slice xA xn xc]) (.tail _ (.tail _ (.tail _ (.head _)))) 1 rfl
                      have k2_156 := hm157.cell (g := g10) (t := 66) (fr := (0, 0)) (cs := [.int .i64 x1, .int .i64 x2, .int .i64 x3, .slice xA xn xc]) (.tail _ (.tail _ (.tail _ (.head _)))) 2 rfl
                      have k3_156 := hm157.cell (g := g10) (t := 66) (fr := (0, 0)) (cs := [.int .i64 x1, .int .i64 x2, .int .i64 x3, .slice xA xn xc]) (.tail _ (.tail _ (.tail _ (.head _)))) 3 rfl
                      refine ⟨_, rfl, hK _ _ (fun _ => ⟨p1_156, q1_156, k0_156, k1_156, k2_156, k3_156⟩) ?_⟩
                      clear hK K
                      try simp only [Act.put, List.getElem_toArray, List.getElem_cons_succ, List.getElem_cons_zero, List.setIfInBounds_toArray, List.set_cons_zero, List.set_cons_succ]
                      refine wpAnyU_take 9 (v := ?vv41_2_9) rfl (by kernel_rfl) (by kernel_rfl) (fun _ _ _ h => h) ⟨p1_156, q1_156, k0_156, k1_156, k2_156, k3_156⟩ (Or.inl ⟨rfl, ?yv41_2_9⟩) ?rv41_2_9
                      case yv41_2_9 =>
                        intro W hW
                        obtain ⟨hW0, hW1, hW2, hW3, hW4, hW5⟩ := hW
                        go_simp
                        try with_reducible rfl
                      try simp only [Act.put, List.getElem_toArray, List.getElem_cons_succ, List.getElem_cons_zero, List.setIfInBounds_toArray, List.set_cons_zero, List.set_cons_succ]
                      refine wpAnyU_take 10 (v := ?vv41_2_10) rfl (by kernel_rfl) (by kernel_rfl) (fun _ _ _ h => h) ⟨p1_156, q1_156, k0_156, k1_156, k2_156, k3_156⟩ (Or.inl ⟨rfl, ?yv41_2_10⟩) ?rv41_2_10
                      case yv41_2_10 =>
                        intro W hW
                        obtain ⟨hW0, hW1, hW2, hW3, hW4, hW5⟩ := hW
                        go_simp
                        try with_reducible rfl
                      try simp only [Act.put, List.getElem_toArray, List.getElem_cons_succ, List.getElem_cons_zero, List.setIfInBounds_toArray, List.set_cons_zero, List.set_cons_succ]
                      refine wpAnyU_take 11 (v := ?vv41_2_11) rfl (by kernel_rfl) (by kernel_rfl) (fun _ _ _ h => h) ⟨p1_156, q1_156, k0_156, k1_156, k2_156, k3_156⟩ (Or.inl ⟨rfl, ?yv41_2_11⟩) ?rv41_2_11
                      case yv41_2_11 =>
                        intro W hW
                        obtain ⟨hW0, hW1, hW2, hW3, hW4, hW5⟩ := hW
                        go_simp
                        try with_reducible rfl
                      try simp only [Act.put, List.getElem_toArray, List.getElem_cons_succ, List.getElem_cons_zero, List.setIfInBounds_toArray, List.set_cons_zero, List.set_cons_succ]
                      refine wpAnyU_take 12 (v := ?vv41_2_12) rfl (by kernel_rfl) (by kernel_rfl) (fun _ _ _ h => h) ⟨p1_156, q1_156, k0_156, k1_156, k2_156, k3_156⟩ (Or.inl ⟨rfl, ?yv41_2_12⟩) ?rv41_2_12
                      case yv41_2_12 =>
                        intro W hW
                        obtain ⟨hW0, hW1, hW2, hW3, hW4, hW5⟩ := hW
                        go_simp
                        try with_reducible rfl
                      try simp only [Act.put, List.getElem_toArray, List.getElem_cons_succ, List.getElem_cons_zero, List.setIfInBounds_toArray, List.set_cons_zero, List.set_cons_succ]
                      refine wpAnyU_one 13 (by kernel_rfl) rfl (fun K hK => ?_)
                      go_simp
                      refine hK _ _ (fun h => absurd h (by decide)) ?_
                      clear hK K
                      refine wpAnyU_done (by kernel_rfl) ?_ _
                      go_wp2
                      try simp only [Act.put, List.getElem_toArray, List.getElem_cons_succ, List.getElem_cons_zero, List.setIfInBounds_toArray, List.set_cons_succ, List.set_cons_zero]
                      go_meet
                      case rel => exact ⟨_, _, _, _, _, _, rfl, rfl, htn, hm157⟩
                    case rest =>
                      obtain ⟨w158, rfl⟩ : ∃ w9 : World, w9 = wc := ⟨_, rfl⟩
                      obtain ⟨tA, tn, tc, tR, tr, txs, rfl, rfl, htn, hm159⟩ := hcut
                      have q1 := hm159.cell (g := g6) (t := 95) (fr := (0, 0)) (cs := [.slice sR sn sr, .slice oR on_ orr]) (.tail _ (.tail _ (.tail _ (.tail _ (.tail _ (.head _)))))) 0 rfl
                      have f1 := hm159.free (g := g6) (t := 95) (cs := [.slice sR sn sr, .slice oR on_ orr]) (.tail _ (.tail _ (.tail _ (.tail _ (.tail _ (.head _)))))) 0
                      have hm160 : Mem w0 w158 (Blk g6 (.cells [.slice sR sn sr, .slice oR on_ orr].toArray 95) :: SB sg tA tn tc :: NL tA tn tc txs :: NL tR tn tr txs :: Blk g10 (.cells [.int .i64 x1, .int .i64 x2, .int .i64 x3, .slice xA xn xc].toArray 66) :: P2 g5 sg og :: SB og oA on_ oc_ :: NL oA on_ oc_ oxs :: NL oR on_ orr oxs :: Own 1 (.slice OA m oc) (lws outs) :: Own 1 (.slice WA m wc) (lws wants) :: (outs.map lsL ++ wants.map lsL)) := hm159.sel 11 [5, 0, 1, 2, 3, 4, 6, 7, 8, 9, 10] (by decide)
                      have hm161 := hm160.set 0 (.slice tR tn tr)
                      simp only [List.set_cons_zero, List.set_cons_succ] at hm161
                      have hfa9 : Fact (_ ∧ _ ∧ _ ∧ _) := ⟨by have h := hfa0.out; exact ⟨Nat.le_trans htn (Nat.le_trans (Nat.le_add_right _ _) h.1.1), Nat.le_trans (Nat.le_add_right _ _) h.1.2, Nat.le_succ_of_le h.2.1, h.2.2⟩⟩
                      go_wp2
                      generalize w158.setCell _ _ = w162 at hm161 ⊢
                      have hm163 : Mem w0 w162 (P2 g5 sg og :: Blk g6 (.cells [.slice tR tn tr, .slice oR on_ orr].toArray 95) :: SB sg tA tn tc :: NL tA tn tc txs :: NL tR tn tr txs :: SB og oA on_ oc_ :: NL oA on_ oc_ oxs :: NL oR on_ orr oxs :: Own 1 (.slice OA m oc) (lws outs) :: Own 1 (.slice WA m wc) (lws wants) :: (outs.map lsL ++ wants.map lsL)) := hm161.sel 11 [5, 0, 1, 2, 3, 6, 7, 8, 9, 10] (by decide)
                      have hgo := hm163
                      go_roundw
                      case rel => exact ⟨i + 1, ⟨sg, tA, tn, tc, tR, tr, txs⟩, ⟨og, oA, on_, oc_, oR, orr, oxs⟩, OA, m, oc, outs, WA, wc, wants, by go_num, by omega, rfl, rfl, hgo, hfa9⟩
                      case measure => simp [intOf]; omega
                  · skip
                    have p1 := hmN.cell (g := g5) (t := 94) (fr := (0, 0)) (cs := [.pointer (some ⟨sg, 0, none⟩), .pointer (some ⟨og, 0, none⟩)]) (.tail _ (.tail _ (.tail _ (.tail _ (.head _))))) 0 rfl
                    have q1 := hmN.cell (g := g6) (t := 95) (fr := (0, 0)) (cs := [.slice sR sn sr, .slice oR on_ orr]) (.tail _ (.tail _ (.tail _ (.tail _ (.tail _ (.head _)))))) 0 rfl
                    have k2 := hmN.cell (g := g10) (t := 66) (fr := (0, 0)) (cs := [.int .i64 x1, .int .i64 x2, .int .i64 x3, .slice xA xn xc]) (.tail _ (.tail _ (.tail _ (.head _)))) 2 rfl
                    have k3 := hmN.cell (g := g10) (t := 66) (fr := (0, 0)) (cs := [.int .i64 x1, .int .i64 x2, .int .i64 x3, .slice xA xn xc]) (.tail _ (.tail _ (.tail _ (.head _)))) 3 rfl
                    have k0 := hmN.cell (g := g10) (t := 66) (fr := (0, 0)) (cs := [.int .i64 x1, .int .i64 x2, .int .i64 x3, .slice xA xn xc]) (.tail _ (.tail _ (.tail _ (.head _)))) 0 rfl
                    have k1 := hmN.cell (g := g10) (t := 66) (fr := (0, 0)) (cs := [.int .i64 x1, .int .i64 x2, .int .i64 x3, .slice xA xn xc]) (.tail _ (.tail _ (.tail _ (.head _)))) 1 rfl
                    go_upto_region 41 with (fail)
                    clear p1 q1 k0 k1 k2 k3
                    go_cut [19, 20] (fun s19 s20 W => ∃ (tA : Option Addr) (tn tc : Nat) (tR : Option Addr) (tr : Nat) (txs : List Int), s19 = .slice tR tn tr ∧ s20 = .bool true ∧ tn ≤ sn ∧ Mem w0 W (SB sg tA tn tc :: NL tA tn tc txs :: NL tR tn tr txs :: Blk g10 (.cells [.int .i64 x1, .int .i64 x2, .int .i64 x3, .slice xA xn xc].toArray 66) :: P2 g5 sg og :: Blk g6 (.cells [.slice sR sn sr, .slice oR on_ orr].toArray 95) :: SB og oA on_ oc_ :: NL oA on_ oc_ oxs :: NL oR on_ orr oxs :: Own 1 (.slice OA m oc) (lws outs) :: Own 1 (.slice WA m wc) (lws wants) :: (outs.map lsL ++ wants.map lsL)))
                    case first =>
                      have hD164 : Mem w0 w6.drew (SB sg sA sn sc_ :: NL sA sn sc_ sxs :: NL sR sn sr sxs :: Blk g10 (.cells [.int .i64 x1, .int .i64 x2, .int .i64 x3, .slice xA xn xc].toArray 66) :: P2 g5 sg og :: Blk g6 (.cells [.slice sR sn sr, .slice oR on_ orr].toArray 95) :: SB og oA on_ oc_ :: NL oA on_ oc_ oxs :: NL oR on_ orr oxs :: Own 1 (.slice OA m oc) (lws outs) :: Own 1 (.slice WA m wc) (lws wants) :: (outs.map lsL ++ wants.map lsL)) := hmN.drew
                      refine wp_region_until (S := fun W => W.cell? ⟨g5, 0, none⟩ = some (.pointer (some ⟨sg, 0, none⟩)) ∧ W.cell? ⟨g6, 0, none⟩ = some (.slice sR sn sr) ∧ W.cell? ⟨g10, 0, none⟩ = some (.int .i64 x1) ∧ W.cell? ⟨g10, 1, none⟩ = some (.int .i64 x2) ∧ W.cell? ⟨g10, 2, none⟩ = some (.int .i64 x3) ∧ W.cell? ⟨g10, 3, none⟩ = some (.slice xA xn xc)) 13 (by kernel_rfl) ?_
                      generalize w6.drew = wd165 at hD164 ⊢
                      have p1_166 := hD164.cell (g := g5) (t := 94) (fr := (0, 0)) (cs := [.pointer (some ⟨sg, 0, none⟩), .pointer (some ⟨og, 0, none⟩)]) (.tail _ (.tail _ (.tail _ (.tail _ (.head _))))) 0 rfl
                      have q1_166 := hD164.cell (g := g6) (t := 95) (fr := (0, 0)) (cs := [.slice sR sn sr, .slice oR on_ orr]) (.tail _ (.tail _ (.tail _ (.tail _ (.tail _ (.head _)))))) 0 rfl
                      have k0_166 := hD164.cell (g := g10) (t := 66) (fr := (0, 0)) (cs := [.int .i64 x1, .int .i64 x2, .int .i64 x3, .slice xA xn xc]) (.tail _ (.tail _ (.tail _ (.head _)))) 0 rfl
                      have k1_166 := hD164.cell (g := g10) (t := 66) (fr := (0, 0)) (cs := [.int .i64 x1, .int .i64 x2, .int .i64 x3, .slice xA xn xc]) (.tail _ (.tail _ (.tail _ (.head _)))) 1 rfl
                      have k2_166 := hD164.cell (g := g10) (t := 66) (fr := (0, 0)) (cs := [.int .i64 x1, .int .i64 x2, .int .i64 x3, .slice xA xn xc]) (.tail _ (.tail _ (.tail _ (.head _)))) 2 rfl
                      have k3_166 := hD164.cell (g := g10) (t := 66) (fr := (0, 0)) (cs := [.int .i64 x1, .int .i64 x2, .int .i64 x3, .slice xA xn xc]) (.tail _ (.tail _ (.tail _ (.head _)))) 3 rfl
                      refine wpAnyU_take 0 (v := ?vv41_3_1) rfl (by kernel_rfl) (by kernel_rfl) (fun _ _ _ h => h) ⟨p1_166, q1_166, k0_166, k1_166, k2_166, k3_166⟩ (Or.inl ⟨rfl, ?yv41_3_1⟩) ?rv41_3_1
                      case yv41_3_1 =>
                        intro W hW
                        obtain ⟨hW0, hW1, hW2, hW3, hW4, hW5⟩ := hW
                        go_simp
                        try with_reducible rfl
                      try simp only [Act.put, List.getElem_toArray, List.getElem_cons_succ, List.getElem_cons_zero, List.setIfInBounds_toArray, List.set_cons_zero, List.set_cons_succ]
                      refine wpAnyU_take 1 (v := ?vv41_3_2) rfl (by kernel_rfl) (by kernel_rfl) (fun _ _ _ h => h) ⟨p1_166, q1_166, k0_166, k1_166, k2_166, k3_166⟩ (Or.inl ⟨rfl, ?yv41_3_2⟩) ?rv41_3_2
                      case yv41_3_2 =>
                        intro W hW
                        obtain ⟨hW0, hW1, hW2, hW3, hW4, hW5⟩ := hW
                        go_simp
                        try with_reducible rfl
                      try simp only [Act.put, List.getElem_toArray, List.getElem_cons_succ, List.getElem_cons_zero, List.setIfInBounds_toArray, List.set_cons_zero, List.set_cons_succ]
                      refine wpAnyU_take 2 (v := ?vv41_3_3) rfl (by kernel_rfl) (by kernel_rfl) (fun _ _ _ h => h) ⟨p1_166, q1_166, k0_166, k1_166, k2_166, k3_166⟩ (Or.inl ⟨rfl, ?yv41_3_3⟩) ?rv41_3_3
                      case yv41_3_3 =>
                        intro W hW
                        obtain ⟨hW0, hW1, hW2, hW3, hW4, hW5⟩ := hW
                        go_simp
                        try with_reducible rfl
                      try simp only [Act.put, List.getElem_toArray, List.getElem_cons_succ, List.getElem_cons_zero, List.setIfInBounds_toArray, List.set_cons_zero, List.set_cons_succ]
                      refine wpAnyU_take 3 (v := ?vv41_3_4) rfl (by kernel_rfl) (by kernel_rfl) (fun _ _ _ h => h) ⟨p1_166, q1_166, k0_166, k1_166, k2_166, k3_166⟩ (Or.inl ⟨rfl, ?yv41_3_4⟩) ?rv41_3_4
                      case yv41_3_4 =>
                        intro W hW
                        obtain ⟨hW0, hW1, hW2, hW3, hW4, hW5⟩ := hW
                        go_simp
                        try with_reducible rfl
                      try simp only [Act.put, List.getElem_toArray, List.getElem_cons_succ, List.getElem_cons_zero, List.setIfInBounds_toArray, List.set_cons_zero, List.set_cons_succ]
                      refine wpAnyU_take 4 (v := ?vv41_3_5) rfl (by kernel_rfl) (by kernel_rfl) (fun _ _ _ h => h) ⟨p1_166, q1_166, k0_166, k1_166, k2_166, k3_166⟩ (Or.inl ⟨rfl, ?yv41_3_5⟩) ?rv41_3_5
                      case yv41_3_5 =>
                        intro W hW
                        obtain ⟨hW0, hW1, hW2, hW3, hW4, hW5⟩ := hW
                        go_simp
                        try with_reducible rfl
                      try simp only [Act.put, List.getElem_toArray, List.getElem_cons_succ, List.getElem_cons_zero, List.setIfInBounds_toArray, List.set_cons_zero, List.set_cons_succ]
                      refine wpAnyU_take 5 (v := ?vv41_3_6) rfl (by kernel_rfl) (by kernel_rfl) (fun _ _ _ h => h) ⟨p1_166, q1_166, k0_166, k1_166, k2_166, k3_166⟩ (Or.inl ⟨rfl, ?yv41_3_6⟩) ?rv41_3_6
                      case yv41_3_6 =>
                        intro W hW
                        obtain ⟨hW0, hW1, hW2, hW3, hW4, hW5⟩ := hW
                        go_simp
                        try with_reducible rfl
                      try simp only [Act.put, List.getElem_toArray, List.getElem_cons_succ, List.getElem_cons_zero, List.setIfInBounds_toArray, List.set_cons_zero, List.set_cons_succ]
                      refine wpAnyU_take 6 (v := ?vv41_3_7) rfl (by kernel_rfl) (by kernel_rfl) (fun _ _ _ h => h) ⟨p1_166, q1_166, k0_166, k1_166, k2_166, k3_166⟩ (Or.inl ⟨rfl, ?yv41_3_7⟩) ?rv41_3_7
                      case yv41_3_7 =>
                        intro W hW
                        obtain ⟨hW0, hW1, hW2, hW3, hW4, hW5⟩ := hW
                        go_simp
                        try with_reducible rfl
                      try simp only [Act.put, List.getElem_toArray, List.getElem_cons_succ, List.getElem_cons_zero, List.setIfInBounds_toArray, List.set_cons_zero, List.set_cons_succ]
                      refine wpAnyU_take 7 (v := ?vv41_3_8) rfl (by kernel_rfl) (by kernel_rfl) (fun _ _ _ h => h) ⟨p1_166, q1_166, k0_166, k1_166, k2_166, k3_166⟩ (Or.inl ⟨rfl, ?yv41_3_8⟩) ?rv41_3_8
                      case yv41_3_8 =>
                        intro W hW
                        obtain ⟨hW0, hW1, hW2, hW3, hW4, hW5⟩ := hW
                        go_simp
                        try with_reducible rfl
                      try simp only [Act.put, List.getElem_toArray, List.getElem_cons_succ, List.getElem_cons_zero, List.setIfInBounds_toArray, List.set_cons_zero, List.set_cons_succ]
                      refine wpAnyU_one 8 (by kernel_rfl) rfl (fun K hK => ?_)
                      refine step_callw rfl 59 Tryz.f59 Tryz.func59 (by kernel_rfl) (by kernel_rfl) _ _ rfl #[.pointer (some ⟨sg, 0, none⟩), .slice sR sn sr, .agg #[.int .i64 x1, .int .i64 x2, .int .i64 x3, .slice xA xn xc], .int .i64 4] (by simp [Act.eval]) ?_
                      refine (stepL_ok w0 wd165 _ sg sA sR sn sc_ sr sxs 134 hD164 (by omega) x1 x2 x3 xA xn xc hx3 4).mono ?_
                      rintro e u167 ⟨tA, tn, tc, tR, tr, txs, rfl, htn, hmS⟩
                      have hm169 : Mem w0 u167 (SB sg tA tn tc :: NL tA tn tc txs :: NL tR tn tr txs :: Blk g10 (.cells [.int .i64 x1, .int .i64 x2, .int .i64 x3, .slice xA xn xc].toArray 66) :: P2 g5 sg og :: Blk g6 (.cells [.slice sR sn sr, .slice oR on_ orr].toArray 95) :: SB og oA on_ oc_ :: NL oA on_ oc_ oxs :: NL oR on_ orr oxs :: Own 1 (.slice OA m oc) (lws outs) :: Own 1 (.slice WA m wc) (lws wants) :: (outs.map lsL ++ wants.map lsL)) := hmS
                      have p1_168 := hm169.cell (g := g5) (t := 94) (fr := (0, 0)) (cs := [.pointer (some ⟨sg, 0, none⟩), .pointer (some ⟨og, 0, none⟩)]) (.tail _ (.tail _ (.tail _ (.tail _ (.head _))))) 0 rfl
                      have q1_168 := hm169.cell (g := g6) (t := 95) (fr := (0, 0)) (cs := [.slice sR sn sr, .slice oR on_ orr]) (.tail _ (.tail _ (.tail _ (.tail _ (.tail _ (.head _)))))) 0 rfl
                      have k0_168 := hm169.cell (g := g10) (t := 66) (fr := (0, 0)) (cs := [.int .i64 x1, .int .i64 x2, .int .i64 x3, .slice xA xn xc]) (.tail _ (.tail _ (.tail _ (.head _)))) 0 rfl
                      have k1_168 := hm169.cell (g := g10) (t := 66) (fr := (0, 0)) (cs := [.int .i64 x1, .int .i64 x2, .int .i64 x3, .slice xA xn xc]) (.tail _ (.tail _ (.tail _ (.head _)))) 1 rfl
                      have k2_168 := hm169.cell (g := g10) (t := 66) (fr := (0, 0)) (cs := [.int .i64 x1, .int .i64 x2, .int .i64 x3, .slice xA xn xc]) (.tail _ (.tail _ (.tail _ (.head _)))) 2 rfl
                      have k3_168 := hm169.cell (g := g10) (t := 66) (fr := (0, 0)) (cs := [.int .i64 x1, .int .i64 x2, .int .i64 x3, .slice xA xn xc]) (.tail _ (.tail _ (.tail _ (.head _)))) 3 rfl
                      refine ⟨_, rfl, hK _ _ (fun _ => ⟨p1_168, q1_168, k0_168, k1_168, k2_168, k3_168⟩) ?_⟩
                      clear hK K
                      try simp only [Act.put, List.getElem_toArray, List.getElem_cons_succ, List.getElem_cons_zero, List.setIfInBounds_toArray, List.set_cons_zero, List.set_cons_succ]
                      refine wpAnyU_take 9 (v := ?vv41_3_9) rfl (by kernel_rfl) (by kernel_rfl) (fun _ _ _ h => h) ⟨p1_168, q1_168, k0_168, k1_168, k2_168, k3_168⟩ (Or.inl ⟨rfl, ?yv41_3_9⟩) ?rv41_3_9
                      case yv41_3_9 =>
                        intro W hW
                        obtain ⟨hW0, hW1, hW2, hW3, hW4, hW5⟩ := hW
                        go_simp
                        try with_reducible rfl
                      try simp only [Act.put, List.getElem_toArray, List.getElem_cons_succ, List.getElem_cons_zero, List.setIfInBounds_toArray, List.set_cons_zero, List.set_cons_succ]
                      refine wpAnyU_take 10 (v := ?vv41_3_10) rfl (by kernel_rfl) (by kernel_rfl) (fun _ _ _ h => h) ⟨p1_168, q1_168, k0_168, k1_168, k2_168, k3_168⟩ (Or.inl ⟨rfl, ?yv41_3_10⟩) ?rv41_3_10
                      case yv41_3_10 =>
                        intro W hW
                        obtain ⟨hW0, hW1, hW2, hW3, hW4, hW5⟩ := hW
                        go_simp
                        try with_reducible rfl
                      try simp only [Act.put, List.getElem_toArray, List.getElem_cons_succ, List.getElem_cons_zero, List.setIfInBounds_toArray, List.set_cons_zero, List.set_cons_succ]
                      refine wpAnyU_take 11 (v := ?vv41_3_11) rfl (by kernel_rfl) (by kernel_rfl) (fun _ _ _ h => h) ⟨p1_168, q1_168, k0_168, k1_168, k2_168, k3_168⟩ (Or.inl ⟨rfl, ?yv41_3_11⟩) ?rv41_3_11
                      case yv41_3_11 =>
                        intro W hW
                        obtain ⟨hW0, hW1, hW2, hW3, hW4, hW5⟩ := hW
                        go_simp
                        try with_reducible rfl
                      try simp only [Act.put, List.getElem_toArray, List.getElem_cons_succ, List.getElem_cons_zero, List.setIfInBounds_toArray, List.set_cons_zero, List.set_cons_succ]
                      refine wpAnyU_take 12 (v := ?vv41_3_12) rfl (by kernel_rfl) (by kernel_rfl) (fun _ _ _ h => h) ⟨p1_168, q1_168, k0_168, k1_168, k2_168, k3_168⟩ (Or.inl ⟨rfl, ?yv41_3_12⟩) ?rv41_3_12
                      case yv41_3_12 =>
                        intro W hW
                        obtain ⟨hW0, hW1, hW2, hW3, hW4, hW5⟩ := hW
                        go_simp
                        try with_reducible rfl
                      try simp only [Act.put, List.getElem_toArray, List.getElem_cons_succ, List.getElem_cons_zero, List.setIfInBounds_toArray, List.set_cons_zero, List.set_cons_succ]
                      refine wpAnyU_one 13 (by kernel_rfl) rfl (fun K hK => ?_)
                      go_simp
                      refine hK _ _ (fun h => absurd h (by decide)) ?_
                      clear hK K
                      refine wpAnyU_done (by kernel_rfl) ?_ _
                      go_wp2
                      try simp only [Act.put, List.getElem_toArray, List.getElem_cons_succ, List.getElem_cons_zero, List.setIfInBounds_toArray, List.set_cons_succ, List.set_cons_zero]
                      go_meet
                      case rel => exact ⟨_, _, _, _, _, _, rfl, rfl, htn, hm169⟩
                    case rest =>
                      obtain ⟨w170, rfl⟩ : ∃ w9 : World, w9 = wc := ⟨_, rfl⟩
                      obtain ⟨tA, tn, tc, tR, tr, txs, rfl, rfl, htn, hm171⟩ := hcut
                      have q1 := hm171.cell (g := g6) (t := 95) (fr := (0, 0)) (cs := [.slice sR sn sr, .slice oR on_ orr]) (.tail _ (.tail _ (.tail _ (.tail _ (.tail _ (.head _)))))) 0 rfl
                      have f1 := hm171.free (g := g6) (t := 95) (cs := [.slice sR sn sr, .slice oR on_ orr]) (.tail _ (.tail _ (.tail _ (.tail _ (.tail _ (.head _)))))) 0
                      have hm172 : Mem w0 w170 (Blk g6 (.cells [.slice sR sn sr, .slice oR on_ orr].toArray 95) :: SB sg tA tn tc :: NL tA tn tc txs :: NL tR tn tr txs :: Blk g10 (.cells [.int .i64 x1, .int .i64 x2, .int .i64 x3, .slice xA xn xc].toArray 66) :: P2 g5 sg og :: SB og oA on_ oc_ :: NL oA on_ oc_ oxs :: NL oR on_ orr oxs :: Own 1 (.slice OA m oc) (lws outs) :: Own 1 (.slice WA m wc) (lws wants) :: (outs.map lsL ++ wants.map lsL)) := hm171.sel 11 [5, 0, 1, 2, 3, 4, 6, 7, 8, 9, 10] (by decide)
                      have hm173 := hm172.set 0 (.slice tR tn tr)
                      simp only [List.set_cons_zero, List.set_cons_succ] at hm173
                      have hfa9 : Fact (_ ∧ _ ∧ _ ∧ _) := ⟨by have h := hfa0.out; exact ⟨Nat.le_trans htn (Nat.le_trans (Nat.le_add_right _ _) h.1.1), Nat.le_trans (Nat.le_add_right _ _) h.1.2, Nat.le_succ_of_le h.2.1, h.2.2⟩⟩
                      go_wp2
                      generalize w170.setCell _ _ = w174 at hm173 ⊢
                      have hm175 : Mem w0 w174 (P2 g5 sg og :: Blk g6 (.cells [.slice tR tn tr, .slice oR on_ orr].toArray 95) :: SB sg tA tn tc :: NL tA tn tc txs :: NL tR tn tr txs :: SB og oA on_ oc_ :: NL oA on_ oc_ oxs :: NL oR on_ orr oxs :: Own 1 (.slice OA m oc) (lws outs) :: Own 1 (.slice WA m wc) (lws wants) :: (outs.map lsL ++ wants.map lsL)) := hm173.sel 11 [5, 0, 1, 2, 3, 6, 7, 8, 9, 10] (by decide)
                      have hgo := hm175
                      go_roundw
                      case rel => exact ⟨i + 1, ⟨sg, tA, tn, tc, tR, tr, txs⟩, ⟨og, oA, on_, oc_, oR, orr, oxs⟩, OA, m, oc, outs, WA, wc, wants, by go_num, by omega, rfl, rfl, hgo, hfa9⟩
                      case measure => simp [intOf]; omega
            · skip
              obtain ⟨sg, sA, sn, sc_, sR, sr, sxs⟩ := b
              obtain ⟨og, oA, on_, oc_, oR, orr, oxs⟩ := a
              dsimp only at hm4 hsz hfa0
              have hmN : Mem w0 w6 (SB sg sA sn sc_ :: NL sA sn sc_ sxs :: NL sR sn sr sxs :: Blk g10 (.cells [.int .i64 x1, .int .i64 x2, .int .i64 x3, .slice xA xn xc].toArray 66) :: P2 g5 og sg :: Blk g6 (.cells [.slice oR on_ orr, .slice sR sn sr].toArray 95) :: SB og oA on_ oc_ :: NL oA on_ oc_ oxs :: NL oR on_ orr oxs :: Own 1 (.slice OA m oc) (lws outs) :: Own 1 (.slice WA m wc) (lws wants) :: (outs.map lsL ++ wants.map lsL)) := hm4.sel 11 [6, 7, 8, 0, 1, 2, 3, 4, 5, 9, 10] (by decide)
              clear hm4
              rcases hint.out with rfl | rfl | rfl | rfl | hk4
              · skip
                as_aux_lemma =>
                  have k3 := hmN.cell (g := g10) (t := 66) (fr := (0, 0)) (cs := [.int .i64 x1, .int .i64 x2, .int .i64 x3, .slice xA xn xc]) (.tail _ (.tail _ (.tail _ (.head _)))) 3 rfl
                  go_wp2_with fail
                  refine (lentL_ok w6 xA xn xc xxs ⟨hxr.out.gr hmN.below⟩ (by omega)).mono ?_
                  rintro e w178 ⟨TA176, tc177, rfl, hn179⟩
                  have hm180 := hmN.new hn179
                  clear k3
                  have htc := OwnAt.cap (hm180.ok _ m0)
                  have htc2 : xn ≤ tc177 := by omega
                  have p1 := hm180.cell (g := g5) (t := 94) (fr := (0, 0)) (cs := [.pointer (some ⟨og, 0, none⟩), .pointer (some ⟨sg, 0, none⟩)]) (.tail _ (.tail _ (.tail _ (.tail _ (.tail _ (.head _)))))) 1 rfl
                  have k3 := hm180.cell (g := g10) (t := 66) (fr := (0, 0)) (cs := [.int .i64 x1, .int .i64 x2, .int .i64 x3, .slice xA xn xc]) (.tail _ (.tail _ (.tail _ (.tail _ (.head _))))) 3 rfl
                  go_upto_region 26 with (fail)
                  go_still_tail 8, (by kernel_rfl)
                  change wpList _ _ _ _ _ w178.drew
                  clear p1 k3
                  have hm182 : Mem w0 w178.drew (NL TA176 (xn + 64) tc177 (xxs ++ marksL 64) :: SB sg sA sn sc_ :: NL sA sn sc_ sxs :: NL sR sn sr sxs :: Blk g10 (.cells [.int .i64 x1, .int .i64 x2, .int .i64 x3, .slice xA xn xc].toArray 66) :: P2 g5 og sg :: Blk g6 (.cells [.slice oR on_ orr, .slice sR sn sr].toArray 95) :: SB og oA on_ oc_ :: NL oA on_ oc_ oxs :: NL oR on_ orr oxs :: Own 1 (.slice OA m oc) (lws outs) :: Own 1 (.slice WA m wc) (lws wants) :: (outs.map lsL ++ wants.map lsL)) := hm180.drew
                  generalize w178.drew = w181 at hm182 ⊢
                  have hlr : Fact (RdC w181 1 (.slice TA176 xn tc177) (nums .i64 xxs)) := ⟨by have h := (hm182.rd (size := 1) (v := .slice TA176 (xn + 64) tc177) (xs := nums .i64 (xxs ++ marksL 64)) m0).npre (by rw [hxl.out]; omega); rwa [hxl.out] at h⟩
                  have hm183 : Mem w0 w181 (SB sg sA sn sc_ :: NL sA sn sc_ sxs :: NL TA176 (xn + 64) tc177 (xxs ++ marksL 64) :: NL sR sn sr sxs :: Blk g10 (.cells [.int .i64 x1, .int .i64 x2, .int .i64 x3, .slice xA xn xc].toArray 66) :: P2 g5 og sg :: Blk g6 (.cells [.slice oR on_ orr, .slice sR sn sr].toArray 95) :: SB og oA on_ oc_ :: NL oA on_ oc_ oxs :: NL oR on_ orr oxs :: Own 1 (.slice OA m oc) (lws outs) :: Own 1 (.slice WA m wc) (lws wants) :: (outs.map lsL ++ wants.map lsL)) := hm182.sel 12 [1, 2, 0, 3, 4, 5, 6, 7, 8, 9, 10, 11] (by decide)
                  go_wp2_with fail
                  refine (pushL_ok w0 w181 _ sg sA TA176 sn sc_ xn tc177 sxs xxs 134 hm183 hlr (by omega)).mono ?_
                  rintro e w186 ⟨A184, c185, rfl, hm187⟩
                  clear hlr
                  have q1 := hm187.cell (g := g6) (t := 95) (fr := (0, 0)) (cs := [.slice oR on_ orr, .slice sR sn sr]) (.tail _ (.tail _ (.tail _ (.tail _ (.tail _ (.tail _ (.head _))))))) 1 rfl
                  have k3 := hm187.cell (g := g10) (t := 66) (fr := (0, 0)) (cs := [.int .i64 x1, .int .i64 x2, .int .i64 x3, .slice xA xn xc]) (.tail _ (.tail _ (.tail _ (.tail _ (.head _))))) 3 rfl
                  go_upto_region 27 with (fail)
                  go_cut [] (fun W => ∃ (RR : Option Addr) (rr : Nat), Mem w0 W (Blk g6 (.cells [.slice oR on_ orr, .slice RR (sn + xn) rr].toArray 95) :: NL RR (sn + xn) rr (sxs ++ xxs) :: SB sg A184 (sn + xn) c185 :: NL A184 (sn + xn) c185 (sxs ++ xxs) :: NL TA176 (xn + 64) tc177 (xxs ++ marksL 64) :: NL sR sn sr sxs :: Blk g10 (.cells [.int .i64 x1, .int .i64 x2, .int .i64 x3, .slice xA xn xc].toArray 66) :: P2 g5 og sg :: SB og oA on_ oc_ :: NL oA on_ oc_ oxs :: NL oR on_ orr oxs :: Own 1 (.slice OA m oc) (lws outs) :: Own 1 (.slice WA m wc) (lws wants) :: (outs.map lsL ++ wants.map lsL)))
                  case first =>
                    have hgS := (Gr.refl w186).drew
                    have hmS := (Mem.start w186).drew
                    refine wp_region_until (S := fun W => W.cell? ⟨g6, 1, none⟩ = some (.slice sR sn sr) ∧ W.cell? ⟨g10, 3, none⟩ = some (.slice xA xn xc)) 7 (by kernel_rfl) ?_
                    generalize w186.drew = wd at hgS hmS ⊢
                    refine wpAnyU_take 0 (v := ?vv27_a_1) rfl (by kernel_rfl) (by kernel_rfl) (fun _ _ _ h => h) ⟨Gr.cell hgS q1, Gr.cell hgS k3⟩ (Or.inl ⟨rfl, ?yv27_a_1⟩) ?rv27_a_1
                    case yv27_a_1 =>
                      intro W hW
                      obtain ⟨hW0, hW1⟩ := hW
                      go_simp
                      try with_reducible rfl
                    try simp only [Act.put, List.getElem_toArray, List.getElem_cons_succ, List.getElem_cons_zero, List.setIfInBounds_toArray, List.set_cons_zero, List.set_cons_succ]
                    refine wpAnyU_take 1 (v := ?vv27_a_2) rfl (by kernel_rfl) (by kernel_rfl) (fun _ _ _ h => h) ⟨Gr.cell hgS q1, Gr.cell hgS k3⟩ (Or.inl ⟨rfl, ?yv27_a_2⟩) ?rv27_a_2
                    case yv27_a_2 =>
                      intro W hW
                      obtain ⟨hW0, hW1⟩ := hW
                      go_simp
                      try with_reducible rfl
                    try simp only [Act.put, List.getElem_toArray, List.getElem_cons_succ, List.getElem_cons_zero, List.setIfInBounds_toArray, List.set_cons_zero, List.set_cons_succ]
                    refine wpAnyU_take 2 (v := ?vv27_a_3) rfl (by kernel_rfl) (by kernel_rfl) (fun _ _ _ h => h) ⟨Gr.cell hgS q1, Gr.cell hgS k3⟩ (Or.inl ⟨rfl, ?yv27_a_3⟩) ?rv27_a_3
                    case yv27_a_3 =>
                      intro W hW
                      obtain ⟨hW0, hW1⟩ := hW
                      go_simp
                      try with_reducible rfl
                    try simp only [Act.put, List.getElem_toArray, List.getElem_cons_succ, List.getElem_cons_zero, List.setIfInBounds_toArray, List.set_cons_zero, List.set_cons_succ]
                    refine wpAnyU_take 3 (v := ?vv27_a_4) rfl (by kernel_rfl) (by kernel_rfl) (fun _ _ _ h => h) ⟨Gr.cell hgS q1, Gr.cell hgS k3⟩ (Or.inl ⟨rfl, ?yv27_a_4⟩) ?rv27_a_4
                    case yv27_a_4 =>
                      intro W hW
                      obtain ⟨hW0, hW1⟩ := hW
                      go_simp
                      try with_reducible rfl
                    try simp only [Act.put, List.getElem_toArray, List.getElem_cons_succ, List.getElem_cons_zero, List.setIfInBounds_toArray, List.set_cons_zero, List.set_cons_succ]
                    refine wpAnyU_take 4 (v := ?vv27_a_5) rfl (by kernel_rfl) (by kernel_rfl) (fun _ _ _ h => h) ⟨Gr.cell hgS q1, Gr.cell hgS k3⟩ (Or.inl ⟨rfl, ?yv27_a_5⟩) ?rv27_a_5
                    case yv27_a_5 =>
                      intro W hW
                      obtain ⟨hW0, hW1⟩ := hW
                      go_simp
                      try with_reducible rfl
                    try simp only [Act.put, List.getElem_toArray, List.getElem_cons_succ, List.getElem_cons_zero, List.setIfInBounds_toArray, List.set_cons_zero, List.set_cons_succ]
                    refine wpAnyU_take 5 (v := ?vv27_a_6) rfl (by kernel_rfl) (by kernel_rfl) (fun _ _ _ h => h) ⟨Gr.cell hgS q1, Gr.cell hgS k3⟩ (Or.inl ⟨rfl, ?yv27_a_6⟩) ?rv27_a_6
                    case yv27_a_6 =>
                      intro W hW
                      obtain ⟨hW0, hW1⟩ := hW
                      go_simp
                      try with_reducible rfl
                    try simp only [Act.put, List.getElem_toArray, List.getElem_cons_succ, List.getElem_cons_zero, List.setIfInBounds_toArray, List.set_cons_zero, List.set_cons_succ]
                    refine wpAnyU_one 6 (by kernel_rfl) rfl (fun K hK => ?_)
                    refine step_callw rfl 54 Tryz.f54 Tryz.func54 (by kernel_rfl) (by kernel_rfl) _ _ rfl #[.slice sR sn sr, .slice xA xn xc] (by simp [Act.eval]) ?_
                    refine (refPush_ok wd sR xA sn sr xn xc sxs xxs ⟨(hm187.rd (.tail _ (.tail _ (.tail _ (.head _))))).gr hgS⟩ ⟨hxr.out.gr (Gr.trans hm187.below hgS)⟩ (by omega)).mono ?_
                    rintro e u188 ⟨R189, r190, rfl, hz191⟩
                    have g192 := Gr.trans hgS hz191.gr
                    have hm193 := hmS.new hz191
                    have hme194 : Mem w0 u188 (NL R189 (sn + xn) r190 (sxs ++ xxs) :: SB sg A184 (sn + xn) c185 :: NL A184 (sn + xn) c185 (sxs ++ xxs) :: NL TA176 (xn + 64) tc177 (xxs ++ marksL 64) :: NL sR sn sr sxs :: Blk g10 (.cells [.int .i64 x1, .int .i64 x2, .int .i64 x3, .slice xA xn xc].toArray 66) :: P2 g5 og sg :: Blk g6 (.cells [.slice oR on_ orr, .slice sR sn sr].toArray 95) :: SB og oA on_ oc_ :: NL oA on_ oc_ oxs :: NL oR on_ orr oxs :: Own 1 (.slice OA m oc) (lws outs) :: Own 1 (.slice WA m wc) (lws wants) :: (outs.map lsL ++ wants.map lsL)) := hm187.join hm193
                    have q3 := hme194.cell (g := g6) (t := 95) (fr := (0, 0)) (cs := [.slice oR on_ orr, .slice sR sn sr]) (.tail _ (.tail _ (.tail _ (.tail _ (.tail _ (.tail _ (.tail _ (.head _)))))))) 1 rfl
                    have f3 := hme194.free (g := g6) (t := 95) (cs := [.slice oR on_ orr, .slice sR sn sr]) (.tail _ (.tail _ (.tail _ (.tail _ (.tail _ (.tail _ (.tail _ (.head _)))))))) 1
                    have hm197 : Mem w0 u188 (Blk g6 (.cells [.slice oR on_ orr, .slice sR sn sr].toArray 95) :: NL R189 (sn + xn) r190 (sxs ++ xxs) :: SB sg A184 (sn + xn) c185 :: NL A184 (sn + xn) c185 (sxs ++ xxs) :: NL TA176 (xn + 64) tc177 (xxs ++ marksL 64) :: NL sR sn sr sxs :: Blk g10 (.cells [.int .i64 x1, .int .i64 x2, .int .i64 x3, .slice xA xn xc].toArray 66) :: P2 g5 og sg :: SB og oA on_ oc_ :: NL oA on_ oc_ oxs :: NL oR on_ orr oxs :: Own 1 (.slice OA m oc) (lws outs) :: Own 1 (.slice WA m wc) (lws wants) :: (outs.map lsL ++ wants.map lsL)) := hme194.sel 13 [7, 0, 1, 2, 3, 4, 5, 6, 8, 9, 10, 11, 12] (by decide)
                    have hmf195 := hm197.set 1 (.slice R189 (sn + xn) r190)
                    simp only [List.set_cons_zero, List.set_cons_succ] at hmf195
                    refine ⟨_, rfl, hK _ _ (fun _ => ⟨Gr.cell g192 q1, Gr.cell g192 k3⟩) ?_⟩
                    clear hK K
                    try simp only [Act.put, List.getElem_toArray, List.getElem_cons_succ, List.getElem_cons_zero, List.setIfInBounds_toArray, List.set_cons_zero, List.set_cons_succ]
                    refine wpAnyU_one 7 (by kernel_rfl) rfl (fun K hK => ?_)
                    go_simp
                    refine hK _ _ (fun h => absurd h (by decide)) ?_
                    clear hK K
                    refine wpAnyU_one 8 (by kernel_rfl) rfl (fun K hK => ?_)
                    go_simp
                    refine hK _ _ (fun h => absurd h (by decide)) ?_
                    clear hK K
                    refine wpAnyU_done (by kernel_rfl) ?_ _
                    go_wp2
                    try simp only [Act.put, List.getElem_toArray, List.getElem_cons_succ, List.getElem_cons_zero, List.setIfInBounds_toArray, List.set_cons_succ, List.set_cons_zero]
                    go_meet
                    case rel => exact ⟨_, _, hmf195⟩
                  case rest =>
                    obtain ⟨w198, rfl⟩ : ∃ w9 : World, w9 = wc := ⟨_, rfl⟩
                    obtain ⟨RR, rr, hm199⟩ := hcut
                    clear q1 k3 hm187
                    have k3 := hm199.cell (g := g10) (t := 66) (fr := (0, 0)) (cs := [.int .i64 x1, .int .i64 x2, .int .i64 x3, .slice xA xn xc]) (.tail _ (.tail _ (.tail _ (.tail _ (.tail _ (.tail _ (.head _))))))) 3 rfl
                    have hm200 : Mem w0 w198 (NL TA176 (xn + 64) tc177 (xxs ++ marksL 64) :: SB sg A184 (sn + xn) c185 :: NL A184 (sn + xn) c185 (sxs ++ xxs) :: NL RR (sn + xn) rr (sxs ++ xxs) :: P2 g5 og sg :: Blk g6 (.cells [.slice oR on_ orr, .slice RR (sn + xn) rr].toArray 95) :: SB og oA on_ oc_ :: NL oA on_ oc_ oxs :: NL oR on_ orr oxs :: Own 1 (.slice OA m oc) (lws outs) :: Own 1 (.slice WA m wc) (lws wants) :: (outs.map lsL ++ wants.map lsL)) := hm199.sel 13 [4, 2, 3, 1, 7, 0, 8, 9, 10, 11, 12] (by decide)
                    go_wp2_with fail
                    refine (keptL_ok w0 w198 _ TA176 xA xn tc177 xc xxs hm200 hxr0 (by omega)).mono ?_
                    rintro e w201 ⟨rfl, hm202⟩
                    clear k3
                    have hfa9 : Fact (_ ∧ _ ∧ _ ∧ _) := ⟨by have h := hfa0.out; exact ⟨Nat.le_trans (Nat.le_add_right _ _) h.1.1, h.1.2, Nat.le_succ_of_le h.2.1, h.2.2⟩⟩
                    go_wp2
                    have hm203 : Mem w0 w201 (P2 g5 og sg :: Blk g6 (.cells [.slice oR on_ orr, .slice RR (sn + xn) rr].toArray 95) :: SB og oA on_ oc_ :: NL oA on_ oc_ oxs :: NL oR on_ orr oxs :: SB sg A184 (sn + xn) c185 :: NL A184 (sn + xn) c185 (sxs ++ xxs) :: NL RR (sn + xn) rr (sxs ++ xxs) :: Own 1 (.slice OA m oc) (lws outs) :: Own 1 (.slice WA m wc) (lws wants) :: (outs.map lsL ++ wants.map lsL)) := hm202.sel 10 [3, 4, 5, 6, 7, 0, 1, 2, 8, 9] (by decide)
                    have hgo := hm203
                    go_roundw
                    case rel => exact ⟨i + 1, ⟨og, oA, on_, oc_, oR, orr, oxs⟩, ⟨sg, A184, (sn + xn), c185, RR, rr, (sxs ++ xxs)⟩, OA, m, oc, outs, WA, wc, wants, by go_num, by omega, rfl, rfl, hgo, hfa9⟩
                    case measure => simp [intOf]; omega
              · skip
                as_aux_lemma =>
                  have k3 := hmN.cell (g := g10) (t := 66) (fr := (0, 0)) (cs := [.int .i64 x1, .int .i64 x2, .int .i64 x3, .slice xA xn xc]) (.tail _ (.tail _ (.tail _ (.head _)))) 3 rfl
                  go_wp2_with fail
                  refine (lentL_ok w6 xA xn xc xxs ⟨hxr.out.gr hmN.below⟩ (by omega)).mono ?_
                  rintro e w206 ⟨TA204, tc205, rfl, hn207⟩
                  have hm208 := hmN.new hn207
                  clear k3
                  have htc := OwnAt.cap (hm208.ok _ m0)
                  have htc2 : xn ≤ tc205 := by omega
                  have hlr : Fact (RdC w206 1 (.slice TA204 xn tc205) (nums .i64 xxs)) := ⟨by have h := (hm208.rd (size := 1) (v := .slice TA204 (xn + 64) tc205) (xs := nums .i64 (xxs ++ marksL 64)) m0).npre (by rw [hxl.out]; omega); rwa [hxl.out] at h⟩
                  have k3 := hm208.cell (g := g10) (t := 66) (fr := (0, 0)) (cs := [.int .i64 x1, .int .i64 x2, .int .i64 x3, .slice xA xn xc]) (.tail _ (.tail _ (.tail _ (.tail _ (.head _))))) 3 rfl
                  go_wp2_with fail
                  refine (newL_ok w206 TA204 xn tc205 xxs hlr (by omega)).mono ?_
                  rintro e w209 ⟨ng, nA, nc, rfl, hm210⟩
                  have hm211 : Mem w0 w209 (SB ng nA xn nc :: NL nA xn nc xxs :: NL TA204 (xn + 64) tc205 (xxs ++ marksL 64) :: SB sg sA sn sc_ :: NL sA sn sc_ sxs :: NL sR sn sr sxs :: Blk g10 (.cells [.int .i64 x1, .int .i64 x2, .int .i64 x3, .slice xA xn xc].toArray 66) :: P2 g5 og sg :: Blk g6 (.cells [.slice oR on_ orr, .slice sR sn sr].toArray 95) :: SB og oA on_ oc_ :: NL oA on_ oc_ oxs :: NL oR on_ orr oxs :: Own 1 (.slice OA m oc) (lws outs) :: Own 1 (.slice WA m wc) (lws wants) :: (outs.map lsL ++ wants.map lsL)) := hm208.join hm210
                  clear hlr k3
                  have p1 := hm211.cell (g := g5) (t := 94) (fr := (0, 0)) (cs := [.pointer (some ⟨og, 0, none⟩), .pointer (some ⟨sg, 0, none⟩)]) (.tail _ (.tail _ (.tail _ (.tail _ (.tail _ (.tail _ (.tail _ (.head _)))))))) 1 rfl
                  have f1 := hm211.free (g := g5) (t := 94) (cs := [.pointer (some ⟨og, 0, none⟩), .pointer (some ⟨sg, 0, none⟩)]) (.tail _ (.tail _ (.tail _ (.tail _ (.tail _ (.tail _ (.tail _ (.head _)))))))) 1
                  have hm212 : Mem w0 w209 (P2 g5 og sg :: SB ng nA xn nc :: NL nA xn nc xxs :: NL TA204 (xn + 64) tc205 (xxs ++ marksL 64) :: SB sg sA sn sc_ :: NL sA sn sc_ sxs :: NL sR sn sr sxs :: Blk g10 (.cells [.int .i64 x1, .int .i64 x2, .int .i64 x3, .slice xA xn xc].toArray 66) :: Blk g6 (.cells [.slice oR on_ orr, .slice sR sn sr].toArray 95) :: SB og oA on_ oc_ :: NL oA on_ oc_ oxs :: NL oR on_ orr oxs :: Own 1 (.slice OA m oc) (lws outs) :: Own 1 (.slice WA m wc) (lws wants) :: (outs.map lsL ++ wants.map lsL)) := hm211.sel 14 [7, 0, 1, 2, 3, 4, 5, 6, 8, 9, 10, 11, 12, 13] (by decide)
                  have hm213 := hm212.set 1 (.pointer (some ⟨ng, 0, none⟩))
                  simp only [List.set_cons_zero, List.set_cons_succ] at hm213
                  go_upto_region 23 with (fail)
                  clear p1 f1
                  generalize w209.setCell _ _ = w214 at hm213 ⊢
                  have k3 := hm213.cell (g := g10) (t := 66) (fr := (0, 0)) (cs := [.int .i64 x1, .int .i64 x2, .int .i64 x3, .slice xA xn xc]) (.tail _ (.tail _ (.tail _ (.tail _ (.tail _ (.tail _ (.tail _ (.head _)))))))) 3 rfl
                  go_wp2_with fail
                  refine (copyLongsS_ok w214 xA xn xc xxs ⟨hxr.out.gr hm213.below⟩ (by omega)).mono ?_
                  rintro e w217 ⟨R215, r216, rfl, hn218⟩
                  have hm219 := hm213.new hn218
                  clear k3
                  have q1 := hm219.cell (g := g6) (t := 95) (fr := (0, 0)) (cs := [.slice oR on_ orr, .slice sR sn sr]) (.tail _ (.tail _ (.tail _ (.tail _ (.tail _ (.tail _ (.tail _ (.tail _ (.tail _ (.head _)))))))))) 1 rfl
                  have f1 := hm219.free (g := g6) (t := 95) (cs := [.slice oR on_ orr, .slice sR sn sr]) (.tail _ (.tail _ (.tail _ (.tail _ (.tail _ (.tail _ (.tail _ (.tail _ (.tail _ (.head _)))))))))) 1
                  have hm220 : Mem w0 w217 (Blk g6 (.cells [.slice oR on_ orr, .slice sR sn sr].toArray 95) :: NL R215 xn r216 xxs :: P2 g5 og ng :: SB ng nA xn nc :: NL nA xn nc xxs :: NL TA204 (xn + 64) tc205 (xxs ++ marksL 64) :: SB sg sA sn sc_ :: NL sA sn sc_ sxs :: NL sR sn sr sxs :: Blk g10 (.cells [.int .i64 x1, .int .i64 x2, .int .i64 x3, .slice xA xn xc].toArray 66) :: SB og oA on_ oc_ :: NL oA on_ oc_ oxs :: NL oR on_ orr oxs :: Own 1 (.slice OA m oc) (lws outs) :: Own 1 (.slice WA m wc) (lws wants) :: (outs.map lsL ++ wants.map lsL)) := hm219.sel 15 [9, 0, 1, 2, 3, 4, 5, 6, 7, 8, 10, 11, 12, 13, 14] (by decide)
                  have hm221 := hm220.set 1 (.slice R215 xn r216)
                  simp only [List.set_cons_zero, List.set_cons_succ] at hm221
                  go_upto_region 24 with (fail)
                  clear q1 f1
                  generalize w217.setCell _ _ = w222 at hm221 ⊢
                  have p1 := hm221.cell (g := g5) (t := 94) (fr := (0, 0)) (cs := [.pointer (some ⟨og, 0, none⟩), .pointer (some ⟨ng, 0, none⟩)]) (.tail _ (.tail _ (.head _))) 1 rfl
                  have k3 := hm221.cell (g := g10) (t := 66) (fr := (0, 0)) (cs := [.int .i64 x1, .int .i64 x2, .int .i64 x3, .slice xA xn xc]) (.tail _ (.tail _ (.tail _ (.tail _ (.tail _ (.tail _ (.tail _ (.tail _ (.tail _ (.head _)))))))))) 3 rfl
                  have hm225 : Mem w0 w222 (NL TA204 (xn + 64) tc205 (xxs ++ marksL 64) :: Blk g6 (.cells [.slice oR on_ orr, .slice R215 xn r216].toArray 95) :: NL R215 xn r216 xxs :: P2 g5 og ng :: SB ng nA xn nc :: NL nA xn nc xxs :: SB sg sA sn sc_ :: NL sA sn sc_ sxs :: NL sR sn sr sxs :: Blk g10 (.cells [.int .i64 x1, .int .i64 x2, .int .i64 x3, .slice xA xn xc].toArray 66) :: SB og oA on_ oc_ :: NL oA on_ oc_ oxs :: NL oR on_ orr oxs :: Own 1 (.slice OA m oc) (lws outs) :: Own 1 (.slice WA m wc) (lws wants) :: (outs.map lsL ++ wants.map lsL)) := hm221.sel 15 [5, 0, 1, 2, 3, 4, 6, 7, 8, 9, 10, 11, 12, 13, 14] (by decide)
                  go_wp2_with fail
                  refine (keptL_ok w0 w222 _ TA204 xA xn tc205 xc xxs hm225 hxr0 (by omega)).mono ?_
                  rintro e w223 ⟨rfl, hm224⟩
                  clear k3
                  have hm226 : Mem w0 w223 (Blk g6 (.cells [.slice oR on_ orr, .slice R215 xn r216].toArray 95) :: NL R215 xn r216 xxs :: P2 g5 og ng :: SB ng nA xn nc :: NL nA xn nc xxs :: Blk g10 (.cells [.int .i64 x1, .int .i64 x2, .int .i64 x3, .slice xA xn xc].toArray 66) :: SB og oA on_ oc_ :: NL oA on_ oc_ oxs :: NL oR on_ orr oxs :: Own 1 (.slice OA m oc) (lws outs) :: Own 1 (.slice WA m wc) (lws wants) :: (outs.map lsL ++ wants.map lsL)) := hm224.sel 14 [0, 1, 2, 3, 4, 8, 9, 10, 11, 12, 13] (by decide)
                  have hfa9 : Fact (_ ∧ _ ∧ _ ∧ _) := ⟨by have h := hfa0.out; exact ⟨Nat.le_trans (Nat.le_add_right _ _) h.1.1, Nat.le_trans (Nat.le_add_left _ _) h.1.2, Nat.le_succ_of_le h.2.1, h.2.2⟩⟩
                  go_wp2
                  have hm227 : Mem w0 w223 (P2 g5 og ng :: Blk g6 (.cells [.slice oR on_ orr, .slice R215 xn r216].toArray 95) :: SB og oA on_ oc_ :: NL oA on_ oc_ oxs :: NL oR on_ orr oxs :: SB ng nA xn nc :: NL nA xn nc xxs :: NL R215 xn r216 xxs :: Own 1 (.slice OA m oc) (lws outs) :: Own 1 (.slice WA m wc) (lws wants) :: (outs.map lsL ++ wants.map lsL)) := hm226.sel 11 [2, 0, 6, 7, 8, 3, 4, 1, 9, 10] (by decide)
                  have hgo := hm227
                  go_roundw
                  case rel => exact ⟨i + 1, ⟨og, oA, on_, oc_, oR, orr, oxs⟩, ⟨ng, nA, xn, nc, R215, r216, xxs⟩, OA, m, oc, outs, WA, wc, wants, by go_num, by omega, rfl, rfl, hgo, hfa9⟩
                  case measure => simp [intOf]; omega
              · skip
                as_aux_lemma =>
                  by_cases hin : x3 < 0 ∨ (sn : Int) < x3
                  · skip
                    have q1 := hmN.cell (g := g6) (t := 95) (fr := (0, 0)) (cs := [.slice oR on_ orr, .slice sR sn sr]) (.tail _ (.tail _ (.tail _ (.tail _ (.tail _ (.head _)))))) 1 rfl
                    have k2 := hmN.cell (g := g10) (t := 66) (fr := (0, 0)) (cs := [.int .i64 x1, .int .i64 x2, .int .i64 x3, .slice xA xn xc]) (.tail _ (.tail _ (.tail _ (.head _)))) 2 rfl
                    go_upto_region 31 with (fail)
                    clear q1 k2
                    go_cut [14, 15, 16] (fun s14 s15 s16 W => ∃ (_u : Unit), s14 = .slice sR sn sr ∧ s15 = .slice none 0 0 ∧ s16 = .bool false ∧ Mem w0 W (SB sg sA sn sc_ :: NL sA sn sc_ sxs :: NL sR sn sr sxs :: Blk g10 (.cells [.int .i64 x1, .int .i64 x2, .int .i64 x3, .slice xA xn xc].toArray 66) :: P2 g5 og sg :: Blk g6 (.cells [.slice oR on_ orr, .slice sR sn sr].toArray 95) :: SB og oA on_ oc_ :: NL oA on_ oc_ oxs :: NL oR on_ orr oxs :: Own 1 (.slice OA m oc) (lws outs) :: Own 1 (.slice WA m wc) (lws wants) :: (outs.map lsL ++ wants.map lsL)))
                    case first =>
                      have hD228 : Mem w0 w6.drew (SB sg sA sn sc_ :: NL sA sn sc_ sxs :: NL sR sn sr sxs :: Blk g10 (.cells [.int .i64 x1, .int .i64 x2, .int .i64 x3, .slice xA xn xc].toArray 66) :: P2 g5 og sg :: Blk g6 (.cells [.slice oR on_ orr, .slice sR sn sr].toArray 95) :: SB og oA on_ oc_ :: NL oA on_ oc_ oxs :: NL oR on_ orr oxs :: Own 1 (.slice OA m oc) (lws outs) :: Own 1 (.slice WA m wc) (lws wants) :: (outs.map lsL ++ wants.map lsL)) := hmN.drew
                      refine wp_region_until (S := fun W => W.cell? ⟨g6, 1, none⟩ = some (.slice sR sn sr) ∧ W.cell? ⟨g10, 2, none⟩ = some (.int .i64 x3)) 12 (by kernel_rfl) ?_
                      generalize w6.drew = wd229 at hD228 ⊢
                      have q1_230 := hD228.cell (g := g6) (t := 95) (fr := (0, 0)) (cs := [.slice oR on_ orr, .slice sR sn sr]) (.tail _ (.tail _ (.tail _ (.tail _ (.tail _ (.head _)))))) 1 rfl
                      have k2_230 := hD228.cell (g := g10) (t := 66) (fr := (0, 0)) (cs := [.int .i64 x1, .int .i64 x2, .int .i64 x3, .slice xA xn xc]) (.tail _ (.tail _ (.tail _ (.head _)))) 2 rfl
                      refine wpAnyU_take 0 (v := ?vv31_3_1) rfl (by kernel_rfl) (by kernel_rfl) (fun _ _ _ h => h) ⟨q1_230, k2_230⟩ (Or.inl ⟨rfl, ?yv31_3_1⟩) ?rv31_3_1
                      case yv31_3_1 =>
                        intro W hW
                        obtain ⟨hW0, hW1⟩ := hW
                        go_simp
                        try with_reducible rfl
                      try simp only [Act.put, List.getElem_toArray, List.getElem_cons_succ, List.getElem_cons_zero, List.setIfInBounds_toArray, List.set_cons_zero, List.set_cons_succ]
                      refine wpAnyU_take 1 (v := ?vv31_3_2) rfl (by kernel_rfl) (by kernel_rfl) (fun _ _ _ h => h) ⟨q1_230, k2_230⟩ (Or.inl ⟨rfl, ?yv31_3_2⟩) ?rv31_3_2
                      case yv31_3_2 =>
                        intro W hW
                        obtain ⟨hW0, hW1⟩ := hW
                        go_simp
                        try with_reducible rfl
                      try simp only [Act.put, List.getElem_toArray, List.getElem_cons_succ, List.getElem_cons_zero, List.setIfInBounds_toArray, List.set_cons_zero, List.set_cons_succ]
                      refine wpAnyU_take 2 (v := ?vv31_3_3) rfl (by kernel_rfl) (by kernel_rfl) (fun _ _ _ h => h) ⟨q1_230, k2_230⟩ (Or.inl ⟨rfl, ?yv31_3_3⟩) ?rv31_3_3
                      case yv31_3_3 =>
                        intro W hW
                        obtain ⟨hW0, hW1⟩ := hW
                        go_simp
                        try with_reducible rfl
                      try simp only [Act.put, List.getElem_toArray, List.getElem_cons_succ, List.getElem_cons_zero, List.setIfInBounds_toArray, List.set_cons_zero, List.set_cons_succ]
                      refine wpAnyU_take 3 (v := ?vv31_3_4) rfl (by kernel_rfl) (by kernel_rfl) (fun _ _ _ h => h) ⟨q1_230, k2_230⟩ (Or.inl ⟨rfl, ?yv31_3_4⟩) ?rv31_3_4
                      case yv31_3_4 =>
                        intro W hW
                        obtain ⟨hW0, hW1⟩ := hW
                        go_simp
                        try with_reducible rfl
                      try simp only [Act.put, List.getElem_toArray, List.getElem_cons_succ, List.getElem_cons_zero, List.setIfInBounds_toArray, List.set_cons_zero, List.set_cons_succ]
                      refine wpAnyU_take 4 (v := ?vv31_3_5) rfl (by kernel_rfl) (by kernel_rfl) (fun _ _ _ h => h) ⟨q1_230, k2_230⟩ (Or.inl ⟨rfl, ?yv31_3_5⟩) ?rv31_3_5
                      case yv31_3_5 =>
                        intro W hW
                        obtain ⟨hW0, hW1⟩ := hW
                        go_simp
                        try with_reducible rfl
                      try simp only [Act.put, List.getElem_toArray, List.getElem_cons_succ, List.getElem_cons_zero, List.setIfInBounds_toArray, List.set_cons_zero, List.set_cons_succ]
                      refine wpAnyU_one 5 (by kernel_rfl) rfl (fun K hK => ?_)
                      refine step_callw rfl 56 Tryz.f56 Tryz.func56 (by kernel_rfl) (by kernel_rfl) _ _ rfl #[.slice sR sn sr, .int .i64 x3] (by simp [Act.eval]) ?_
                      refine (refPop_noG wd229 sR sn sr x3 hin).mono ?_
                      rintro e u231 ⟨rfl, hgg⟩
                      have hm233 : Mem w0 u231 (SB sg sA sn sc_ :: NL sA sn sc_ sxs :: NL sR sn sr sxs :: Blk g10 (.cells [.int .i64 x1, .int .i64 x2, .int .i64 x3, .slice xA xn xc].toArray 66) :: P2 g5 og sg :: Blk g6 (.cells [.slice oR on_ orr, .slice sR sn sr].toArray 95) :: SB og oA on_ oc_ :: NL oA on_ oc_ oxs :: NL oR on_ orr oxs :: Own 1 (.slice OA m oc) (lws outs) :: Own 1 (.slice WA m wc) (lws wants) :: (outs.map lsL ++ wants.map lsL)) := hD228.gr hgg
                      have q1_232 := hm233.cell (g := g6) (t := 95) (fr := (0, 0)) (cs := [.slice oR on_ orr, .slice sR sn sr]) (.tail _ (.tail _ (.tail _ (.tail _ (.tail _ (.head _)))))) 1 rfl
                      have k2_232 := hm233.cell (g := g10) (t := 66) (fr := (0, 0)) (cs := [.int .i64 x1, .int .i64 x2, .int .i64 x3, .slice xA xn xc]) (.tail _ (.tail _ (.tail _ (.head _)))) 2 rfl
                      refine ⟨_, rfl, hK _ _ (fun _ => ⟨q1_232, k2_232⟩) ?_⟩
                      clear hK K
                      try simp only [Act.put, List.getElem_toArray, List.getElem_cons_succ, List.getElem_cons_zero, List.setIfInBounds_toArray, List.set_cons_zero, List.set_cons_succ]
                      refine wpAnyU_take 6 (v := ?vv31_3_6) rfl (by kernel_rfl) (by kernel_rfl) (fun _ _ _ h => h) ⟨q1_232, k2_232⟩ (Or.inl ⟨rfl, ?yv31_3_6⟩) ?rv31_3_6
                      case yv31_3_6 =>
                        intro W hW
                        obtain ⟨hW0, hW1⟩ := hW
                        go_simp
                        try with_reducible rfl
                      try simp only [Act.put, List.getElem_toArray, List.getElem_cons_succ, List.getElem_cons_zero, List.setIfInBounds_toArray, List.set_cons_zero, List.set_cons_succ]
                      refine wpAnyU_take 7 (v := ?vv31_3_7) rfl (by kernel_rfl) (by kernel_rfl) (fun _ _ _ h => h) ⟨q1_232, k2_232⟩ (Or.inl ⟨rfl, ?yv31_3_7⟩) ?rv31_3_7
                      case yv31_3_7 =>
                        intro W hW
                        obtain ⟨hW0, hW1⟩ := hW
                        go_simp
                        try with_reducible rfl
                      try simp only [Act.put, List.getElem_toArray, List.getElem_cons_succ, List.getElem_cons_zero, List.setIfInBounds_toArray, List.set_cons_zero, List.set_cons_succ]
                      refine wpAnyU_take 8 (v := ?vv31_3_8) rfl (by kernel_rfl) (by kernel_rfl) (fun _ _ _ h => h) ⟨q1_232, k2_232⟩ (Or.inl ⟨rfl, ?yv31_3_8⟩) ?rv31_3_8
                      case yv31_3_8 =>
                        intro W hW
                        obtain ⟨hW0, hW1⟩ := hW
                        go_simp
                        try with_reducible rfl
                      try simp only [Act.put, List.getElem_toArray, List.getElem_cons_succ, List.getElem_cons_zero, List.setIfInBounds_toArray, List.set_cons_zero, List.set_cons_succ]
                      refine wpAnyU_take 9 (v := ?vv31_3_9) rfl (by kernel_rfl) (by kernel_rfl) (fun _ _ _ h => h) ⟨q1_232, k2_232⟩ (Or.inl ⟨rfl, ?yv31_3_9⟩) ?rv31_3_9
                      case yv31_3_9 =>
                        intro W hW
                        obtain ⟨hW0, hW1⟩ := hW
                        go_simp
                        try with_reducible rfl
                      try simp only [Act.put, List.getElem_toArray, List.getElem_cons_succ, List.getElem_cons_zero, List.setIfInBounds_toArray, List.set_cons_zero, List.set_cons_succ]
                      refine wpAnyU_take 10 (v := ?vv31_3_10) rfl (by kernel_rfl) (by kernel_rfl) (fun _ _ _ h => h) ⟨q1_232, k2_232⟩ (Or.inl ⟨rfl, ?yv31_3_10⟩) ?rv31_3_10
                      case yv31_3_10 =>
                        intro W hW
                        obtain ⟨hW0, hW1⟩ := hW
                        go_simp
                        try with_reducible rfl
                      try simp only [Act.put, List.getElem_toArray, List.getElem_cons_succ, List.getElem_cons_zero, List.setIfInBounds_toArray, List.set_cons_zero, List.set_cons_succ]
                      refine wpAnyU_take 11 (v := ?vv31_3_11) rfl (by kernel_rfl) (by kernel_rfl) (fun _ _ _ h => h) ⟨q1_232, k2_232⟩ (Or.inl ⟨rfl, ?yv31_3_11⟩) ?rv31_3_11
                      case yv31_3_11 =>
                        intro W hW
                        obtain ⟨hW0, hW1⟩ := hW
                        go_simp
                        try with_reducible rfl
                      try simp only [Act.put, List.getElem_toArray, List.getElem_cons_succ, List.getElem_cons_zero, List.setIfInBounds_toArray, List.set_cons_zero, List.set_cons_succ]
                      refine wpAnyU_one 12 (by kernel_rfl) rfl (fun K hK => ?_)
                      go_simp
                      refine hK _ _ (fun h => absurd h (by decide)) ?_
                      clear hK K
                      refine wpAnyU_done (by kernel_rfl) ?_ _
                      go_wp2
                      try simp only [Act.put, List.getElem_toArray, List.getElem_cons_succ, List.getElem_cons_zero, List.setIfInBounds_toArray, List.set_cons_succ, List.set_cons_zero]
                      go_meet
                      case rel => exact ⟨(), rfl, rfl, rfl, hm233⟩
                    case rest =>
                      obtain ⟨w234, rfl⟩ : ∃ w9 : World, w9 = wc := ⟨_, rfl⟩
                      obtain ⟨_, rfl, rfl, rfl, hm235⟩ := hcut
                      have p1 := hm235.cell (g := g5) (t := 94) (fr := (0, 0)) (cs := [.pointer (some ⟨og, 0, none⟩), .pointer (some ⟨sg, 0, none⟩)]) (.tail _ (.tail _ (.tail _ (.tail _ (.head _))))) 1 rfl
                      have k2 := hm235.cell (g := g10) (t := 66) (fr := (0, 0)) (cs := [.int .i64 x1, .int .i64 x2, .int .i64 x3, .slice xA xn xc]) (.tail _ (.tail _ (.tail _ (.head _)))) 2 rfl
                      go_upto_region 32 with (fail)
                      clear p1 k2
                      go_cut [17, 18] (fun s17 s18 W => ∃ (_u : Unit), s17 = .slice none 0 0 ∧ s18 = .bool false ∧ Mem w0 W (SB sg sA sn sc_ :: NL sA sn sc_ sxs :: NL sR sn sr sxs :: Blk g10 (.cells [.int .i64 x1, .int .i64 x2, .int .i64 x3, .slice xA xn xc].toArray 66) :: P2 g5 og sg :: Blk g6 (.cells [.slice oR on_ orr, .slice sR sn sr].toArray 95) :: SB og oA on_ oc_ :: NL oA on_ oc_ oxs :: NL oR on_ orr oxs :: Own 1 (.slice OA m oc) (lws outs) :: Own 1 (.slice WA m wc) (lws wants) :: (outs.map lsL ++ wants.map lsL)))
                      case first =>
                        have hD236 : Mem w0 w234.drew (SB sg sA sn sc_ :: NL sA sn sc_ sxs :: NL sR sn sr sxs :: Blk g10 (.cells [.int .i64 x1, .int .i64 x2, .int .i64 x3, .slice xA xn xc].toArray 66) :: P2 g5 og sg :: Blk g6 (.cells [.slice oR on_ orr, .slice sR sn sr].toArray 95) :: SB og oA on_ oc_ :: NL oA on_ oc_ oxs :: NL oR on_ orr oxs :: Own 1 (.slice OA m oc) (lws outs) :: Own 1 (.slice WA m wc) (lws wants) :: (outs.map lsL ++ wants.map lsL)) := hm235.drew
                        refine wp_region_until (S := fun W => W.cell? ⟨g5, 1, none⟩ = some (.pointer (some ⟨sg, 0, none⟩)) ∧ W.cell? ⟨g10, 2, none⟩ = some (.int .i64 x3)) 10 (by kernel_rfl) ?_
                        generalize w234.drew = wd237 at hD236 ⊢
                        have p1_238 := hD236.cell (g := g5) (t := 94) (fr := (0, 0)) (cs := [.pointer (some ⟨og, 0, none⟩), .pointer (some ⟨sg, 0, none⟩)]) (.tail _ (.tail _ (.tail _ (.tail _ (.head _))))) 1 rfl
                        have k2_238 := hD236.cell (g := g10) (t := 66) (fr := (0, 0)) (cs := [.int .i64 x1, .int .i64 x2, .int .i64 x3, .slice xA xn xc]) (.tail _ (.tail _ (.tail _ (.head _)))) 2 rfl
                        refine wpAnyU_take 0 (v := ?vv32_3_1) rfl (by kernel_rfl) (by kernel_rfl) (fun _ _ _ h => h) ⟨p1_238, k2_238⟩ (Or.inl ⟨rfl, ?yv32_3_1⟩) ?rv32_3_1
                        case yv32_3_1 =>
                          intro W hW
                          obtain ⟨hW0, hW1⟩ := hW
                          go_simp
                          try with_reducible rfl
                        try simp only [Act.put, List.getElem_toArray, List.getElem_cons_succ, List.getElem_cons_zero, List.setIfInBounds_toArray, List.set_cons_zero, List.set_cons_succ]
                        refine wpAnyU_take 1 (v := ?vv32_3_2) rfl (by kernel_rfl) (by kernel_rfl) (fun _ _ _ h => h) ⟨p1_238, k2_238⟩ (Or.inl ⟨rfl, ?yv32_3_2⟩) ?rv32_3_2
                        case yv32_3_2 =>
                          intro W hW
                          obtain ⟨hW0, hW1⟩ := hW
                          go_simp
                          try with_reducible rfl
                        try simp only [Act.put, List.getElem_toArray, List.getElem_cons_succ, List.getElem_cons_zero, List.setIfInBounds_toArray, List.set_cons_zero, List.set_cons_succ]
                        refine wpAnyU_take 2 (v := ?vv32_3_3) rfl (by kernel_rfl) (by kernel_rfl) (fun _ _ _ h => h) ⟨p1_238, k2_238⟩ (Or.inl ⟨rfl, ?yv32_3_3⟩) ?rv32_3_3
                        case yv32_3_3 =>
                          intro W hW
                          obtain ⟨hW0, hW1⟩ := hW
                          go_simp
                          try with_reducible rfl
                        try simp only [Act.put, List.getElem_toArray, List.getElem_cons_succ, List.getElem_cons_zero, List.setIfInBounds_toArray, List.set_cons_zero, List.set_cons_succ]
                        refine wpAnyU_take 3 (v := ?vv32_3_4) rfl (by kernel_rfl) (by kernel_rfl) (fun _ _ _ h => h) ⟨p1_238, k2_238⟩ (Or.inl ⟨rfl, ?yv32_3_4⟩) ?rv32_3_4
                        case yv32_3_4 =>
                          intro W hW
                          obtain ⟨hW0, hW1⟩ := hW
                          go_simp
                          try with_reducible rfl
                        try simp only [Act.put, List.getElem_toArray, List.getElem_cons_succ, List.getElem_cons_zero, List.setIfInBounds_toArray, List.set_cons_zero, List.set_cons_succ]
                        refine wpAnyU_take 4 (v := ?vv32_3_5) rfl (by kernel_rfl) (by kernel_rfl) (fun _ _ _ h => h) ⟨p1_238, k2_238⟩ (Or.inl ⟨rfl, ?yv32_3_5⟩) ?rv32_3_5
                        case yv32_3_5 =>
                          intro W hW
                          obtain ⟨hW0, hW1⟩ := hW
                          go_simp
                          try with_reducible rfl
                        try simp only [Act.put, List.getElem_toArray, List.getElem_cons_succ, List.getElem_cons_zero, List.setIfInBounds_toArray, List.set_cons_zero, List.set_cons_succ]
                        refine wpAnyU_one 5 (by kernel_rfl) rfl (fun K hK => ?_)
                        refine step_callw rfl 57 Tryz.f57 Tryz.func57 (by kernel_rfl) (by kernel_rfl) _ _ rfl #[.pointer (some ⟨sg, 0, none⟩), .int .i64 x3] (by simp [Act.eval]) ?_
                        refine (popNo2G w0 wd237 _ sg sA sn sc_ 134 hD236 (.head _) (by omega) x3 hin hx3).mono ?_
                        rintro e u239 ⟨rfl, hgg⟩
                        have hm241 : Mem w0 u239 (SB sg sA sn sc_ :: NL sA sn sc_ sxs :: NL sR sn sr sxs :: Blk g10 (.cells [.int .i64 x1, .int .i64 x2, .int .i64 x3, .slice xA xn xc].toArray 66) :: P2 g5 og sg :: Blk g6 (.cells [.slice oR on_ orr, .slice sR sn sr].toArray 95) :: SB og oA on_ oc_ :: NL oA on_ oc_ oxs :: NL oR on_ orr oxs :: Own 1 (.slice OA m oc) (lws outs) :: Own 1 (.slice WA m wc) (lws wants) :: (outs.map lsL ++ wants.map lsL)) := hD236.gr hgg
                        have p1_240 := hm241.cell (g := g5) (t := 94) (fr := (0, 0)) (cs := [.pointer (some ⟨og, 0, none⟩), .pointer (some ⟨sg, 0, none⟩)]) (.tail _ (.tail _ (.tail _ (.tail _ (.head _))))) 1 rfl
                        have k2_240 := hm241.cell (g := g10) (t := 66) (fr := (0, 0)) (cs := [.int .i64 x1, .int .i64 x2, .int .i64 x3, .slice xA xn xc]) (.tail _ (.tail _ (.tail _ (.head _)))) 2 rfl
                        refine ⟨_, rfl, hK _ _ (fun _ => ⟨p1_240, k2_240⟩) ?_⟩
                        clear hK K
                        try simp only [Act.put, List.getElem_toArray, List.getElem_cons_succ, List.getElem_cons_zero, List.setIfInBounds_toArray, List.set_cons_zero, List.set_cons_succ]
                        refine wpAnyU_take 6 (v := ?vv32_3_6) rfl (by kernel_rfl) (by kernel_rfl) (fun _ _ _ h => h) ⟨p1_240, k2_240⟩ (Or.inl ⟨rfl, ?yv32_3_6⟩) ?rv32_3_6
                        case yv32_3_6 =>
                          intro W hW
                          obtain ⟨hW0, hW1⟩ := hW
                          go_simp
                          try with_reducible rfl
                        try simp only [Act.put, List.getElem_toArray, List.getElem_cons_succ, List.getElem_cons_zero, List.setIfInBounds_toArray, List.set_cons_zero, List.set_cons_succ]
                        refine wpAnyU_take 7 (v := ?vv32_3_7) rfl (by kernel_rfl) (by kernel_rfl) (fun _ _ _ h => h) ⟨p1_240, k2_240⟩ (Or.inl ⟨rfl, ?yv32_3_7⟩) ?rv32_3_7
                        case yv32_3_7 =>
                          intro W hW
                          obtain ⟨hW0, hW1⟩ := hW
                          go_simp
                          try with_reducible rfl
                        try simp only [Act.put, List.getElem_toArray, List.getElem_cons_succ, List.getElem_cons_zero, List.setIfInBounds_toArray, List.set_cons_zero, List.set_cons_succ]
                        refine wpAnyU_take 8 (v := ?vv32_3_8) rfl (by kernel_rfl) (by kernel_rfl) (fun _ _ _ h => h) ⟨p1_240, k2_240⟩ (Or.inl ⟨rfl, ?yv32_3_8⟩) ?rv32_3_8
                        case yv32_3_8 =>
                          intro W hW
                          obtain ⟨hW0, hW1⟩ := hW
                          go_simp
                          try with_reducible rfl
                        try simp only [Act.put, List.getElem_toArray, List.getElem_cons_succ, List.getElem_cons_zero, List.setIfInBounds_toArray, List.set_cons_zero, List.set_cons_succ]
                        refine wpAnyU_take 9 (v := ?vv32_3_9) rfl (by kernel_rfl) (by kernel_rfl) (fun _ _ _ h => h) ⟨p1_240, k2_240⟩ (Or.inl ⟨rfl, ?yv32_3_9⟩) ?rv32_3_9
                        case yv32_3_9 =>
                          intro W hW
                          obtain ⟨hW0, hW1⟩ := hW
                          go_simp
                          try with_reducible rfl
                        try simp only [Act.put, List.getElem_toArray, List.getElem_cons_succ, List.getElem_cons_zero, List.setIfInBounds_toArray, List.set_cons_zero, List.set_cons_succ]
                        refine wpAnyU_one 10 (by kernel_rfl) rfl (fun K hK => ?_)
                        go_simp
                        refine hK _ _ (fun h => absurd h (by decide)) ?_
                        clear hK K
                        refine wpAnyU_done (by kernel_rfl) ?_ _
                        go_wp2
                        try simp only [Act.put, List.getElem_toArray, List.getElem_cons_succ, List.getElem_cons_zero, List.setIfInBounds_toArray, List.set_cons_succ, List.set_cons_zero]
                        go_meet
                        case rel => exact ⟨(), rfl, rfl, hm241⟩
                      case rest =>
                        obtain ⟨w242, rfl⟩ : ∃ w9 : World, w9 = wc := ⟨_, rfl⟩
                        obtain ⟨_, rfl, rfl, hm243⟩ := hcut
                        have hm244 : Mem w0 w242 (NL none 0 0 [] :: NL none 0 0 [] :: SB sg sA sn sc_ :: NL sA sn sc_ sxs :: NL sR sn sr sxs :: Blk g10 (.cells [.int .i64 x1, .int .i64 x2, .int .i64 x3, .slice xA xn xc].toArray 66) :: P2 g5 og sg :: Blk g6 (.cells [.slice oR on_ orr, .slice sR sn sr].toArray 95) :: SB og oA on_ oc_ :: NL oA on_ oc_ oxs :: NL oR on_ orr oxs :: Own 1 (.slice OA m oc) (lws outs) :: Own 1 (.slice WA m wc) (lws wants) :: (outs.map lsL ++ wants.map lsL)) := (hm243.nil 1 none).nil 1 none
                        go_upto_region 34 with (at_builtin; refine wp_app rfl _ _ _ rfl 34 iS _ 1 24 ty_LLs si sz0 sz1 sz2 rfl OA m oc _ rfl ((hm244.alloc _).sel 14 [12, 0, 1, 2, 3, 4, 5, 6, 7, 8, 9, 10, 11, 13] (by decide)) _ 1 1 [.slice none 0 0] rfl (RdC.lit _ _ _ _ _ rfl (by simp [maxLen]) (lws_one [⟨none, 0, 0, []⟩])) (by unfold maxLen; omega) (by omega) ?_; intro A245 c246 w247 hm248)
                        have hm249 : Mem w0 w247 (Own 1 (.slice A245 (m + 1) c246) (lws (outs ++ [⟨none, 0, 0, []⟩])) :: NL none 0 0 [] :: NL none 0 0 [] :: SB sg sA sn sc_ :: NL sA sn sc_ sxs :: NL sR sn sr sxs :: Blk g10 (.cells [.int .i64 x1, .int .i64 x2, .int .i64 x3, .slice xA xn xc].toArray 66) :: P2 g5 og sg :: Blk g6 (.cells [.slice oR on_ orr, .slice sR sn sr].toArray 95) :: SB og oA on_ oc_ :: NL oA on_ oc_ oxs :: NL oR on_ orr oxs :: Own 1 (.slice WA m wc) (lws wants) :: (outs.map lsL ++ wants.map lsL)) := by rw [lws_app]; exact hm248.sub (.cons_cons _ (.cons _ (List.Sublist.refl _)))
                        go_upto_region 35 with (at_builtin; refine wp_app rfl _ _ _ rfl 34 iS _ 1 24 ty_LLs si sz0 sz1 sz2 rfl WA m wc _ rfl ((hm249.alloc _).sel 14 [13, 0, 1, 2, 3, 4, 5, 6, 7, 8, 9, 10, 11, 12] (by decide)) _ 1 1 [.slice none 0 0] rfl (RdC.lit _ _ _ _ _ rfl (by simp [maxLen]) (lws_one [⟨none, 0, 0, []⟩])) (by unfold maxLen; omega) (by omega) ?_; intro A250 c251 w252 hm253)
                        have hm254 : Mem w0 w252 (Own 1 (.slice A250 (m + 1) c251) (lws (wants ++ [⟨none, 0, 0, []⟩])) :: Own 1 (.slice A245 (m + 1) c246) (lws (outs ++ [⟨none, 0, 0, []⟩])) :: NL none 0 0 [] :: NL none 0 0 [] :: SB sg sA sn sc_ :: NL sA sn sc_ sxs :: NL sR sn sr sxs :: Blk g10 (.cells [.int .i64 x1, .int .i64 x2, .int .i64 x3, .slice xA xn xc].toArray 66) :: P2 g5 og sg :: Blk g6 (.cells [.slice oR on_ orr, .slice sR sn sr].toArray 95) :: SB og oA on_ oc_ :: NL oA on_ oc_ oxs :: NL oR on_ orr oxs :: (outs.map lsL ++ wants.map lsL)) := by rw [lws_app]; exact hm253.sub (.cons_cons _ (.cons _ (List.Sublist.refl _)))
                        have q1 := hm254.cell (g := g6) (t := 95) (fr := (0, 0)) (cs := [.slice oR on_ orr, .slice sR sn sr]) (.tail _ (.tail _ (.tail _ (.tail _ (.tail _ (.tail _ (.tail _ (.tail _ (.tail _ (.head _)))))))))) 1 rfl
                        have f1 := hm254.free (g := g6) (t := 95) (cs := [.slice oR on_ orr, .slice sR sn sr]) (.tail _ (.tail _ (.tail _ (.tail _ (.tail _ (.tail _ (.tail _ (.tail _ (.tail _ (.head _)))))))))) 1
                        have hm255 : Mem w0 w252 (Blk g6 (.cells [.slice oR on_ orr, .slice sR sn sr].toArray 95) :: Own 1 (.slice A250 (m + 1) c251) (lws (wants ++ [⟨none, 0, 0, []⟩])) :: Own 1 (.slice A245 (m + 1) c246) (lws (outs ++ [⟨none, 0, 0, []⟩])) :: NL none 0 0 [] :: NL none 0 0 [] :: SB sg sA sn sc_ :: NL sA sn sc_ sxs :: NL sR sn sr sxs :: Blk g10 (.cells [.int .i64 x1, .int .i64 x2, .int .i64 x3, .slice xA xn xc].toArray 66) :: P2 g5 og sg :: SB og oA on_ oc_ :: NL oA on_ oc_ oxs :: NL oR on_ orr oxs :: (outs.map lsL ++ wants.map lsL)) := hm254.sel 13 [9, 0, 1, 2, 3, 4, 5, 6, 7, 8, 10, 11, 12] (by decide)
                        have hm256 := hm255.set 1 (.slice sR sn sr)
                        simp only [List.set_cons_zero, List.set_cons_succ] at hm256
                        go_upto_region 36 with (fail)
                        clear q1 f1
                        generalize w252.setCell _ _ = w257 at hm256 ⊢
                        go_wp2
                        have hm258 : Mem w0 w257 (P2 g5 og sg :: Blk g6 (.cells [.slice oR on_ orr, .slice sR sn sr].toArray 95) :: SB og oA on_ oc_ :: NL oA on_ oc_ oxs :: NL oR on_ orr oxs :: SB sg sA sn sc_ :: NL sA sn sc_ sxs :: NL sR sn sr sxs :: Own 1 (.slice A245 (m + 1) c246) (lws (outs ++ [⟨none, 0, 0, []⟩])) :: Own 1 (.slice A250 (m + 1) c251) (lws (wants ++ [⟨none, 0, 0, []⟩])) :: NL none 0 0 [] :: NL none 0 0 [] :: (outs.map lsL ++ wants.map lsL)) := hm256.sel 13 [9, 0, 10, 11, 12, 5, 6, 7, 2, 1, 3, 4] (by decide)
                        have hm259 : Mem w0 w257 (P2 g5 og sg :: Blk g6 (.cells [.slice oR on_ orr, .slice sR sn sr].toArray 95) :: SB og oA on_ oc_ :: NL oA on_ oc_ oxs :: NL oR on_ orr oxs :: SB sg sA sn sc_ :: NL sA sn sc_ sxs :: NL sR sn sr sxs :: Own 1 (.slice A245 (m + 1) c246) (lws (outs ++ [⟨none, 0, 0, []⟩])) :: Own 1 (.slice A250 (m + 1) c251) (lws (wants ++ [⟨none, 0, 0, []⟩])) :: ((outs ++ ([⟨none, 0, 0, []⟩] : List LL)).map lsL ++ (wants ++ ([⟨none, 0, 0, []⟩] : List LL)).map lsL)) := by rw [List.map_append, List.map_append]; exact hm258.perm (perm_tail [_, _, _, _, _, _, _, _, _, _] _ _ _ _)
                        have hfa9 : Fact (_ ∧ _ ∧ _ ∧ OutsOk (m + 1) (outs ++ ([⟨none, 0, 0, []⟩] : List LL)) (wants ++ ([⟨none, 0, 0, []⟩] : List LL))) := ⟨by have h := hfa0.out; exact ⟨Nat.le_trans (Nat.le_add_right _ _) h.1.1, Nat.le_trans (Nat.le_add_right _ _) h.1.2, Nat.succ_le_succ h.2.1, h.2.2.snoc _ _ rfl rfl (by simp only; omega)⟩⟩
                        go_roundw
                        case rel => exact ⟨i + 1, ⟨og, oA, on_, oc_, oR, orr, oxs⟩, ⟨sg, sA, sn, sc_, sR, sr, sxs⟩, A245, m + 1, c246, _, A250, c251, _, by go_num, by omega, rfl, rfl, hm259, hfa9⟩
                        case measure => simp [intOf]; omega
                  · skip
                    obtain ⟨kk, rfl⟩ : ∃ kk : Nat, x3 = (kk : Int) := ⟨x3.toNat, by omega⟩
                    have hkk : kk ≤ sn := by omega
                    obtain ⟨qq, hqq⟩ : ∃ qq, Fact (sn - kk = qq) := ⟨_, ⟨rfl⟩⟩
                    have hqq1 : qq ≤ sn := by have := hqq.out; omega
                    have hrA := fun hc => OwnAt.addr (hmN.ok _ (.tail _ (.tail _ (.head _)))) hc
                    have q1 := hmN.cell (g := g6) (t := 95) (fr := (0, 0)) (cs := [.slice oR on_ orr, .slice sR sn sr]) (.tail _ (.tail _ (.tail _ (.tail _ (.tail _ (.head _)))))) 1 rfl
                    have k2 := hmN.cell (g := g10) (t := 66) (fr := (0, 0)) (cs := [.int .i64 x1, .int .i64 x2, .int .i64 (kk : Int), .slice xA xn xc]) (.tail _ (.tail _ (.tail _ (.head _)))) 2 rfl
                    go_upto_region 31 with (fail)
                    clear q1 k2
                    go_cut [14, 15, 16] (fun s14 s15 s16 W => ∃ (NA : Option Addr) (nc : Nat) (JA : Option Addr) (jc : Nat), s14 = .slice NA qq nc ∧ s15 = .slice JA kk jc ∧ s16 = .bool true ∧ Mem w0 W (NL JA kk jc (sxs.drop qq) :: NL NA qq nc (sxs.take qq) :: SB sg sA sn sc_ :: NL sA sn sc_ sxs :: NL sR sn sr sxs :: Blk g10 (.cells [.int .i64 x1, .int .i64 x2, .int .i64 (kk : Int), .slice xA xn xc].toArray 66) :: P2 g5 og sg :: Blk g6 (.cells [.slice oR on_ orr, .slice sR sn sr].toArray 95) :: SB og oA on_ oc_ :: NL oA on_ oc_ oxs :: NL oR on_ orr oxs :: Own 1 (.slice OA m oc) (lws outs) :: Own 1 (.slice WA m wc) (lws wants) :: (outs.map lsL ++ wants.map lsL)))
                    case first =>
                      have hD260 : Mem w0 w6.drew (SB sg sA sn sc_ :: NL sA sn sc_ sxs :: NL sR sn sr sxs :: Blk g10 (.cells [.int .i64 x1, .int .i64 x2, .int .i64 (kk : Int), .slice xA xn xc].toArray 66) :: P2 g5 og sg :: Blk g6 (.cells [.slice oR on_ orr, .slice sR sn sr].toArray 95) :: SB og oA on_ oc_ :: NL oA on_ oc_ oxs :: NL oR on_ orr oxs :: Own 1 (.slice OA m oc) (lws outs) :: Own 1 (.slice WA m wc) (lws wants) :: (outs.map lsL ++ wants.map lsL)) := hmN.drew
                      refine wp_region_until (S := fun W => W.cell? ⟨g6, 1, none⟩ = some (.slice sR sn sr) ∧ W.cell? ⟨g10, 2, none⟩ = some (.int .i64 (kk : Int))) 12 (by kernel_rfl) ?_
                      generalize w6.drew = wd261 at hD260 ⊢
                      have q1_262 := hD260.cell (g := g6) (t := 95) (fr := (0, 0)) (cs := [.slice oR on_ orr, .slice sR sn sr]) (.tail _ (.tail _ (.tail _ (.tail _ (.tail _ (.head _)))))) 1 rfl
                      have k2_262 := hD260.cell (g := g10) (t := 66) (fr := (0, 0)) (cs := [.int .i64 x1, .int .i64 x2, .int .i64 (kk : Int), .slice xA xn xc]) (.tail _ (.tail _ (.tail _ (.head _)))) 2 rfl
                      refine wpAnyU_take 0 (v := ?vv31_4_1) rfl (by kernel_rfl) (by kernel_rfl) (fun _ _ _ h => h) ⟨q1_262, k2_262⟩ (Or.inl ⟨rfl, ?yv31_4_1⟩) ?rv31_4_1
                      case yv31_4_1 =>
                        intro W hW
                        obtain ⟨hW0, hW1⟩ := hW
                        go_simp
                        try with_reducible rfl
                      try simp only [Act.put, List.getElem_toArray, List.getElem_cons_succ, List.getElem_cons_zero, List.setIfInBounds_toArray, List.set_cons_zero, List.set_cons_succ]
                      refine wpAnyU_take 1 (v := ?vv31_4_2) rfl (by kernel_rfl) (by kernel_rfl) (fun _ _ _ h => h) ⟨q1_262, k2_262⟩ (Or.inl ⟨rfl, ?yv31_4_2⟩) ?rv31_4_2
                      case yv31_4_2 =>
                        intro W hW
                        obtain ⟨hW0, hW1⟩ := hW
                        go_simp
                        try with_reducible rfl
                      try simp only [Act.put, List.getElem_toArray, List.getElem_cons_succ, List.getElem_cons_zero, List.setIfInBounds_toArray, List.set_cons_zero, List.set_cons_succ]
                      refine wpAnyU_take 2 (v := ?vv31_4_3) rfl (by kernel_rfl) (by kernel_rfl) (fun _ _ _ h => h) ⟨q1_262, k2_262⟩ (Or.inl ⟨rfl, ?yv31_4_3⟩) ?rv31_4_3
                      case yv31_4_3 =>
                        intro W hW
                        obtain ⟨hW0, hW1⟩ := hW
                        go_simp
                        try with_reducible rfl
                      try simp only [Act.put, List.getElem_toArray, List.getElem_cons_succ, List.getElem_cons_zero, List.setIfInBounds_toArray, List.set_cons_zero, List.set_cons_succ]
                      refine wpAnyU_take 3 (v := ?vv31_4_4) rfl (by kernel_rfl) (by kernel_rfl) (fun _ _ _ h => h) ⟨q1_262, k2_262⟩ (Or.inl ⟨rfl, ?yv31_4_4⟩) ?rv31_4_4
                      case yv31_4_4 =>
                        intro W hW
                        obtain ⟨hW0, hW1⟩ := hW
                        go_simp
                        try with_reducible rfl
                      try simp only [Act.put, List.getElem_toArray, List.getElem_cons_succ, List.getElem_cons_zero, List.setIfInBounds_toArray, List.set_cons_zero, List.set_cons_succ]
                      refine wpAnyU_take 4 (v := ?vv31_4_5) rfl (by kernel_rfl) (by kernel_rfl) (fun _ _ _ h => h) ⟨q1_262, k2_262⟩ (Or.inl ⟨rfl, ?yv31_4_5⟩) ?rv31_4_5
                      case yv31_4_5 =>
                        intro W hW
                        obtain ⟨hW0, hW1⟩ := hW
                        go_simp
                        try with_reducible rfl
                      try simp only [Act.put, List.getElem_toArray, List.getElem_cons_succ, List.getElem_cons_zero, List.setIfInBounds_toArray, List.set_cons_zero, List.set_cons_succ]
                      refine wpAnyU_one 5 (by kernel_rfl) rfl (fun K hK => ?_)
                      refine step_callw rfl 56 Tryz.f56 Tryz.func56 (by kernel_rfl) (by kernel_rfl) _ _ rfl #[.slice sR sn sr, .int .i64 (kk : Int)] (by simp [Act.eval]) ?_
                      refine (refPop_ok wd261 sR sn sr sxs ⟨hD260.rd (.tail _ (.tail _ (.head _)))⟩ (by omega) kk hkk _ rfl hrA).mono ?_
                      rintro e u263 ⟨NA, nc, JA, jc, rfl, hmP⟩
                      rw [hqq.out] at hmP
                      have hm265 : Mem w0 u263 (NL JA kk jc (sxs.drop qq) :: NL NA qq nc (sxs.take qq) :: SB sg sA sn sc_ :: NL sA sn sc_ sxs :: NL sR sn sr sxs :: Blk g10 (.cells [.int .i64 x1, .int .i64 x2, .int .i64 (kk : Int), .slice xA xn xc].toArray 66) :: P2 g5 og sg :: Blk g6 (.cells [.slice oR on_ orr, .slice sR sn sr].toArray 95) :: SB og oA on_ oc_ :: NL oA on_ oc_ oxs :: NL oR on_ orr oxs :: Own 1 (.slice OA m oc) (lws outs) :: Own 1 (.slice WA m wc) (lws wants) :: (outs.map lsL ++ wants.map lsL)) := hD260.join hmP
                      have q1_264 := hm265.cell (g := g6) (t := 95) (fr := (0, 0)) (cs := [.slice oR on_ orr, .slice sR sn sr]) (.tail _ (.tail _ (.tail _ (.tail _ (.tail _ (.tail _ (.tail _ (.head _)))))))) 1 rfl
                      have k2_264 := hm265.cell (g := g10) (t := 66) (fr := (0, 0)) (cs := [.int .i64 x1, .int .i64 x2, .int .i64 (kk : Int), .slice xA xn xc]) (.tail _ (.tail _ (.tail _ (.tail _ (.tail _ (.head _)))))) 2 rfl
                      refine ⟨_, rfl, hK _ _ (fun _ => ⟨q1_264, k2_264⟩) ?_⟩
                      clear hK K
                      try simp only [Act.put, List.getElem_toArray, List.getElem_cons_succ, List.getElem_cons_zero, List.setIfInBounds_toArray, List.set_cons_zero, List.set_cons_succ]
                      refine wpAnyU_take 6 (v := ?vv31_4_6) rfl (by kernel_rfl) (by kernel_rfl) (fun _ _ _ h => h) ⟨q1_264, k2_264⟩ (Or.inl ⟨rfl, ?yv31_4_6⟩) ?rv31_4_6
                      case yv31_4_6 =>
                        intro W hW
                        obtain ⟨hW0, hW1⟩ := hW
                        go_simp
                        try with_reducible rfl
                      try simp only [Act.put, List.getElem_toArray, List.getElem_cons_succ, List.getElem_cons_zero, List.setIfInBounds_toArray, List.set_cons_zero, List.set_cons_succ]
                      refine wpAnyU_take 7 (v := ?vv31_4_7) rfl (by kernel_rfl) (by kernel_rfl) (fun _ _ _ h => h) ⟨q1_264, k2_264⟩ (Or.inl ⟨rfl, ?yv31_4_7⟩) ?rv31_4_7
                      case yv31_4_7 =>
                        intro W hW
                        obtain ⟨hW0, hW1⟩ := hW
                        go_simp
                        try with_reducible rfl
                      try simp only [Act.put, List.getElem_toArray, List.getElem_cons_succ, List.getElem_cons_zero, List.setIfInBounds_toArray, List.set_cons_zero, List.set_cons_succ]
                      refine wpAnyU_take 8 (v := ?vv31_4_8) rfl (by kernel_rfl) (by kernel_rfl) (fun _ _ _ h => h) ⟨q1_264, k2_264⟩ (Or.inl ⟨rfl, ?yv31_4_8⟩) ?rv31_4_8
                      case yv31_4_8 =>
                        intro W hW
                        obtain ⟨hW0, hW1⟩ := hW
                        go_simp
                        try with_reducible rfl
                      try simp only [Act.put, List.getElem_toArray, List.getElem_cons_succ, List.getElem_cons_zero, List.setIfInBounds_toArray, List.set_cons_zero, List.set_cons_succ]
                      refine wpAnyU_take 9 (v := ?vv31_4_9) rfl (by kernel_rfl) (by kernel_rfl) (fun _ _ _ h => h) ⟨q1_264, k2_264⟩ (Or.inl ⟨rfl, ?yv31_4_9⟩) ?rv31_4_9
                      case yv31_4_9 =>
                        intro W hW
                        obtain ⟨hW0, hW1⟩ := hW
                        go_simp
                        try with_reducible rfl
                      try simp only [Act.put, List.getElem_toArray, List.getElem_cons_succ, List.getElem_cons_zero, List.setIfInBounds_toArray, List.set_cons_zero, List.set_cons_succ]
                      refine wpAnyU_take 10 (v := ?vv31_4_10) rfl (by kernel_rfl) (by kernel_rfl) (fun _ _ _ h => h) ⟨q1_264, k2_264⟩ (Or.inl ⟨rfl, ?yv31_4_10⟩) ?rv31_4_10
                      case yv31_4_10 =>
                        intro W hW
                        obtain ⟨hW0, hW1⟩ := hW
                        go_simp
                        try with_reducible rfl
                      try simp only [Act.put, List.getElem_toArray, List.getElem_cons_succ, List.getElem_cons_zero, List.setIfInBounds_toArray, List.set_cons_zero, List.set_cons_succ]
                      refine wpAnyU_take 11 (v := ?vv31_4_11) rfl (by kernel_rfl) (by kernel_rfl) (fun _ _ _ h => h) ⟨q1_264, k2_264⟩ (Or.inl ⟨rfl, ?yv31_4_11⟩) ?rv31_4_11
                      case yv31_4_11 =>
                        intro W hW
                        obtain ⟨hW0, hW1⟩ := hW
                        go_simp
                        try with_reducible rfl
                      try simp only [Act.put, List.getElem_toArray, List.getElem_cons_succ, List.getElem_cons_zero, List.setIfInBounds_toArray, List.set_cons_zero, List.set_cons_succ]
                      refine wpAnyU_one 12 (by kernel_rfl) rfl (fun K hK => ?_)
                      go_simp
                      refine hK _ _ (fun h => absurd h (by decide)) ?_
                      clear hK K
                      refine wpAnyU_done (by kernel_rfl) ?_ _
                      go_wp2
                      try simp only [Act.put, List.getElem_toArray, List.getElem_cons_succ, List.getElem_cons_zero, List.setIfInBounds_toArray, List.set_cons_succ, List.set_cons_zero]
                      go_meet
                      case rel => exact ⟨_, _, _, _, by rw [hqq.out], rfl, rfl, hm265⟩
                    case rest =>
                      obtain ⟨w266, rfl⟩ : ∃ w9 : World, w9 = wc := ⟨_, rfl⟩
                      obtain ⟨NA, nc, JA, jc, rfl, rfl, rfl, hm267⟩ := hcut
                      have hm268 : Mem w0 w266 (SB sg sA sn sc_ :: NL sA sn sc_ sxs :: NL JA kk jc (sxs.drop qq) :: NL NA qq nc (sxs.take qq) :: NL sR sn sr sxs :: Blk g10 (.cells [.int .i64 x1, .int .i64 x2, .int .i64 (kk : Int), .slice xA xn xc].toArray 66) :: P2 g5 og sg :: Blk g6 (.cells [.slice oR on_ orr, .slice sR sn sr].toArray 95) :: SB og oA on_ oc_ :: NL oA on_ oc_ oxs :: NL oR on_ orr oxs :: Own 1 (.slice OA m oc) (lws outs) :: Own 1 (.slice WA m wc) (lws wants) :: (outs.map lsL ++ wants.map lsL)) := hm267.sel 13 [2, 3, 0, 1, 4, 5, 6, 7, 8, 9, 10, 11, 12] (by decide)
                      have p1 := hm268.cell (g := g5) (t := 94) (fr := (0, 0)) (cs := [.pointer (some ⟨og, 0, none⟩), .pointer (some ⟨sg, 0, none⟩)]) (.tail _ (.tail _ (.tail _ (.tail _ (.tail _ (.tail _ (.head _))))))) 1 rfl
                      have k2 := hm268.cell (g := g10) (t := 66) (fr := (0, 0)) (cs := [.int .i64 x1, .int .i64 x2, .int .i64 (kk : Int), .slice xA xn xc]) (.tail _ (.tail _ (.tail _ (.tail _ (.tail _ (.head _)))))) 2 rfl
                      go_upto_region 32 with (fail)
                      clear p1 k2
                      go_cut [17, 18] (fun s17 s18 W => ∃ (IA : Option Addr) (ic : Nat), s17 = .slice IA kk ic ∧ s18 = .bool true ∧ Mem w0 W (SB sg sA qq qq :: NL sA qq qq (sxs.take qq) :: NL IA kk ic (sxs.drop qq) :: NL JA kk jc (sxs.drop qq) :: NL NA qq nc (sxs.take qq) :: NL sR sn sr sxs :: Blk g10 (.cells [.int .i64 x1, .int .i64 x2, .int .i64 (kk : Int), .slice xA xn xc].toArray 66) :: P2 g5 og sg :: Blk g6 (.cells [.slice oR on_ orr, .slice sR sn sr].toArray 95) :: SB og oA on_ oc_ :: NL oA on_ oc_ oxs :: NL oR on_ orr oxs :: Own 1 (.slice OA m oc) (lws outs) :: Own 1 (.slice WA m wc) (lws wants) :: (outs.map lsL ++ wants.map lsL)))
                      case first =>
                        have hD269 : Mem w0 w266.drew (SB sg sA sn sc_ :: NL sA sn sc_ sxs :: NL JA kk jc (sxs.drop qq) :: NL NA qq nc (sxs.take qq) :: NL sR sn sr sxs :: Blk g10 (.cells [.int .i64 x1, .int .i64 x2, .int .i64 (kk : Int), .slice xA xn xc].toArray 66) :: P2 g5 og sg :: Blk g6 (.cells [.slice oR on_ orr, .slice sR sn sr].toArray 95) :: SB og oA on_ oc_ :: NL oA on_ oc_ oxs :: NL oR on_ orr oxs :: Own 1 (.slice OA m oc) (lws outs) :: Own 1 (.slice WA m wc) (lws wants) :: (outs.map lsL ++ wants.map lsL)) := hm268.drew
                        refine wp_region_until (S := fun W => W.cell? ⟨g5, 1, none⟩ = some (.pointer (some ⟨sg, 0, none⟩)) ∧ W.cell? ⟨g10, 2, none⟩ = some (.int .i64 (kk : Int))) 10 (by kernel_rfl) ?_
                        generalize w266.drew = wd270 at hD269 ⊢
                        have p1_271 := hD269.cell (g := g5) (t := 94) (fr := (0, 0)) (cs := [.pointer (some ⟨og, 0, none⟩), .pointer (some ⟨sg, 0, none⟩)]) (.tail _ (.tail _ (.tail _ (.tail _ (.tail _ (.tail _ (.head _))))))) 1 rfl
                        have k2_271 := hD269.cell (g := g10) (t := 66) (fr := (0, 0)) (cs := [.int .i64 x1, .int .i64 x2, .int .i64 (kk : Int), .slice xA xn xc]) (.tail _ (.tail _ (.tail _ (.tail _ (.tail _ (.head _)))))) 2 rfl
                        refine wpAnyU_take 0 (v := ?vv32_4_1) rfl (by kernel_rfl) (by kernel_rfl) (fun _ _ _ h => h) ⟨p1_271, k2_271⟩ (Or.inl ⟨rfl, ?yv32_4_1⟩) ?rv32_4_1
                        case yv32_4_1 =>
                          intro W hW
                          obtain ⟨hW0, hW1⟩ := hW
                          go_simp
                          try with_reducible rfl
                        try simp only [Act.put, List.getElem_toArray, List.getElem_cons_succ, List.getElem_cons_zero, List.setIfInBounds_toArray, List.set_cons_zero, List.set_cons_succ]
                        refine wpAnyU_take 1 (v := ?vv32_4_2) rfl (by kernel_rfl) (by kernel_rfl) (fun _ _ _ h => h) ⟨p1_271, k2_271⟩ (Or.inl ⟨rfl, ?yv32_4_2⟩) ?rv32_4_2
                        case yv32_4_2 =>
                          intro W hW
                          obtain ⟨hW0, hW1⟩ := hW
                          go_simp
                          try with_reducible rfl
                        try simp only [Act.put, List.getElem_toArray, List.getElem_cons_succ, List.getElem_cons_zero, List.setIfInBounds_toArray, List.set_cons_zero, List.set_cons_succ]
                        refine wpAnyU_take 2 (v := ?vv32_4_3) rfl (by kernel_rfl) (by kernel_rfl) (fun _ _ _ h => h) ⟨p1_271, k2_271⟩ (Or.inl ⟨rfl, ?yv32_4_3⟩) ?rv32_4_3
                        case yv32_4_3 =>
                          intro W hW
                          obtain ⟨hW0, hW1⟩ := hW
                          go_simp
                          try with_reducible rfl
                        try simp only [Act.put, List.getElem_toArray, List.getElem_cons_succ, List.getElem_cons_zero, List.setIfInBounds_toArray, List.set_cons_zero, List.set_cons_succ]
                        refine wpAnyU_take 3 (v := ?vv32_4_4) rfl (by kernel_rfl) (by kernel_rfl) (fun _ _ _ h => h) ⟨p1_271, k2_271⟩ (Or.inl ⟨rfl, ?yv32_4_4⟩) ?rv32_4_4
                        case yv32_4_4 =>
                          intro W hW
                          obtain ⟨hW0, hW1⟩ := hW
                          go_simp
                          try with_reducible rfl
                        try simp only [Act.put, List.getElem_toArray, List.getElem_cons_succ, List.getElem_cons_zero, List.setIfInBounds_toArray, List.set_cons_zero, List.set_cons_succ]
                        refine wpAnyU_take 4 (v := ?vv32_4_5) rfl (by kernel_rfl) (by kernel_rfl) (fun _ _ _ h => h) ⟨p1_271, k2_271⟩ (Or.inl ⟨rfl, ?yv32_4_5⟩) ?rv32_4_5
                        case yv32_4_5 =>
                          intro W hW
                          obtain ⟨hW0, hW1⟩ := hW
                          go_simp
                          try with_reducible rfl
                        try simp only [Act.put, List.getElem_toArray, List.getElem_cons_succ, List.getElem_cons_zero, List.setIfInBounds_toArray, List.set_cons_zero, List.set_cons_succ]
                        refine wpAnyU_one 5 (by kernel_rfl) rfl (fun K hK => ?_)
                        refine step_callw rfl 57 Tryz.f57 Tryz.func57 (by kernel_rfl) (by kernel_rfl) _ _ rfl #[.pointer (some ⟨sg, 0, none⟩), .int .i64 (kk : Int)] (by simp [Act.eval]) ?_
                        refine (popL_ok w0 wd270 _ sg sA sn sc_ sxs 134 hD269 (by omega) kk hkk _ rfl).mono ?_
                        rintro e u272 ⟨IA, ic, rfl, hmP⟩
                        rw [hqq.out] at hmP
                        have hm274 : Mem w0 u272 (SB sg sA qq qq :: NL sA qq qq (sxs.take qq) :: NL IA kk ic (sxs.drop qq) :: NL JA kk jc (sxs.drop qq) :: NL NA qq nc (sxs.take qq) :: NL sR sn sr sxs :: Blk g10 (.cells [.int .i64 x1, .int .i64 x2, .int .i64 (kk : Int), .slice xA xn xc].toArray 66) :: P2 g5 og sg :: Blk g6 (.cells [.slice oR on_ orr, .slice sR sn sr].toArray 95) :: SB og oA on_ oc_ :: NL oA on_ oc_ oxs :: NL oR on_ orr oxs :: Own 1 (.slice OA m oc) (lws outs) :: Own 1 (.slice WA m wc) (lws wants) :: (outs.map lsL ++ wants.map lsL)) := hmP
                        have p1_273 := hm274.cell (g := g5) (t := 94) (fr := (0, 0)) (cs := [.pointer (some ⟨og, 0, none⟩), .pointer (some ⟨sg, 0, none⟩)]) (.tail _ (.tail _ (.tail _ (.tail _ (.tail _ (.tail _ (.tail _ (.head _)))))))) 1 rfl
                        have k2_273 := hm274.cell (g := g10) (t := 66) (fr := (0, 0)) (cs := [.int .i64 x1, .int .i64 x2, .int .i64 (kk : Int), .slice xA xn xc]) (.tail _ (.tail _ (.tail _ (.tail _ (.tail _ (.tail _ (.head _))))))) 2 rfl
                        refine ⟨_, rfl, hK _ _ (fun _ => ⟨p1_273, k2_273⟩) ?_⟩
                        clear hK K
                        try simp only [Act.put, List.getElem_toArray, List.getElem_cons_succ, List.getElem_cons_zero, List.setIfInBounds_toArray, List.set_cons_zero, List.set_cons_succ]
                        refine wpAnyU_take 6 (v := ?vv32_4_6) rfl (by kernel_rfl) (by kernel_rfl) (fun _ _ _ h => h) ⟨p1_273, k2_273⟩ (Or.inl ⟨rfl, ?yv32_4_6⟩) ?rv32_4_6
                        case yv32_4_6 =>
                          intro W hW
                          obtain ⟨hW0, hW1⟩ := hW
                          go_simp
                          try with_reducible rfl
                        try simp only [Act.put, List.getElem_toArray, List.getElem_cons_succ, List.getElem_cons_zero, List.setIfInBounds_toArray, List.set_cons_zero, List.set_cons_succ]
                        refine wpAnyU_take 7 (v := ?vv32_4_7) rfl (by kernel_rfl) (by kernel_rfl) (fun _ _ _ h => h) ⟨p1_273, k2_273⟩ (Or.inl ⟨rfl, ?yv32_4_7⟩) ?rv32_4_7
                        case yv32_4_7 =>
                          intro W hW
                          obtain ⟨hW0, hW1⟩ := hW
                          go_simp
                          try with_reducible rfl
                        try simp only [Act.put, List.getElem_toArray, List.getElem_cons_succ, List.getElem_cons_zero, List.setIfInBounds_toArray, List.set_cons_zero, List.set_cons_succ]
                        refine wpAnyU_take 8 (v := ?vv32_4_8) rfl (by kernel_rfl) (by kernel_rfl) (fun _ _ _ h => h) ⟨p1_273, k2_273⟩ (Or.inl ⟨rfl, ?yv32_4_8⟩) ?rv32_4_8
                        case yv32_4_8 =>
                          intro W hW
                          obtain ⟨hW0, hW1⟩ := hW
                          go_simp
                          try with_reducible rfl
                        try simp only [Act.put, List.getElem_toArray, List.getElem_cons_succ, List.getElem_cons_zero, List.setIfInBounds_toArray, List.set_cons_zero, List.set_cons_succ]
                        refine wpAnyU_take 9 (v := ?vv32_4_9) rfl (by kernel_rfl) (by kernel_rfl) (fun _ _ _ h => h) ⟨p1_273, k2_273⟩ (Or.inl ⟨rfl, ?yv32_4_9⟩) ?rv32_4_9
                        case yv32_4_9 =>
                          intro W hW
                          obtain ⟨hW0, hW1⟩ := hW
                          go_simp
                          try with_reducible rfl
                        try simp only [Act.put, List.getElem_toArray, List.getElem_cons_succ, List.getElem_cons_zero, List.setIfInBounds_toArray, List.set_cons_zero, List.set_cons_succ]
                        refine wpAnyU_one 10 (by kernel_rfl) rfl (fun K hK => ?_)
                        go_simp
                        refine hK _ _ (fun h => absurd h (by decide)) ?_
                        clear hK K
                        refine wpAnyU_done (by kernel_rfl) ?_ _
                        go_wp2
                        try simp only [Act.put, List.getElem_toArray, List.getElem_cons_succ, List.getElem_cons_zero, List.setIfInBounds_toArray, List.set_cons_succ, List.set_cons_zero]
                        go_meet
                        case rel => exact ⟨_, _, rfl, rfl, hm274⟩
                      case rest =>
                        obtain ⟨w275, rfl⟩ : ∃ w9 : World, w9 = wc := ⟨_, rfl⟩
                        obtain ⟨IA, ic, rfl, rfl, hm276⟩ := hcut
                        have hm277 : Mem w0 w275 (SB sg sA qq qq :: NL sA qq qq (sxs.take qq) :: NL IA kk ic (sxs.drop qq) :: NL JA kk jc (sxs.drop qq) :: NL NA qq nc (sxs.take qq) :: Blk g10 (.cells [.int .i64 x1, .int .i64 x2, .int .i64 (kk : Int), .slice xA xn xc].toArray 66) :: P2 g5 og sg :: Blk g6 (.cells [.slice oR on_ orr, .slice sR sn sr].toArray 95) :: SB og oA on_ oc_ :: NL oA on_ oc_ oxs :: NL oR on_ orr oxs :: Own 1 (.slice OA m oc) (lws outs) :: Own 1 (.slice WA m wc) (lws wants) :: (outs.map lsL ++ wants.map lsL)) := hm276.sel 14 [0, 1, 2, 3, 4, 6, 7, 8, 9, 10, 11, 12, 13] (by decide)
                        go_upto_region 34 with (at_builtin; refine wp_app rfl _ _ _ rfl 34 iS _ 1 24 ty_LLs si sz0 sz1 sz2 rfl OA m oc _ rfl ((hm277.alloc _).sel 14 [12, 0, 1, 2, 3, 4, 5, 6, 7, 8, 9, 10, 11, 13] (by decide)) _ 1 1 [.slice IA kk ic] rfl (RdC.lit _ _ _ _ _ rfl (by simp [maxLen]) (lws_one [⟨IA, kk, ic, []⟩])) (by unfold maxLen; omega) (by omega) ?_; intro A278 c279 w280 hm281)
                        have hm282 : Mem w0 w280 (Own 1 (.slice A278 (m + 1) c279) (lws (outs ++ [⟨IA, kk, ic, (sxs.drop qq)⟩])) :: SB sg sA qq qq :: NL sA qq qq (sxs.take qq) :: NL IA kk ic (sxs.drop qq) :: NL JA kk jc (sxs.drop qq) :: NL NA qq nc (sxs.take qq) :: Blk g10 (.cells [.int .i64 x1, .int .i64 x2, .int .i64 (kk : Int), .slice xA xn xc].toArray 66) :: P2 g5 og sg :: Blk g6 (.cells [.slice oR on_ orr, .slice sR sn sr].toArray 95) :: SB og oA on_ oc_ :: NL oA on_ oc_ oxs :: NL oR on_ orr oxs :: Own 1 (.slice WA m wc) (lws wants) :: (outs.map lsL ++ wants.map lsL)) := by rw [lws_app]; exact hm281.sub (.cons_cons _ (.cons _ (List.Sublist.refl _)))
                        go_upto_region 35 with (at_builtin; refine wp_app rfl _ _ _ rfl 34 iS _ 1 24 ty_LLs si sz0 sz1 sz2 rfl WA m wc _ rfl ((hm282.alloc _).sel 14 [13, 0, 1, 2, 3, 4, 5, 6, 7, 8, 9, 10, 11, 12] (by decide)) _ 1 1 [.slice JA kk jc] rfl (RdC.lit _ _ _ _ _ rfl (by simp [maxLen]) (lws_one [⟨JA, kk, jc, []⟩])) (by unfold maxLen; omega) (by omega) ?_; intro A283 c284 w285 hm286)
                        have hm287 : Mem w0 w285 (Own 1 (.slice A283 (m + 1) c284) (lws (wants ++ [⟨JA, kk, jc, (sxs.drop qq)⟩])) :: Own 1 (.slice A278 (m + 1) c279) (lws (outs ++ [⟨IA, kk, ic, (sxs.drop qq)⟩])) :: SB sg sA qq qq :: NL sA qq qq (sxs.take qq) :: NL IA kk ic (sxs.drop qq) :: NL JA kk jc (sxs.drop qq) :: NL NA qq nc (sxs.take qq) :: Blk g10 (.cells [.int .i64 x1, .int .i64 x2, .int .i64 (kk : Int), .slice xA xn xc].toArray 66) :: P2 g5 og sg :: Blk g6 (.cells [.slice oR on_ orr, .slice sR sn sr].toArray 95) :: SB og oA on_ oc_ :: NL oA on_ oc_ oxs :: NL oR on_ orr oxs :: (outs.map lsL ++ wants.map lsL)) := by rw [lws_app]; exact hm286.sub (.cons_cons _ (.cons _ (List.Sublist.refl _)))
                        have q1 := hm287.cell (g := g6) (t := 95) (fr := (0, 0)) (cs := [.slice oR on_ orr, .slice sR sn sr]) (.tail _ (.tail _ (.tail _ (.tail _ (.tail _ (.tail _ (.tail _ (.tail _ (.tail _ (.head _)))))))))) 1 rfl
                        have f1 := hm287.free (g := g6) (t := 95) (cs := [.slice oR on_ orr, .slice sR sn sr]) (.tail _ (.tail _ (.tail _ (.tail _ (.tail _ (.tail _ (.tail _ (.tail _ (.tail _ (.head _)))))))))) 1
                        have hm288 : Mem w0 w285 (Blk g6 (.cells [.slice oR on_ orr, .slice sR sn sr].toArray 95) :: Own 1 (.slice A283 (m + 1) c284) (lws (wants ++ [⟨JA, kk, jc, (sxs.drop qq)⟩])) :: Own 1 (.slice A278 (m + 1) c279) (lws (outs ++ [⟨IA, kk, ic, (sxs.drop qq)⟩])) :: SB sg sA qq qq :: NL sA qq qq (sxs.take qq) :: NL IA kk ic (sxs.drop qq) :: NL JA kk jc (sxs.drop qq) :: NL NA qq nc (sxs.take qq) :: Blk g10 (.cells [.int .i64 x1, .int .i64 x2, .int .i64 (kk : Int), .slice xA xn xc].toArray 66) :: P2 g5 og sg :: SB og oA on_ oc_ :: NL oA on_ oc_ oxs :: NL oR on_ orr oxs :: (outs.map lsL ++ wants.map lsL)) := hm287.sel 13 [9, 0, 1, 2, 3, 4, 5, 6, 7, 8, 10, 11, 12] (by decide)
                        have hm289 := hm288.set 1 (.slice NA qq nc)
                        simp only [List.set_cons_zero, List.set_cons_succ] at hm289
                        go_upto_region 36 with (fail)
                        clear q1 f1
                        generalize w285.setCell _ _ = w290 at hm289 ⊢
                        go_wp2
                        have hm291 : Mem w0 w290 (P2 g5 og sg :: Blk g6 (.cells [.slice oR on_ orr, .slice NA qq nc].toArray 95) :: SB og oA on_ oc_ :: NL oA on_ oc_ oxs :: NL oR on_ orr oxs :: SB sg sA qq qq :: NL sA qq qq (sxs.take qq) :: NL NA qq nc (sxs.take qq) :: Own 1 (.slice A278 (m + 1) c279) (lws (outs ++ [⟨IA, kk, ic, (sxs.drop qq)⟩])) :: Own 1 (.slice A283 (m + 1) c284) (lws (wants ++ [⟨JA, kk, jc, (sxs.drop qq)⟩])) :: NL IA kk ic (sxs.drop qq) :: NL JA kk jc (sxs.drop qq) :: (outs.map lsL ++ wants.map lsL)) := hm289.sel 13 [9, 0, 10, 11, 12, 3, 4, 7, 2, 1, 5, 6] (by decide)
                        have hm292 : Mem w0 w290 (P2 g5 og sg :: Blk g6 (.cells [.slice oR on_ orr, .slice NA qq nc].toArray 95) :: SB og oA on_ oc_ :: NL oA on_ oc_ oxs :: NL oR on_ orr oxs :: SB sg sA qq qq :: NL sA qq qq (sxs.take qq) :: NL NA qq nc (sxs.take qq) :: Own 1 (.slice A278 (m + 1) c279) (lws (outs ++ [⟨IA, kk, ic, (sxs.drop qq)⟩])) :: Own 1 (.slice A283 (m + 1) c284) (lws (wants ++ [⟨JA, kk, jc, (sxs.drop qq)⟩])) :: ((outs ++ ([⟨IA, kk, ic, (sxs.drop qq)⟩] : List LL)).map lsL ++ (wants ++ ([⟨JA, kk, jc, (sxs.drop qq)⟩] : List LL)).map lsL)) := by rw [List.map_append, List.map_append]; exact hm291.perm (perm_tail [_, _, _, _, _, _, _, _, _, _] _ _ _ _)
                        have hfa9 : Fact (_ ∧ _ ∧ _ ∧ OutsOk (m + 1) (outs ++ ([⟨IA, kk, ic, (sxs.drop qq)⟩] : List LL)) (wants ++ ([⟨JA, kk, jc, (sxs.drop qq)⟩] : List LL))) := ⟨by have h := hfa0.out; exact ⟨Nat.le_trans (Nat.le_add_right _ _) h.1.1, Nat.le_trans hqq1 (Nat.le_trans (Nat.le_add_right _ _) h.1.2), Nat.succ_le_succ h.2.1, h.2.2.snoc _ _ rfl rfl (by simp only; omega)⟩⟩
                        go_roundw
                        case rel => exact ⟨i + 1, ⟨og, oA, on_, oc_, oR, orr, oxs⟩, ⟨sg, sA, qq, qq, NA, nc, (sxs.take qq)⟩, A278, m + 1, c279, _, A283, c284, _, by go_num, by omega, rfl, rfl, hm292, hfa9⟩
                        case measure => simp [intOf]; omega
              · skip
                as_aux_lemma =>
                  have p1 := hmN.cell (g := g5) (t := 94) (fr := (0, 0)) (cs := [.pointer (some ⟨og, 0, none⟩), .pointer (some ⟨sg, 0, none⟩)]) (.tail _ (.tail _ (.tail _ (.tail _ (.head _))))) 1 rfl
                  go_wp2_with fail
                  refine (itemsL_ok w0 w6 _ sg sA sn sc_ sxs 134 hmN (.head _) ⟨hmN.rd (.tail _ (.head _))⟩ (by omega)).mono ?_
                  rintro e w295 ⟨A293, c294, rfl, hm296⟩
                  clear p1
                  have hm297 : Mem w0 w295 (NL A293 sn c294 sxs :: SB sg sA sn sc_ :: NL sA sn sc_ sxs :: NL sR sn sr sxs :: Blk g10 (.cells [.int .i64 x1, .int .i64 x2, .int .i64 x3, .slice xA xn xc].toArray 66) :: P2 g5 og sg :: Blk g6 (.cells [.slice oR on_ orr, .slice sR sn sr].toArray 95) :: SB og oA on_ oc_ :: NL oA on_ oc_ oxs :: NL oR on_ orr oxs :: Own 1 (.slice OA m oc) (lws outs) :: Own 1 (.slice WA m wc) (lws wants) :: (outs.map lsL ++ wants.map lsL)) := hm296
                  go_upto_region 40 with (at_builtin; refine wp_app rfl _ _ _ rfl 34 iS _ 1 24 ty_LLs si sz0 sz1 sz2 rfl OA m oc _ rfl ((hm297.alloc _).sel 13 [11, 0, 1, 2, 3, 4, 5, 6, 7, 8, 9, 10, 12] (by decide)) _ 1 1 [.slice A293 sn c294] rfl (RdC.lit _ _ _ _ _ rfl (by simp [maxLen]) (lws_one [⟨A293, sn, c294, []⟩])) (by unfold maxLen; omega) (by omega) ?_; intro A298 c299 w300 hm301)
                  have hm302 : Mem w0 w300 (Own 1 (.slice A298 (m + 1) c299) (lws (outs ++ [⟨A293, sn, c294, sxs⟩])) :: NL A293 sn c294 sxs :: SB sg sA sn sc_ :: NL sA sn sc_ sxs :: NL sR sn sr sxs :: Blk g10 (.cells [.int .i64 x1, .int .i64 x2, .int .i64 x3, .slice xA xn xc].toArray 66) :: P2 g5 og sg :: Blk g6 (.cells [.slice oR on_ orr, .slice sR sn sr].toArray 95) :: SB og oA on_ oc_ :: NL oA on_ oc_ oxs :: NL oR on_ orr oxs :: Own 1 (.slice WA m wc) (lws wants) :: (outs.map lsL ++ wants.map lsL)) := by rw [lws_app]; exact hm301.sub (.cons_cons _ (.cons _ (List.Sublist.refl _)))
                  have q1 := hm302.cell (g := g6) (t := 95) (fr := (0, 0)) (cs := [.slice oR on_ orr, .slice sR sn sr]) (.tail _ (.tail _ (.tail _ (.tail _ (.tail _ (.tail _ (.tail _ (.head _)))))))) 1 rfl
                  go_wp2_with fail
                  refine (copyLongsS_ok w300 sR sn sr sxs ⟨hm302.rd (.tail _ (.tail _ (.tail _ (.tail _ (.head _)))))⟩ (by omega)).mono ?_
                  rintro e w305 ⟨A303, c304, rfl, hn306⟩
                  have hm307 := hm302.new hn306
                  clear q1
                  go_wp2_with (at_builtin; refine wp_app rfl _ _ _ rfl 34 iS _ 1 24 ty_LLs si sz0 sz1 sz2 rfl WA m wc _ rfl ((hm307.alloc _).sel 14 [13, 0, 1, 2, 3, 4, 5, 6, 7, 8, 9, 10, 11, 12] (by decide)) _ 1 1 [.slice A303 sn c304] rfl (RdC.lit _ _ _ _ _ rfl (by simp [maxLen]) (lws_one [⟨A303, sn, c304, []⟩])) (by unfold maxLen; omega) (by omega) ?_; intro A308 c309 w310 hm311)
                  have hm312 : Mem w0 w310 (Own 1 (.slice A308 (m + 1) c309) (lws (wants ++ [⟨A303, sn, c304, sxs⟩])) :: NL A303 sn c304 sxs :: Own 1 (.slice A298 (m + 1) c299) (lws (outs ++ [⟨A293, sn, c294, sxs⟩])) :: NL A293 sn c294 sxs :: SB sg sA sn sc_ :: NL sA sn sc_ sxs :: NL sR sn sr sxs :: Blk g10 (.cells [.int .i64 x1, .int .i64 x2, .int .i64 x3, .slice xA xn xc].toArray 66) :: P2 g5 og sg :: Blk g6 (.cells [.slice oR on_ orr, .slice sR sn sr].toArray 95) :: SB og oA on_ oc_ :: NL oA on_ oc_ oxs :: NL oR on_ orr oxs :: (outs.map lsL ++ wants.map lsL)) := by rw [lws_app]; exact hm311.sub (.cons_cons _ (.cons _ (List.Sublist.refl _)))
                  have hm313 : Mem w0 w310 (P2 g5 og sg :: Blk g6 (.cells [.slice oR on_ orr, .slice sR sn sr].toArray 95) :: SB og oA on_ oc_ :: NL oA on_ oc_ oxs :: NL oR on_ orr oxs :: SB sg sA sn sc_ :: NL sA sn sc_ sxs :: NL sR sn sr sxs :: Own 1 (.slice A298 (m + 1) c299) (lws (outs ++ [⟨A293, sn, c294, sxs⟩])) :: Own 1 (.slice A308 (m + 1) c309) (lws (wants ++ [⟨A303, sn, c304, sxs⟩])) :: NL A293 sn c294 sxs :: NL A303 sn c304 sxs :: (outs.map lsL ++ wants.map lsL)) := hm312.sel 13 [8, 9, 10, 11, 12, 4, 5, 6, 2, 0, 3, 1] (by decide)
                  have hm314 : Mem w0 w310 (P2 g5 og sg :: Blk g6 (.cells [.slice oR on_ orr, .slice sR sn sr].toArray 95) :: SB og oA on_ oc_ :: NL oA on_ oc_ oxs :: NL oR on_ orr oxs :: SB sg sA sn sc_ :: NL sA sn sc_ sxs :: NL sR sn sr sxs :: Own 1 (.slice A298 (m + 1) c299) (lws (outs ++ [⟨A293, sn, c294, sxs⟩])) :: Own 1 (.slice A308 (m + 1) c309) (lws (wants ++ [⟨A303, sn, c304, sxs⟩])) :: ((outs ++ ([⟨A293, sn, c294, sxs⟩] : List LL)).map lsL ++ (wants ++ ([⟨A303, sn, c304, sxs⟩] : List LL)).map lsL)) := by rw [List.map_append, List.map_append]; exact hm313.perm (perm_tail [_, _, _, _, _, _, _, _, _, _] _ _ _ _)
                  have hfa9 : Fact (_ ∧ _ ∧ _ ∧ OutsOk (m + 1) (outs ++ ([⟨A293, sn, c294, sxs⟩] : List LL)) (wants ++ ([⟨A303, sn, c304, sxs⟩] : List LL))) := ⟨by have h := hfa0.out; exact ⟨Nat.le_trans (Nat.le_add_right _ _) h.1.1, Nat.le_trans (Nat.le_add_right _ _) h.1.2, Nat.succ_le_succ h.2.1, h.2.2.snoc _ _ rfl rfl (by simp only; omega)⟩⟩
                  go_roundw
                  case rel => exact ⟨i + 1, ⟨og, oA, on_, oc_, oR, orr, oxs⟩, ⟨sg, sA, sn, sc_, sR, sr, sxs⟩, A298, m + 1, c299, _, A308, c309, _, by go_num, by omega, rfl, rfl, hm314, hfa9⟩
                  case measure => simp [intOf]; omega
              · skip
                as_aux_lemma =>
                  rcases hk4 with rfl | rfl | rfl
                  · skip
                    have p1 := hmN.cell (g := g5) (t := 94) (fr := (0, 0)) (cs := [.pointer (some ⟨og, 0, none⟩), .pointer (some ⟨sg, 0, none⟩)]) (.tail _ (.tail _ (.tail _ (.tail _ (.head _))))) 1 rfl
                    have q1 := hmN.cell (g := g6) (t := 95) (fr := (0, 0)) (cs := [.slice oR on_ orr, .slice sR sn sr]) (.tail _ (.tail _ (.tail _ (.tail _ (.tail _ (.head _)))))) 1 rfl
                    have k2 := hmN.cell (g := g10) (t := 66) (fr := (0, 0)) (cs := [.int .i64 x1, .int .i64 x2, .int .i64 x3, .slice xA xn xc]) (.tail _ (.tail _ (.tail _ (.head _)))) 2 rfl
                    have k3 := hmN.cell (g := g10) (t := 66) (fr := (0, 0)) (cs := [.int .i64 x1, .int .i64 x2, .int .i64 x3, .slice xA xn xc]) (.tail _ (.tail _ (.tail _ (.head _)))) 3 rfl
                    have k0 := hmN.cell (g := g10) (t := 66) (fr := (0, 0)) (cs := [.int .i64 x1, .int .i64 x2, .int .i64 x3, .slice xA xn xc]) (.tail _ (.tail _ (.tail _ (.head _)))) 0 rfl
                    have k1 := hmN.cell (g := g10) (t := 66) (fr := (0, 0)) (cs := [.int .i64 x1, .int .i64 x2, .int .i64 x3, .slice xA xn xc]) (.tail _ (.tail _ (.tail _ (.head _)))) 1 rfl
                    go_upto_region 41 with (fail)
                    clear p1 q1 k0 k1 k2 k3
                    go_cut [19, 20] (fun s19 s20 W => ∃ (tA : Option Addr) (tn tc : Nat) (tR : Option Addr) (tr : Nat) (txs : List Int), s19 = .slice tR tn tr ∧ s20 = .bool true ∧ tn ≤ sn ∧ Mem w0 W (SB sg tA tn tc :: NL tA tn tc txs :: NL tR tn tr txs :: Blk g10 (.cells [.int .i64 x1, .int .i64 x2, .int .i64 x3, .slice xA xn xc].toArray 66) :: P2 g5 og sg :: Blk g6 (.cells [.slice oR on_ orr, .slice sR sn sr].toArray 95) :: SB og oA on_ oc_ :: NL oA on_ oc_ oxs :: NL oR on_ orr oxs :: Own 1 (.slice OA m oc) (lws outs) :: Own 1 (.slice WA m wc) (lws wants) :: (outs.map lsL ++ wants.map lsL)))
                    case first =>
                      have hD315 : Mem w0 w6.drew (SB sg sA sn sc_ :: NL sA sn sc_ sxs :: NL sR sn sr sxs :: Blk g10 (.cells [.int .i64 x1, .int .i64 x2, .int .i64 x3, .slice xA xn xc].toArray 66) :: P2 g5 og sg :: Blk g6 (.cells [.slice oR on_ orr, .slice sR sn sr].toArray 95) :: SB og oA on_ oc_ :: NL oA on_ oc_ oxs :: NL oR on_ orr oxs :: Own 1 (.slice OA m oc) (lws outs) :: Own 1 (.slice WA m wc) (lws wants) :: (outs.map lsL ++ wants.map lsL)) := hmN.drew
                      refine wp_region_until (S := fun W => W.cell? ⟨g5, 1, none⟩ = some (.pointer (some ⟨sg, 0, none⟩)) ∧ W.cell? ⟨g6, 1, none⟩ = some (.slice sR sn sr) ∧ W.cell? ⟨g10, 0, none⟩ = some (.int .i64 x1) ∧ W.cell? ⟨g10, 1, none⟩ = some (.int .i64 x2) ∧ W.cell? ⟨g10, 2, none⟩ = some (.int .i64 x3) ∧ W.cell? ⟨g10, 3, none⟩ = some (.slice xA xn xc)) 13 (by kernel_rfl) ?_
                      generalize w6.drew = wd316 at hD315 ⊢
                      have p1_317 := hD315.cell (g := g5) (t := 94) (fr := (0, 0)) (cs := [.pointer (some ⟨og, 0, none⟩), .pointer (some ⟨sg, 0, none⟩)]) (.tail _ (.tail _ (.tail _ (.tail _ (.head _))))) 1 rfl
                      have q1_317 := hD315.cell (g := g6) (t := 95) (fr := (0, 0)) (cs := [.slice oR on_ orr, .slice sR sn sr]) (.tail _ (.tail _ (.tail _ (.tail _ (.tail _ (.head _)))))) 1 rfl
                      have k0_317 := hD315.cell (g := g10) (t := 66) (fr := (0, 0)) (cs := [.int .i64 x1, .int .i64 x2, .int .i64 x3, .slice xA xn xc]) (.tail _ (.tail _ (.tail _ (.head _)))) 0 rfl
                      have k1_317 := hD315.cell (g := g10) (t := 66) (fr := (0, 0)) (cs := [.int .i64 x1, .int .i64 x2, .int .i64 x3, .slice xA xn xc]) (.tail _ (.tail _ (.tail _ (.head _)))) 1 rfl
                      have k2_317 := hD315.cell (g := g10) (t := 66) (fr := (0, 0)) (cs := [.int .i64 x1, .int .i64 x2, .int .i64 x3, .slice xA xn xc]) (.tail _ (.tail _ (.tail _ (.head _)))) 2 rfl
                      have k3_317 := hD315.cell (g := g10) (t := 66) (fr := (0, 0)) (cs := [.int .i64 x1, .int .i64 x2, .int .i64 x3, .slice xA xn xc]) (.tail _ (.tail _ (.tail _ (.head _)))) 3 rfl
                      refine wpAnyU_take 0 (v := ?vv41_4_1) rfl (by kernel_rfl) (by kernel_rfl) (fun _ _ _ h => h) ⟨p1_317, q1_317, k0_317, k1_317, k2_317, k3_317⟩ (Or.inl ⟨rfl, ?yv41_4_1⟩) ?rv41_4_1
                      case yv41_4_1 =>
                        intro W hW
                        obtain ⟨hW0, hW1, hW2, hW3, hW4, hW5⟩ := hW
                        go_simp
                        try with_reducible rfl
                      try simp only [Act.put, List.getElem_toArray, List.getElem_cons_succ, List.getElem_cons_zero, List.setIfInBounds_toArray, List.set_cons_zero, List.set_cons_succ]
                      refine wpAnyU_take 1 (v := ?vv41_4_2) rfl (by kernel_rfl) (by kernel_rfl) (fun _ _ _ h => h) ⟨p1_317, q1_317, k0_317, k1_317, k2_317, k3_317⟩ (Or.inl ⟨rfl, ?yv41_4_2⟩) ?rv41_4_2
                      case yv41_4_2 =>
                        intro W hW
                        obtain ⟨hW0, hW1, hW2, hW3, hW4, hW5⟩ := hW
                        go_simp
                        try with_reducible rfl
                      try simp only [Act.put, List.getElem_toArray, List.getElem_cons_succ, List.getElem_cons_zero, List.setIfInBounds_toArray, List.set_cons_zero, List.set_cons_succ]
                      refine wpAnyU_take 2 (v := ?vv41_4_3) rfl (by kernel_rfl) (by kernel_rfl) (fun _ _ _ h => h) ⟨p1_317, q1_317, k0_317, k1_317, k2_317, k3_317⟩ (Or.inl ⟨rfl, ?yv41_4_3⟩) ?rv41_4_3
                      case yv41_4_3 =>
                        intro W hW
                        obtain ⟨hW0, hW1, hW2, hW3, hW4, hW5⟩ := hW
                        go_simp
                        try with_reducible rfl
                      try simp only [Act.put, List.getElem_toArray, List.getElem_cons_succ, List.getElem_cons_zero, List.setIfInBounds_toArray, List.set_cons_zero, List.set_cons_succ]
                      refine wpAnyU_take 3 (v := ?vv41_4_4) rfl (by kernel_rfl) (by kernel_rfl) (fun _ _ _ h => h) ⟨p1_317, q1_317, k0_317, k1_317, k2_317, k3_317⟩ (Or.inl ⟨rfl, ?yv41_4_4⟩) ?rv41_4_4
                      case yv41_4_4 =>
                        intro W hW
                        obtain ⟨hW0, hW1, hW2, hW3, hW4, hW5⟩ := hW
                        go_simp
                        try with_reducible rfl
                      try simp only [Act.put, List.getElem_toArray, List.getElem_cons_succ, List.getElem_cons_zero, List.setIfInBounds_toArray, List.set_cons_zero, List.set_cons_succ]
                      refine wpAnyU_take 4 (v := ?vv41_4_5) rfl (by kernel_rfl) (by kernel_rfl) (fun _ _ _ h => h) ⟨p1_317, q1_317, k0_317, k1_317, k2_317, k3_317⟩ (Or.inl ⟨rfl, ?yv41_4_5⟩) ?rv41_4_5
                      case yv41_4_5 =>
                        intro W hW
                        obtain ⟨hW0, hW1, hW2, hW3, hW4, hW5⟩ := hW
                        go_simp
                        try with_reducible rfl
                      try simp only [Act.put, List.getElem_toArray, List.getElem_cons_succ, List.getElem_cons_zero, List.setIfInBounds_toArray, List.set_cons_zero, List.set_cons_succ]
                      refine wpAnyU_take 5 (v := ?vv41_4_6) rfl (by kernel_rfl) (by kernel_rfl) (fun _ _ _ h => h) ⟨p1_317, q1_317, k0_317, k1_317, k2_317, k3_317⟩ (Or.inl ⟨rfl, ?yv41_4_6⟩) ?rv41_4_6
                      case yv41_4_6 =>
                        intro W hW
                        obtain ⟨hW0, hW1, hW2, hW3, hW4, hW5⟩ := hW
                        go_simp
                        try with_reducible rfl
                      try simp only [Act.put, List.getElem_toArray, List.getElem_cons_succ, List.getElem_cons_zero, List.setIfInBounds_toArray, List.set_cons_zero, List.set_cons_succ]
                      refine wpAnyU_take 6 (v := ?vv41_4_7) rfl (by kernel_rfl) (by kernel_rfl) (fun _ _ _ h => h) ⟨p1_317, q1_317, k0_317, k1_317, k2_317, k3_317⟩ (Or.inl ⟨rfl, ?yv41_4_7⟩) ?rv41_4_7
                      case yv41_4_7 =>
                        intro W hW
                        obtain ⟨hW0, hW1, hW2, hW3, hW4, hW5⟩ := hW
                        go_simp
                        try with_reducible rfl
                      try simp only [Act.put, List.getElem_toArray, List.getElem_cons_succ, List.getElem_cons_zero, List.setIfInBounds_toArray, List.set_cons_zero, List.set_cons_succ]
                      refine wpAnyU_take 7 (v := ?vv41_4_8) rfl (by kernel_rfl) (by kernel_rfl) (fun _ _ _ h => h) ⟨p1_317, q1_317, k0_317, k1_317, k2_317, k3_317⟩ (Or.inl ⟨rfl, ?yv41_4_8⟩) ?rv41_4_8
                      case yv41_4_8 =>
                        intro W hW
                        obtain ⟨hW0, hW1, hW2, hW3, hW4, hW5⟩ := hW
                        go_simp
                        try with_reducible rfl
                      try simp only [Act.put, List.getElem_toArray, List.getElem_cons_succ, List.getElem_cons_zero, List.setIfInBounds_toArray, List.set_cons_zero, List.set_cons_succ]
                      refine wpAnyU_one 8 (by kernel_rfl) rfl (fun K hK => ?_)
                      refine step_callw rfl 59 Tryz.f59 Tryz.func59 (by kernel_rfl) (by kernel_rfl) _ _ rfl #[.pointer (some ⟨sg, 0, none⟩), .slice sR sn sr, .agg #[.int .i64 x1, .int .i64 x2, .int .i64 x3, .slice xA xn xc], .int .i64 2] (by simp [Act.eval]) ?_
                      refine (stepL_ok w0 wd316 _ sg sA sR sn sc_ sr sxs 134 hD315 (by omega) x1 x2 x3 xA xn xc hx3 2).mono ?_
                      rintro e u318 ⟨tA, tn, tc, tR, tr, txs, rfl, htn, hmS⟩
                      have hm320 : Mem w0 u318 (SB sg tA tn tc :: NL tA tn tc txs :: NL tR tn tr txs :: Blk g10 (.cells [.int .i64 x1, .int .i64 x2, .int .i64 x3, .slice xA xn xc].toArray 66) :: P2 g5 og sg :: Blk g6 (.cells [.slice oR on_ orr, .slice sR sn sr].toArray 95) :: SB og oA on_ oc_ :: NL oA on_ oc_ oxs :: NL oR on_ orr oxs :: Own 1 (.slice OA m oc) (lws outs) :: Own 1 (.slice WA m wc) (lws wants) :: (outs.map lsL ++ wants.map lsL)) := hmS
                      have p1_319 := hm320.cell (g := g5) (t := 94) (fr := (0, 0)) (cs := [.pointer (some ⟨og, 0, none⟩), .pointer (some ⟨sg, 0, none⟩)]) (.tail _ (.tail _ (.tail _ (.tail _ (.head _))))) 1 rfl
                      have q1_319 := hm320.cell (g := g6) (t := 95) (fr := (0, 0)) (cs := [.slice oR on_ orr, .slice sR sn sr]) (.tail _ (.tail _ (.tail _ (.tail _ (.tail _ (.head _)))))) 1 rfl
                      have k0_319 := hm320.cell (g := g10) (t := 66) (fr := (0, 0)) (cs := [.int .i64 x1, .int .i64 x2, .int .i64 x3, .slice xA xn xc]) (.tail _ (.tail _ (.tail _ (.head _)))) 0 rfl
                      have k1_319 := hm320.cell (g := g10) (t := 66) (fr := (0, 0)) (cs := [.int .i64 x1, .int .i64 x2, .int .i64 x3, .slice xA xn xc]) (.tail _ (.tail _ (.tail _ (.head _)))) 1 rfl
                      have k2_319 := hm320.cell (g := g10) (t := 66) (fr := (0, 0)) (cs := [.int .i64 x1, .int .i64 x2, .int .i64 x3, .slice xA xn xc]) (.tail _ (.tail _ (.tail _ (.head _)))) 2 rfl
                      have k3_319 := hm320.cell (g := g10) (t := 66) (fr := (0, 0)) (cs := [.int .i64 x1, .int .i64 x2, .int .i64 x3, .slice xA xn xc]) (.tail _ (.tail _ (.tail _ (.head _)))) 3 rfl
                      refine ⟨_, rfl, hK _ _ (fun _ => ⟨p1_319, q1_319, k0_319, k1_319, k2_319, k3_319⟩) ?_⟩
                      clear hK K
                      try simp only [Act.put, List.getElem_toArray, List.getElem_cons_succ, List.getElem_cons_zero, List.setIfInBounds_toArray, List.set_cons_zero, List.set_cons_succ]
                      refine wpAnyU_take 9 (v := ?vv41_4_9) rfl (by kernel_rfl) (by kernel_rfl) (fun _ _ _ h => h) ⟨p1_319, q1_319, k0_319, k1_319, k2_319, k3_319⟩ (Or.inl ⟨rfl, ?yv41_4_9⟩) ?rv41_4_9
                      case yv41_4_9 =>
                        intro W hW
                        obtain ⟨hW0, hW1, hW2, hW3, hW4, hW5⟩ := hW
                        go_simp
                        try with_reducible rfl
                      try simp only [Act.put, List.getElem_toArray, List.getElem_cons_succ, List.getElem_cons_zero, List.setIfInBounds_toArray, List.set_cons_zero, List.set_cons_succ]
                      refine wpAnyU_take 10 (v := ?vv41_4_10) rfl (by kernel_rfl) (by kernel_rfl) (fun _ _ _ h => h) ⟨p1_319, q1_319, k0_319, k1_319, k2_319, k3_319⟩ (Or.inl ⟨rfl, ?yv41_4_10⟩) ?rv41_4_10
                      case yv41_4_10 =>
                        intro W hW
                        obtain ⟨hW0, hW1, hW2, hW3, hW4, hW5⟩ := hW
                        go_simp
                        try with_reducible rfl
                      try simp only [Act.put, List.getElem_toArray, List.getElem_cons_succ, List.getElem_cons_zero, List.setIfInBounds_toArray, List.set_cons_zero, List.set_cons_succ]
                      refine wpAnyU_take 11 (v := ?vv41_4_11) rfl (by kernel_rfl) (by kernel_rfl) (fun _ _ _ h => h) ⟨p1_319, q1_319, k0_319, k1_319, k2_319, k3_319⟩ (Or.inl ⟨rfl, ?yv41_4_11⟩) ?rv41_4_11
                      case yv41_4_11 =>
                        intro W hW
                        obtain ⟨hW0, hW1, hW2, hW3, hW4, hW5⟩ := hW
                        go_simp
                        try with_reducible rfl
                      try simp only [Act.put, List.getElem_toArray, List.getElem_cons_succ, List.getElem_cons_zero, List.setIfInBounds_toArray, List.set_cons_zero, List.set_cons_succ]
                      refine wpAnyU_take 12 (v := ?vv41_4_12) rfl (by kernel_rfl) (by kernel_rfl) (fun _ _ _ h => h) ⟨p1_319, q1_319, k0_319, k1_319, k2_319, k3_319⟩ (Or.inl ⟨rfl, ?yv41_4_12⟩) ?rv41_4_12
                      case yv41_4_12 =>
                        intro W hW
                        obtain ⟨hW0, hW1, hW2, hW3, hW4, hW5⟩ := hW
                        go_simp
                        try with_reducible rfl
                      try simp only [Act.put, List.getElem_toArray, List.getElem_cons_succ, List.getElem_cons_zero, List.setIfInBounds_toArray, List.set_cons_zero, List.set_cons_succ]
                      refine wpAnyU_one 13 (by kernel_rfl) rfl (fun K hK => ?_)
                      go_simp
                      refine hK _ _ (fun h => absurd h (by decide)) ?_
                      clear hK K
                      refine wpAnyU_done (by kernel_rfl) ?_ _
                      go_wp2
                      try simp only [Act.put, List.getElem_toArray, List.getElem_cons_succ, List.getElem_cons_zero, List.setIfInBounds_toArray, List.set_cons_succ, List.set_cons_zero]
                      go_meet
                      case rel => exact ⟨_, _, _, _, _, _, rfl, rfl, htn, hm320⟩
                    case rest =>
                      obtain ⟨w321, rfl⟩ : ∃ w9 : World, w9 = wc := ⟨_, rfl⟩
                      obtain ⟨tA, tn, tc, tR, tr, txs, rfl, rfl, htn, hm322⟩ := hcut
                      have q1 := hm322.cell (g := g6) (t := 95) (fr := (0, 0)) (cs := [.slice oR on_ orr, .slice sR sn sr]) (.tail _ (.tail _ (.tail _ (.tail _ (.tail _ (.head _)))))) 1 rfl
                      have f1 := hm322.free (g := g6) (t := 95) (cs := [.slice oR on_ orr, .slice sR sn sr]) (.tail _ (.tail _ (.tail _ (.tail _ (.tail _ (.head _)))))) 1
                      have hm323 : Mem w0 w321 (Blk g6 (.cells [.slice oR on_ orr, .slice sR sn sr].toArray 95) :: SB sg tA tn tc :: NL tA tn tc txs :: NL tR tn tr txs :: Blk g10 (.cells [.int .i64 x1, .int .i64 x2, .int .i64 x3, .slice xA xn xc].toArray 66) :: P2 g5 og sg :: SB og oA on_ oc_ :: NL oA on_ oc_ oxs :: NL oR on_ orr oxs :: Own 1 (.slice OA m oc) (lws outs) :: Own 1 (.slice WA m wc) (lws wants) :: (outs.map lsL ++ wants.map lsL)) := hm322.sel 11 [5, 0, 1, 2, 3, 4, 6, 7, 8, 9, 10] (by decide)
                      have hm324 := hm323.set 1 (.slice tR tn tr)
                      simp only [List.set_cons_zero, List.set_cons_succ] at hm324
                      have hfa9 : Fact (_ ∧ _ ∧ _ ∧ _) := ⟨by have h := hfa0.out; exact ⟨Nat.le_trans (Nat.le_add_right _ _) h.1.1, Nat.le_trans htn (Nat.le_trans (Nat.le_add_right _ _) h.1.2), Nat.le_succ_of_le h.2.1, h.2.2⟩⟩
                      go_wp2
                      generalize w321.setCell _ _ = w325 at hm324 ⊢
                      have hm326 : Mem w0 w325 (P2 g5 og sg :: Blk g6 (.cells [.slice oR on_ orr, .slice tR tn tr].toArray 95) :: SB og oA on_ oc_ :: NL oA on_ oc_ oxs :: NL oR on_ orr oxs :: SB sg tA tn tc :: NL tA tn tc txs :: NL tR tn tr txs :: Own 1 (.slice OA m oc) (lws outs) :: Own 1 (.slice WA m wc) (lws wants) :: (outs.map lsL ++ wants.map lsL)) := hm324.sel 11 [5, 0, 6, 7, 8, 1, 2, 3, 9, 10] (by decide)
                      have hgo := hm326
                      go_roundw
                      case rel => exact ⟨i + 1, ⟨og, oA, on_, oc_, oR, orr, oxs⟩, ⟨sg, tA, tn, tc, tR, tr, txs⟩, OA, m, oc, outs, WA, wc, wants, by go_num, by omega, rfl, rfl, hgo, hfa9⟩
                      case measure => simp [intOf]; omega
                  · skip
                    have p1 := hmN.cell (g := g5) (t := 94) (fr := (0, 0)) (cs := [.pointer (some ⟨og, 0, none⟩), .pointer (some ⟨sg, 0, none⟩)]) (.tail _ (.tail _ (.tail _ (.tail _ (.head _))))) 1 rfl
                    have q1 := hmN.cell (g := g6) (t := 95) (fr := (0, 0)) (cs := [.slice oR on_ orr, .slice sR sn sr]) (.tail _ (.tail _ (.tail _ (.tail _ (.tail _ (.head _)))))) 1 rfl
                    have k2 := hmN.cell (g := g10) (t := 66) (fr := (0, 0)) (cs := [.int .i64 x1, .int .i64 x2, .int .i64 x3, .slice xA xn xc]) (.tail _ (.tail _ (.tail _ (.head _)))) 2 rfl
                    have k3 := hmN.cell (g := g10) (t := 66) (fr := (0, 0)) (cs := [.int .i64 x1, .int .i64 x2, .int .i64 x3, .slice xA xn xc]) (.tail _ (.tail _ (.tail _ (.head _)))) 3 rfl
                    have k0 := hmN.cell (g := g10) (t := 66) (fr := (0, 0)) (cs := [.int .i64 x1, .int .i64 x2, .int .i64 x3, .slice xA xn xc]) (.tail _ (.tail _ (.tail _ (.head _)))) 0 rfl
                    have k1 := hmN.cell (g := g10) (t := 66) (fr := (0, 0)) (cs := [.int .i64 x1, .int .i64 x2, .int .i64 x3, .slice xA xn xc]) (.tail _ (.tail _ (.tail _ (.head _)))) 1 rfl
                    go_upto_region 41 with (fail)
                    clear p1 q1 k0 k1 k2 k3
                    go_cut [19, 20] (fun s19 s20 W => ∃ (tA : Option Addr) (tn tc : Nat) (tR : Option Addr) (tr : Nat) (txs : List Int), s19 = .slice tR tn tr ∧ s20 = .bool true ∧ tn ≤ sn ∧ Mem w0 W (SB sg tA tn tc :: NL tA tn tc txs :: NL tR tn tr txs :: Blk g10 (.cells [.int .i64 x1, .int .i64 x2, .int .i64 x3, .slice xA xn xc].toArray 66) :: P2 g5 og sg :: Blk g6 (.cells [.slice oR on_ orr, .slice sR sn sr].toArray 95) :: SB og oA on_ oc_ :: NL oA on_ oc_ oxs :: NL oR on_ orr oxs :: Own 1 (.slice OA m oc) (lws outs) :: Own 1 (.slice WA m wc) (lws wants) :: (outs.map lsL ++ wants.map lsL)))
                    case first =>
                      have hD327 : Mem w0 w6.drew (SB sg sA sn sc_ :: NL sA sn sc_ sxs :: NL sR sn sr sxs :: Blk g10 (.cells [.int .i64 x1, .int .i64 x2, .int .i64 x3, .slice xA xn xc].toArray 66) :: P2 g5 og sg :: Blk g6 (.cells [.slice oR on_ orr, .slice sR sn sr].toArray 95) :: SB og oA on_ oc_ :: NL oA on_ oc_ oxs :: NL oR on_ orr oxs :: Own 1 (.slice OA m oc) (lws outs) :: Own 1 (.slice WA m wc) (lws wants) :: (outs.map lsL ++ wants.map lsL)) := hmN.drew
                      refine wp_region_until (S := fun W => W.cell? ⟨g5, 1, none⟩ = some (.pointer (some ⟨sg, 0, none⟩)) ∧ W.cell? ⟨g6, 1, none⟩ = some (.slice sR sn sr) ∧ W.cell? ⟨g10, 0, none⟩ = some (.int .i64 x1) ∧ W.cell? ⟨g10, 1, none⟩ = some (.int .i64 x2) ∧ W.cell? ⟨g10, 2, none⟩ = some (.int .i64 x3) ∧ W.cell? ⟨g10, 3, none⟩ = some (.slice xA xn xc)) 13 (by kernel_rfl) ?_
                      generalize w6.drew = wd328 at hD327 ⊢
                      have p1_329 := hD327.cell (g := g5) (t := 94) (fr := (0, 0)) (cs := [.pointer (some ⟨og, 0, none⟩), .pointer (some ⟨sg, 0, none⟩)]) (.tail _ (.tail _ (.tail _ (.tail _ (.head _))))) 1 rfl
                      have q1_329 := hD327.cell (g := g6) (t := 95) (fr := (0, 0)) (cs := [.slice oR on_ orr, .slice sR sn sr]) (.tail _ (.tail _ (.tail _ (.tail _ (.tail _ (.head _)))))) 1 rfl
                      have k0_329 := hD327.cell (g := g10) (t := 66) (fr := (0, 0)) (cs := [.int .i64 x1, .int .i64 x2, .int .i64 x3, .slice xA xn xc]) (.tail _ (.tail _ (.tail _ (.head _)))) 0 rfl
                      have k1_329 := hD327.cell (g := g10) (t := 66) (fr := (0, 0)) (cs := [.int .i64 x1, .int .i64 x2, .int .i64 x3, .slice xA xn xc]) (.tail _ (.tail _ (.tail _ (.head _)))) 1 rfl
                      have k2_329 := hD327.cell (g := g10) (t := 66) (fr := (0, 0)) (cs := [.int .i64 x1, .int .i64 x2, .int .i64 x3, .slice xA xn xc]) (.tail _ (.tail _ (.tail _ (.head _)))) 2 rfl
                      have k3_329 := hD327.cell (g := g10) (t := 66) (fr := (0, 0)) (cs := [.int .i64 x1, .int .i64 x2, .int .i64 x3, .slice xA xn xc]) (.tail _ (.tail _ (.tail _ (.head _)))) 3 rfl
                      refine wpAnyU_take 0 (v := ?vv41_5_1) rfl (by kernel_rfl) (by kernel_rfl) (fun _ _ _ h => h) ⟨p1_329, q1_329, k0_329, k1_329, k2_329, k3_329⟩ (Or.inl ⟨rfl, ?yv41_5_1⟩) ?rv41_5_1
                      case yv41_5_1 =>
                        intro W hW
                        obtain ⟨hW0, hW1, hW2, hW3, hW4, hW5⟩ := hW
                        go_simp
                        try with_reducible rfl
                      try simp only [Act.put, List.getElem_toArray, List.getElem_cons_succ, List.getElem_cons_zero, List.setIfInBounds_toArray, List.set_cons_zero, List.set_cons_succ]
                      refine wpAnyU_take 1 (v := ?vv41_5_2) rfl (by kernel_rfl) (by kernel_rfl) (fun _ _ _ h => h) ⟨p1_329, q1_329, k0_329, k1_329, k2_329, k3_329⟩ (Or.inl ⟨rfl, ?yv41_5_2⟩) ?rv41_5_2
                      case yv41_5_2 =>
                        intro W hW
                        obtain ⟨hW0, hW1, hW2, hW3, hW4, hW5⟩ := hW
                        go_simp
                        try with_reducible rfl
                      try simp only [Act.put, List.getElem_toArray, List.getElem_cons_succ, List.getElem_cons_zero, List.setIfInBounds_toArray, List.set_cons_zero, List.set_cons_succ]
                      refine wpAnyU_take 2 (v := ?vv41_5_3) rfl (by kernel_rfl) (by kernel_rfl) (fun _ _ _ h => h) ⟨p1_329, q1_329, k0_329, k1_329, k2_329, k3_329⟩ (Or.inl ⟨rfl, ?yv41_5_3⟩) ?rv41_5_3
                      case yv41_5_3 =>
                        intro W hW
                        obtain ⟨hW0, hW1, hW2, hW3, hW4, hW5⟩ := hW
                        go_simp
                        try with_reducible rfl
                      try simp only [Act.put, List.getElem_toArray, List.getElem_cons_succ, List.getElem_cons_zero, List.setIfInBounds_toArray, List.set_cons_zero, List.set_cons_succ]
                      refine wpAnyU_take 3 (v := ?vv41_5_4) rfl (by kernel_rfl) (by kernel_rfl) (fun _ _ _ h => h) ⟨p1_329, q1_329, k0_329, k1_329, k2_329, k3_329⟩ (Or.inl ⟨rfl, ?yv41_5_4⟩) ?rv41_5_4
                      case yv41_5_4 =>
                        intro W hW
                        obtain ⟨hW0, hW1, hW2, hW3, hW4, hW5⟩ := hW
                        go_simp
                        try with_reducible rfl
                      try simp only [Act.put, List.getElem_toArray, List.getElem_cons_succ, List.getElem_cons_zero, List.setIfInBounds_toArray, List.set_cons_zero, List.set_cons_succ]
                      refine wpAnyU_take 4 (v := ?vv41_5_5) rfl (by kernel_rfl) (by kernel_rfl) (fun _ _ _ h => h) ⟨p1_329, q1_329, k0_329, k1_329, k2_329, k3_329⟩ (Or.inl ⟨rfl, ?yv41_5_5⟩) ?rv41_5_5
                      case yv41_5_5 =>
                        intro W hW
                        obtain ⟨hW0, hW1, hW2, hW3, hW4, hW5⟩ := hW
                        go_simp
                        try with_reducible rfl
                      try simp only [Act.put, List.getElem_toArray, List.getElem_cons_succ, List.getElem_cons_zero, List.setIfInBounds_toArray, List.set_cons_zero, List.set_cons_succ]
                      refine wpAnyU_take 5 (v := ?vv41_5_6) rfl (by kernel_rfl) (by kernel_rfl) (fun _ _ _ h => h) ⟨p1_329, q1_329, k0_329, k1_329, k2_329, k3_329⟩ (Or.inl ⟨rfl, ?yv41_5_6⟩) ?rv41_5_6
                      case yv41_5_6 =>
                        intro W hW
                        obtain ⟨hW0, hW1, hW2, hW3, hW4, hW5⟩ := hW
                        go_simp
                        try with_reducible rfl
                      try simp only [Act.put, List.getElem_toArray, List.getElem_cons_succ, List.getElem_cons_zero, List.setIfInBounds_toArray, List.set_cons_zero, List.set_cons_succ]
                      refine wpAnyU_take 6 (v := ?vv41_5_7) rfl (by kernel_rfl) (by kernel_rfl) (fun _ _ _ h => h) ⟨p1_329, q1_329, k0_329, k1_329, k2_329, k3_329⟩ (Or.inl ⟨rfl, ?yv41_5_7⟩) ?rv41_5_7
                      case yv41_5_7 =>
                        intro W hW
                        obtain ⟨hW0, hW1, hW2, hW3, hW4, hW5⟩ := hW
                        go_simp
                        try with_reducible rfl
                      try simp only [Act.put, List.getElem_toArray, List.getElem_cons_succ, List.getElem_cons_zero, List.setIfInBounds_toArray, List.set_cons_zero, List.set_cons_succ]
                      refine wpAnyU_take 7 (v := ?vv41_5_8) rfl (by kernel_rfl) (by kernel_rfl) (fun _ _ _ h => h) ⟨p1_329, q1_329, k0_329, k1_329, k2_329, k3_329⟩ (Or.inl ⟨rfl, ?yv41_5_8⟩) ?rv41_5_8
                      case yv41_5_8 =>
                        intro W hW
                        obtain ⟨hW0, hW1, hW2, hW3, hW4, hW5⟩ := hW
                        go_simp
                        try with_reducible rfl
                      try simp only [Act.put, List.getElem_toArray, List.getElem_cons_succ, List.getElem_cons_zero, List.setIfInBounds_toArray, List.set_cons_zero, List.set_cons_succ]
                      refine wpAnyU_one 8 (by kernel_rfl) rfl (fun K hK => ?_)
                      refine step_callw rfl 59 Tryz.f59 Tryz.func59 (by kernel_rfl) (by kernel_rfl) _ _ rfl #[.pointer (some ⟨sg, 0, none⟩), .slice sR sn sr, .agg #[.int .i64 x1, .int .i64 x2, .int .i64 x3, .slice xA xn xc], .int .i64 3] (by simp [Act.eval]) ?_
                      refine (stepL_ok w0 wd328 _ sg sA sR sn sc_ sr sxs 134 hD327 (by omega) x1 x2 x3 xA xn xc hx3 3).mono ?_
                      rintro e u330 ⟨tA, tn, tc, tR, tr, txs, rfl, htn, hmS⟩
                      have hm332 : Mem w0 u330 (SB sg tA tn tc :: NL tA tn tc txs :: NL tR tn tr txs :: Blk g10 (.cells [.int .i64 x1, .int .i64 x2, .int .i64 x3, .slice xA xn xc].toArray 66) :: P2 g5 og sg :: Blk g6 (.cells [.slice oR on_ orr, .slice sR sn sr].toArray 95) :: SB og oA on_ oc_ :: NL oA on_ oc_ oxs :: NL oR on_ orr oxs :: Own 1 (.slice OA m oc) (lws outs) :: Own 1 (.slice WA m wc) (lws wants) :: (outs.map lsL ++ wants.map lsL)) := hmS
                      have p1_331 := hm332.cell (g := g5) (t := 94) (fr := (0, 0)) (cs := [.pointer (some ⟨og, 0, none⟩), .pointer (some ⟨sg, 0, none⟩)]) (.tail _ (.tail _ (.tail _ (.tail _ (.head _))))) 1 rfl
                      have q1_331 := hm332.cell (g := g6) (t := 95) (fr := (0, 0)) (cs := [.slice oR on_ orr, .slice sR sn sr]) (.tail _ (.tail _ (.tail _ (.tail _ (.tail _ (.head _)))))) 1 rfl
                      have k0_331 := hm332.cell (g := g10) (t := 66) (fr := (0, 0)) (cs := [.int .i64 x1, .int .i64 x2, .int .i64 x3, .slice xA xn xc]) (.tail _ (.tail _ (.tail _ (.head _)))) 0 rfl
                      have k1_331 := hm332.cell (g := g10) (t := 66) (fr := (0, 0)) (cs := [.int .i64 x1, .int .i64 x2, .int .i64 x3, .slice xA xn xc]) (.tail _ (.tail _ (.tail _ (.head _)))) 1 rfl
                      have k2_331 := hm332.cell (g := g10) (t := 66) (fr := (0, 0)) (cs := [.int .i64 x1, .int .i64 x2, .int .i64 x3, .slice xA xn xc]) (.tail _ (.tail _ (.tail _ (.head _)))) 2 rfl
                      have k3_331 := hm332.cell (g := g10) (t := 66) (fr := (0, 0)) (cs := [.int .i64 x1, .int .i64 x2, .int .i64 x3, .slice xA xn xc]) (.tail _ (.tail _ (.tail _ (.head _)))) 3 rfl
                      refine ⟨_, rfl, hK _ _ (fun _ => ⟨p1_331, q1_331, k0_331, k1_331, k2_331, k3_331⟩) ?_⟩
                      clear hK K
                      try simp only [Act.put, List.getElem_toArray, List.getElem_cons_succ, List.getElem_cons_zero, List.setIfInBounds_toArray, List.set_cons_zero, List.set_cons_succ]
                      refine wpAnyU_take 9 (v := ?vv41_5_9) rfl (by kernel_rfl) (by kernel_rfl) (fun _ _ _ h => h) ⟨p1_331, q1_331, k0_331, k1_331, k2_331, k3_331⟩ (Or.inl ⟨rfl, ?yv41_5_9⟩) ?rv41_5_9
                      case yv41_5_9 =>
                        intro W hW
                        obtain ⟨hW0, hW1, hW2, hW3, hW4, hW5⟩ := hW
                        go_simp
                        try with_reducible rfl
                      try simp only [Act.put, List.getElem_toArray, List.getElem_cons_succ, List.getElem_cons_zero, List.setIfInBounds_toArray, List.set_cons_zero, List.set_cons_succ]
                      refine wpAnyU_take 10 (v := ?vv41_5_10) rfl (by kernel_rfl) (by kernel_rfl) (fun _ _ _ h => h) ⟨p1_331, q1_331, k0_331, k1_331, k2_331, k3_331⟩ (Or.inl ⟨rfl, ?yv41_5_10⟩) ?rv41_5_10
                      case yv41_5_10 =>
                        intro W hW
                        obtain ⟨hW0, hW1, hW2, hW3, hW4, hW5⟩ := hW
                        go_simp
                        try with_reducible rfl
                      try simp only [Act.put, List.getElem_toArray, List.getElem_cons_succ, List.getElem_cons_zero, List.setIfInBounds_toArray, List.set_cons_zero, List.set_cons_succ]
                      refine wpAnyU_take 11 (v := ?vv41_5_11) rfl (by kernel_rfl) (by kernel_rfl) (fun _ _ _ h => h) ⟨p1_331, q1_331, k0_331, k1_331, k2_331, k3_331⟩ (Or.inl ⟨rfl, ?yv41_5_11⟩) ?rv41_5_11
                      case yv41_5_11 =>
                        intro W hW
                        obtain ⟨hW0, hW1, hW2, hW3, hW4, hW5⟩ := hW
                        go_simp
                        try with_reducible rfl
                      try simp only [Act.put, List.getElem_toArray, List.getElem_cons_succ, List.getElem_cons_zero, List.setIfInBounds_toArray, List.set_cons_zero, List.set_cons_succ]
                      refine wpAnyU_take 12 (v := ?vv41_5_12) rfl (by kernel_rfl) (by kernel_rfl) (fun _ _ _ h => h) ⟨p1_331, q1_331, k0_331, k1_331, k2_331, k3_331⟩ (Or.inl ⟨rfl, ?yv41_5_12⟩) ?rv41_5_12
                      case yv41_5_12 =>
                        intro W hW
                        obtain ⟨hW0, hW1, hW2, hW3, hW4, hW5⟩ := hW
                        go_simp
                        try with_reducible rfl
                      try simp only [Act.put, List.getElem_toArray, List.getElem_cons_succ, List.getElem_cons_zero, List.setIfInBounds_toArray, List.set_cons_zero, List.set_cons_succ]
                      refine wpAnyU_one 13 (by kernel_rfl) rfl (fun K hK => ?_)
                      go_simp
                      refine hK _ _ (fun h => absurd h (by decide)) ?_
                      clear hK K
                      refine wpAnyU_done (by kernel_rfl) ?_ _
                      go_wp2
                      try simp only [Act.put, List.getElem_toArray, List.getElem_cons_succ, List.getElem_cons_zero, List.setIfInBounds_toArray, List.set_cons_succ, List.set_cons_zero]
                      go_meet
                      case rel => exact ⟨_, _, _, _, _, _, rfl, rfl, htn, hm332⟩
                    case rest =>
                      obtain ⟨w333, rfl⟩ : ∃ w9 : World, w9 = wc := ⟨_, rfl⟩
                      obtain ⟨tA, tn, tc, tR, tr, txs, rfl, rfl, htn, hm334⟩ := hcut
                      have q1 := hm334.cell (g := g6) (t := 95) (fr := (0, 0)) (cs := [.slice oR on_ orr, .slice sR sn sr]) (.tail _ (.tail _ (.tail _ (.tail _ (.tail _ (.head _)))))) 1 rfl
                      have f1 := hm334.free (g := g6) (t := 95) (cs := [.slice oR on_ orr, .slice sR sn sr]) (.tail _ (.tail _ (.tail _ (.tail _ (.tail _ (.head _)))))) 1
                      have hm335 : Mem w0 w333 (Blk g6 (.cells [.slice oR on_ orr, .slice sR sn sr].toArray 95) :: SB sg tA tn tc :: NL tA tn tc txs :: NL tR tn tr txs :: Blk g10 (.cells [.int .i64 x1, .int .i64 x2, .int .i64 x3, .slice xA xn xc].toArray 66) :: P2 g5 og sg :: SB og oA on_ oc_ :: NL oA on_ oc_ oxs :: NL oR on_ orr oxs :: Own 1 (.slice OA m oc) (lws outs) :: Own 1 (.slice WA m wc) (lws wants) :: (outs.map lsL ++ wants.map lsL)) := hm334.sel 11 [5, 0, 1, 2, 3, 4, 6, 7, 8, 9, 10] (by decide)
                      have hm336 := hm335.set 1 (.slice tR tn tr)
                      simp only [List.set_cons_zero, List.set_cons_succ] at hm336
                      have hfa9 : Fact (_ ∧ _ ∧ _ ∧ _) := ⟨by have h := hfa0.out; exact ⟨Nat.le_trans (Nat.le_add_right _ _) h.1.1, Nat.le_trans htn (Nat.le_trans (Nat.le_add_right _ _) h.1.2), Nat.le_succ_of_le h.2.1, h.2.2⟩⟩
                      go_wp2
                      generalize w333.setCell _ _ = w337 at hm336 ⊢
                      have hm338 : Mem w0 w337 (P2 g5 og sg :: Blk g6 (.cells [.slice oR on_ orr, .slice tR tn tr].toArray 95) :: SB og oA on_ oc_ :: NL oA on_ oc_ oxs :: NL oR on_ orr oxs :: SB sg tA tn tc :: NL tA tn tc txs :: NL tR tn tr txs :: Own 1 (.slice OA m oc) (lws outs) :: Own 1 (.slice WA m wc) (lws wants) :: (outs.map lsL ++ wants.map lsL)) := hm336.sel 11 [5, 0, 6, 7, 8, 1, 2, 3, 9, 10] (by decide)
                      have hgo := hm338
                      go_roundw
                      case rel => exact ⟨i + 1, ⟨og, oA, on_, oc_, oR, orr, oxs⟩, ⟨sg, tA, tn, tc, tR, tr, txs⟩, OA, m, oc, outs, WA, wc, wants, by go_num, by omega, rfl, rfl, hgo, hfa9⟩
                      case measure => simp [intOf]; omega
                  · skip
                    have p1 := hmN.cell (g := g5) (t := 94) (fr := (0, 0)) (cs := [.pointer (some ⟨og, 0, none⟩), .pointer (some ⟨sg, 0, none⟩)]) (.tail _ (.tail _ (.tail _ (.tail _ (.head _))))) 1 rfl
                    have q1 := hmN.cell (g := g6) (t := 95) (fr := (0, 0)) (cs := [.slice oR on_ orr, .slice sR sn sr]) (.tail _ (.tail _ (.tail _ (.tail _ (.tail _ (.head _)))))) 1 rfl
                    have k2 := hmN.cell (g := g10) (t := 66) (fr := (0, 0)) (cs := [.int .i64 x1, .int .i64 x2, .int .i64 x3, .slice xA xn xc]) (.tail _ (.tail _ (.tail _ (.head _)))) 2 rfl
                    have k3 := hmN.cell (g := g10) (t := 66) (fr := (0, 0)) (cs := [.int .i64 x1, .int .i64 x2, .int .i64 x3, .slice xA xn xc]) (.tail _ (.tail _ (.tail _ (.head _)))) 3 rfl
                    have k0 := hmN.cell (g := g10) (t := 66) (fr := (0, 0)) (cs := [.int .i64 x1, .int .i64 x2, .int .i64 x3, .slice xA xn xc]) (.tail _ (.tail _ (.tail _ (.head _)))) 0 rfl
                    have k1 := hmN.cell (g := g10) (t := 66) (fr := (0, 0)) (cs := [.int .i64 x1, .int .i64 x2, .int .i64 x3, .slice xA xn xc]) (.tail _ (.tail _ (.tail _ (.head _)))) 1 rfl
                    go_upto_region 41 with (fail)
                    clear p1 q1 k0 k1 k2 k3
                    go_cut [19, 20] (fun s19 s20 W => ∃ (tA : Option Addr) (tn tc : Nat) (tR : Option Addr) (tr : Nat) (txs : List Int), s19 = .slice tR tn tr ∧ s20 = .bool true ∧ tn ≤ sn ∧ Mem w0 W (SB sg tA tn tc :: NL tA tn tc txs :: NL tR tn tr txs :: Blk g10 (.cells [.int .i64 x1, .int .i64 x2, .int .i64 x3, .slice xA xn xc].toArray 66) :: P2 g5 og sg :: Blk g6 (.cells [.slice oR on_ orr, .slice sR sn sr].toArray 95) :: SB og oA on_ oc_ :: NL oA on_ oc_ oxs :: NL oR on_ orr oxs :: Own 1 (.slice OA m oc) (lws outs) :: Own 1 (.slice WA m wc) (lws wants) :: (outs.map lsL ++ wants.map lsL)))
                    case first =>
                      have hD339 : Mem w0 w6.drew (SB sg sA sn sc_ :: NL sA sn sc_ sxs :: NL sR sn sr sxs :: Blk g10 (.cells [.int .i64 x1, .int .i64 x2, .int .i64 x3, .slice xA xn xc].toArray 66) :: P2 g5 og sg :: Blk g6 (.cells [.slice oR on_ orr, .slice sR sn sr].toArray 95) :: SB og oA on_ oc_ :: NL oA on_ oc_ oxs :: NL oR on_ orr oxs :: Own 1 (.slice OA m oc) (lws outs) :: Own 1 (.slice WA m wc) (lws wants) :: (outs.map lsL ++ wants.map lsL)) := hmN.drew
                      refine wp_region_until (S := fun W => W.cell? ⟨g5, 1, none⟩ = some (.pointer (some ⟨sg, 0, none⟩)) ∧ W.cell? ⟨g6, 1, none⟩ = some (.slice sR sn sr) ∧ W.cell? ⟨g10, 0, none⟩ = some (.int .i64 x1) ∧ W.cell? ⟨g10, 1, none⟩ = some (.int .i64 x2) ∧ W.cell? ⟨g10, 2, none⟩ = some (.int .i64 x3) ∧ W.cell? ⟨g10, 3, none⟩ = some (.slice xA xn xc)) 13 (by kernel_rfl) ?_
                      generalize w6.drew = wd340 at hD339 ⊢
                      have p1_341 := hD339.cell (g := g5) (t := 94) (fr := (0, 0)) (cs := [.pointer (some ⟨og, 0, none⟩), .pointer (some ⟨sg, 0, none⟩)]) (.tail _ (.tail _ (.tail _ (.tail _ (.head _))))) 1 rfl
                      have q1_341 := hD339.cell (g := g6) (t := 95) (fr := (0, 0)) (cs := [.slice oR on_ orr, .slice sR sn sr]) (.tail _ (.tail _ (.tail _ (.tail _ (.tail _ (.head _)))))) 1 rfl
                      have k0_341 := hD339.cell (g := g10) (t := 66) (fr := (0, 0)) (cs := [.int .i64 x1, .int .i64 x2, .int .i64 x3, .slice xA xn xc]) (.tail _ (.tail _ (.tail _ (.head _)))) 0 rfl
                      have k1_341 := hD339.cell (g := g10) (t := 66) (fr := (0, 0)) (cs := [.int .i64 x1, .int .i64 x2, .int .i64 x3, .slice xA xn xc]) (.tail _ (.tail _ (.tail _ (.head _)))) 1 rfl
                      have k2_341 := hD339.cell (g := g10) (t := 66) (fr := (0, 0)) (cs := [.int .i64 x1, .int .i64 x2, .int .i64 x3, .slice xA xn xc]) (.tail _ (.tail _ (.tail _ (.head _)))) 2 rfl
                      have k3_341 := hD339.cell (g := g10) (t := 66) (fr := (0, 0)) (cs := [.int .i64 x1, .int .i64 x2, .int .i64 x3, .slice xA xn xc]) (.tail _ (.tail _ (.tail _ (.head _)))) 3 rfl
                      refine wpAnyU_take 0 (v := ?vv41_6_1) rfl (by kernel_rfl) (by kernel_rfl) (fun _ _ _ h => h) ⟨p1_341, q1_341, k0_341, k1_341, k2_341, k3_341⟩ (Or.inl ⟨rfl, ?yv41_6_1⟩) ?rv41_6_1
                      case yv41_6_1 =>
                        intro W hW
                        obtain ⟨hW0, hW1, hW2, hW3, hW4, hW5⟩ := hW
                        go_simp
                        try with_reducible rfl
                      try simp only [Act.put, List.getElem_toArray, List.getElem_cons_succ, List.getElem_cons_zero, List.setIfInBounds_toArray, List.set_cons_zero, List.set_cons_succ]
                      refine wpAnyU_take 1 (v := ?vv41_6_2) rfl (by kernel_rfl) (by kernel_rfl) (fun _ _ _ h => h) ⟨p1_341, q1_341, k0_341, k1_341, k2_341, k3_341⟩ (Or.inl ⟨rfl, ?yv41_6_2⟩) ?rv41_6_2
                      case yv41_6_2 =>
                        intro W hW
                        obtain ⟨hW0, hW1, hW2, hW3, hW4, hW5⟩ := hW
                        go_simp
                        try with_reducible rfl
                      try simp only [Act.put, List.getElem_toArray, List.getElem_cons_succ, List.getElem_cons_zero, List.setIfInBounds_toArray, List.set_cons_zero, List.set_cons_succ]
                      refine wpAnyU_take 2 (v := ?vv41_6_3) rfl (by kernel_rfl) (by kernel_rfl) (fun _ _ _ h => h) ⟨p1_341, q1_341, k0_341, k1_341, k2_341, k3_341⟩ (Or.inl ⟨rfl, ?yv41_6_3⟩) ?rv41_6_3
                      case yv41_6_3 =>
                        intro W hW
                        obtain ⟨hW0, hW1, hW2, hW3, hW4, hW5⟩ := hW
                        go_simp
                        try with_reducible rfl
                      try simp only [Act.put, List.getElem_toArray, List.getElem_cons_succ, List.getElem_cons_zero, List.setIfInBounds_toArray, List.set_cons_zero, List.set_cons_succ]
                      refine wpAnyU_take 3 (v := ?vv41_6_4) rfl (by kernel_rfl) (by kernel_rfl) (fun _ _ _ h => h) ⟨p1_341, q1_341, k0_341, k1_341, k2_341, k3_341⟩ (Or.inl ⟨rfl, ?yv41_6_4⟩) ?rv41_6_4
                      case yv41_6_4 =>
                        intro W hW
                        obtain ⟨hW0, hW1, hW2, hW3, hW4, hW5⟩ := hW
                        go_simp
                        try with_reducible rfl
                      try simp only [Act.put, List.getElem_toArray, List.getElem_cons_succ, List.getElem_cons_zero, List.setIfInBounds_toArray, List.set_cons_zero, List.set_cons_succ]
                      refine wpAnyU_take 4 (v := ?vv41_6_5) rfl (by kernel_rfl) (by kernel_rfl) (fun _ _ _ h => h) ⟨p1_341, q1_341, k0_341, k1_341, k2_341, k3_341⟩ (Or.inl ⟨rfl, ?yv41_6_5⟩) ?rv41_6_5
                      case yv41_6_5 =>
                        intro W hW
                        obtain ⟨hW0, hW1, hW2, hW3, hW4, hW5⟩ := hW
                        go_simp
                        try with_reducible rfl
                      try simp only [Act.put, List.getElem_toArray, List.getElem_cons_succ, List.getElem_cons_zero, List.setIfInBounds_toArray, List.set_cons_zero, List.set_cons_succ]
                      refine wpAnyU_take 5 (v := ?vv41_6_6) rfl (by kernel_rfl) (by kernel_rfl) (fun _ _ _ h => h) ⟨p1_341, q1_341, k0_341, k1_341, k2_341, k3_341⟩ (Or.inl ⟨rfl, ?yv41_6_6⟩) ?rv41_6_6
                      case yv41_6_6 =>
                        intro W hW
                        obtain ⟨hW0, hW1, hW2, hW3, hW4, hW5⟩ := hW
                        go_simp
                        try with_reducible rfl
                      try simp only [Act.put, List.getElem_toArray, List.getElem_cons_succ, List.getElem_cons_zero, List.setIfInBounds_toArray, List.set_cons_zero, List.set_cons_succ]
                      refine wpAnyU_take 6 (v := ?vv41_6_7) rfl (by kernel_rfl) (by kernel_rfl) (fun _ _ _ h => h) ⟨p1_341, q1_341, k0_341, k1_341, k2_341, k3_341⟩ (Or.inl ⟨rfl, ?yv41_6_7⟩) ?rv41_6_7
                      case yv41_6_7 =>
                        intro W hW
                        obtain ⟨hW0, hW1, hW2, hW3, hW4, hW5⟩ := hW
                        go_simp
                        try with_reducible rfl
                      try simp only [Act.put, List.getElem_toArray, List.getElem_cons_succ, List.getElem_cons_zero, List.setIfInBounds_toArray, List.set_cons_zero, List.set_cons_succ]
                      refine wpAnyU_take 7 (v := ?vv41_6_8) rfl (by kernel_rfl) (by kernel_rfl) (fun _ _ _ h => h) ⟨p1_341, q1_341, k0_341, k1_341, k2_341, k3_341⟩ (Or.inl ⟨rfl, ?yv41_6_8⟩) ?rv41_6_8
                      case yv41_6_8 =>
                        intro W hW
                        obtain ⟨hW0, hW1, hW2, hW3, hW4, hW5⟩ := hW
                        go_simp
                        try with_reducible rfl
                      try simp only [Act.put, List.getElem_toArray, List.getElem_cons_succ, List.getElem_cons_zero, List.setIfInBounds_toArray, List.set_cons_zero, List.set_cons_succ]
                      refine wpAnyU_one 8 (by kernel_rfl) rfl (fun K hK => ?_)
                      refine step_callw rfl 59 Tryz.f59 Tryz.func59 (by kernel_rfl) (by kernel_rfl) _ _ rfl #[.pointer (some ⟨sg, 0, none⟩), .slice sR sn sr, .agg #[.int .i64 x1, .int .i64 x2, .int .i64 x3, .slice xA xn xc], .int .i64 4] (by simp [Act.eval]) ?_
                      refine (stepL_ok w0 wd340 _ sg sA sR sn sc_ sr sxs 134 hD339 (by omega) x1 x2 x3 xA xn xc hx3 4).mono ?_
                      rintro e u342 ⟨tA, tn, tc, tR, tr, txs, rfl, htn, hmS⟩
                      have hm344 : Mem w0 u342 (SB sg tA tn tc :: NL tA tn tc txs :: NL tR tn tr txs :: Blk g10 (.cells [.int .i64 x1, .int .i64 x2, .int .i64 x3, .slice xA xn xc].toArray 66) :: P2 g5 og sg :: Blk g6 (.cells [.slice oR on_ orr, .slice sR sn sr].toArray 95) :: SB og oA on_ oc_ :: NL oA on_ oc_ oxs :: NL oR on_ orr oxs :: Own 1 (.slice OA m oc) (lws outs) :: Own 1 (.slice WA m wc) (lws wants) :: (outs.map lsL ++ wants.map lsL)) := hmS
                      have p1_343 := hm344.cell (g := g5) (t := 94) (fr := (0, 0)) (cs := [.pointer (some ⟨og, 0, none⟩), .pointer (some ⟨sg, 0, none⟩)]) (.tail _ (.tail _ (.tail _ (.tail _ (.head _))))) 1 rfl
                      have q1_343 := hm344.cell (g := g6) (t := 95) (fr := (0, 0)) (cs := [.slice oR on_ orr, .slice sR sn sr]) (.tail _ (.tail _ (.tail _ (.tail _ (.tail _ (.head _)))))) 1 rfl
                      have k0_343 := hm344.cell (g := g10) (t := 66) (fr := (0, 0)) (cs := [.int .i64 x1, .int .i64 x2, .int .i64 x3, .slice xA xn xc]) (.tail _ (.tail _ (.tail _ (.head _)))) 0 rfl
                      have k1_343 := hm344.cell (g := g10) (t := 66) (fr := (0, 0)) (cs := [.int .i64 x1, .int .i64 x2, .int .i64 x3, .slice xA xn xc]) (.tail _ (.tail _ (.tail _ (.head _)))) 1 rfl
                      have k2_343 := hm344.cell (g := g10) (t := 66) (fr := (0, 0)) (cs := [.int .i64 x1, .int .i64 x2, .int .i64 x3, .slice xA xn xc]) (.tail _ (.tail _ (.tail _ (.head _)))) 2 rfl
                      have k3_343 := hm344.cell (g := g10) (t := 66) (fr := (0, 0)) (cs := [.int .i64 x1, .int .i64 x2, .int .i64 x3, .slice xA xn xc]) (.tail _ (.tail _ (.tail _ (.head _)))) 3 rfl
                      refine ⟨_, rfl, hK _ _ (fun _ => ⟨p1_343, q1_343, k0_343, k1_343, k2_343, k3_343⟩) ?_⟩
                      clear hK K
                      try simp only [Act.put, List.getElem_toArray, List.getElem_cons_succ, List.getElem_cons_zero, List.setIfInBounds_toArray, List.set_cons_zero, List.set_cons_succ]
                      refine wpAnyU_take 9 (v := ?vv41_6_9) rfl (by kernel_rfl) (by kernel_rfl) (fun _ _ _ h => h) ⟨p1_343, q1_343, k0_343, k1_343, k2_343, k3_343⟩ (Or.inl ⟨rfl, ?yv41_6_9⟩) ?rv41_6_9
                      case yv41_6_9 =>
                        intro W hW
                        obtain ⟨hW0, hW1, hW2, hW3, hW4, hW5⟩ := hW
                        go_simp
                        try with_reducible rfl
                      try simp only [Act.put, List.getElem_toArray, List.getElem_cons_succ, List.getElem_cons_zero, List.setIfInBounds_toArray, List.set_cons_zero, List.set_cons_succ]
                      refine wpAnyU_take 10 (v := ?vv41_6_10) rfl (by kernel_rfl) (by kernel_rfl) (fun _ _ _ h => h) ⟨p1_343, q1_343, k0_343, k1_343, k2_343, k3_343⟩ (Or.inl ⟨rfl, ?yv41_6_10⟩) ?rv41_6_10
                      case yv41_6_10 =>
                        intro W hW
                        obtain ⟨hW0, hW1, hW2, hW3, hW4, hW5⟩ := hW
                        go_simp
                        try with_reducible rfl
                      try simp only [Act.put, List.getElem_toArray, List.getElem_cons_succ, List.getElem_cons_zero, List.setIfInBounds_toArray, List.set_cons_zero, List.set_cons_succ]
                      refine wpAnyU_take 11 (v := ?vv41_6_11) rfl (by kernel_rfl) (by kernel_rfl) (fun _ _ _ h => h) ⟨p1_343, q1_343, k0_343, k1_343, k2_343, k3_343⟩ (Or.inl ⟨rfl, ?yv41_6_11⟩) ?rv41_6_11
                      case yv41_6_11 =>
                        intro W hW
                        obtain ⟨hW0, hW1, hW2, hW3, hW4, hW5⟩ := hW
                        go_simp
                        try with_reducible rfl
                      try simp only [Act.put, List.getElem_toArray, List.getElem_cons_succ, List.getElem_cons_zero, List.setIfInBounds_toArray, List.set_cons_zero, List.set_cons_succ]
                      refine wpAnyU_take 12 (v := ?vv41_6_12) rfl (by kernel_rfl) (by kernel_rfl) (fun _ _ _ h => h) ⟨p1_343, q1_343, k0_343, k1_343, k2_343, k3_343⟩ (Or.inl ⟨rfl, ?yv41_6_12⟩) ?rv41_6_12
                      case yv41_6_12 =>
                        intro W hW
                        obtain ⟨hW0, hW1, hW2, hW3, hW4, hW5⟩ := hW
                        go_simp
                        try with_reducible rfl
                      try simp only [Act.put, List.getElem_toArray, List.getElem_cons_succ, List.getElem_cons_zero, List.setIfInBounds_toArray, List.set_cons_zero, List.set_cons_succ]
                      refine wpAnyU_one 13 (by kernel_rfl) rfl (fun K hK => ?_)
                      go_simp
                      refine hK _ _ (fun h => absurd h (by decide)) ?_
                      clear hK K
                      refine wpAnyU_done (by kernel_rfl) ?_ _
                      go_wp2
                      try simp only [Act.put, List.getElem_toArray, List.getElem_cons_succ, List.getElem_cons_zero, List.setIfInBounds_toArray, List.set_cons_succ, List.set_cons_zero]
                      go_meet
                      case rel => exact ⟨_, _, _, _, _, _, rfl, rfl, htn, hm344⟩
                    case rest =>
                      obtain ⟨w345, rfl⟩ : ∃ w9 : World, w9 = wc := ⟨_, rfl⟩
                      obtain ⟨tA, tn, tc, tR, tr, txs, rfl, rfl, htn, hm346⟩ := hcut
                      have q1 := hm346.cell (g := g6) (t := 95) (fr := (0, 0)) (cs := [.slice oR on_ orr, .slice sR sn sr]) (.tail _ (.tail _ (.tail _ (.tail _ (.tail _ (.head _)))))) 1 rfl
                      have f1 := hm346.free (g := g6) (t := 95) (cs := [.slice oR on_ orr, .slice sR sn sr]) (.tail _ (.tail _ (.tail _ (.tail _ (.tail _ (.head _)))))) 1
                      have hm347 : Mem w0 w345 (Blk g6 (.cells [.slice oR on_ orr, .slice sR sn sr].toArray 95) :: SB sg tA tn tc :: NL tA tn tc txs :: NL tR tn tr txs :: Blk g10 (.cells [.int .i64 x1, .int .i64 x2, .int .i64 x3, .slice xA xn xc].toArray 66) :: P2 g5 og sg :: SB og oA on_ oc_ :: NL oA on_ oc_ oxs :: NL oR on_ orr oxs :: Own 1 (.slice OA m oc) (lws outs) :: Own 1 (.slice WA m wc) (lws wants) :: (outs.map lsL ++ wants.map lsL)) := hm346.sel 11 [5, 0, 1, 2, 3, 4, 6, 7, 8, 9, 10] (by decide)
                      have hm348 := hm347.set 1 (.slice tR tn tr)
                      simp only [List.set_cons_zero, List.set_cons_succ] at hm348
                      have hfa9 : Fact (_ ∧ _ ∧ _ ∧ _) := ⟨by have h := hfa0.out; exact ⟨Nat.le_trans (Nat.le_add_right _ _) h.1.1, Nat.le_trans htn (Nat.le_trans (Nat.le_add_right _ _) h.1.2), Nat.le_succ_of_le h.2.1, h.2.2⟩⟩
                      go_wp2
                      generalize w345.setCell _ _ = w349 at hm348 ⊢
                      have hm350 : Mem w0 w349 (P2 g5 og sg :: Blk g6 (.cells [.slice oR on_ orr, .slice tR tn tr].toArray 95) :: SB og oA on_ oc_ :: NL oA on_ oc_ oxs :: NL oR on_ orr oxs :: SB sg tA tn tc :: NL tA tn tc txs :: NL tR tn tr txs :: Own 1 (.slice OA m oc) (lws outs) :: Own 1 (.slice WA m wc) (lws wants) :: (outs.map lsL ++ wants.map lsL)) := hm348.sel 11 [5, 0, 6, 7, 8, 1, 2, 3, 9, 10] (by decide)
                      have hgo := hm350
                      go_roundw
                      case rel => exact ⟨i + 1, ⟨og, oA, on_, oc_, oR, orr, oxs⟩, ⟨sg, tA, tn, tc, tR, tr, txs⟩, OA, m, oc, outs, WA, wc, wants, by go_num, by omega, rfl, rfl, hgo, hfa9⟩
                      case measure => simp [intOf]; omega
          · obtain rfl : i = k := by omega
            obtain ⟨hfa1, hfa2, hfa3, ho1, ho2, ho3⟩ := hfa.out
            have hTk := hTall.out
            rw [List.take_of_length_le (Nat.le_of_eq hol.out)] at hfa1 hfa2
            have hk1 := hol.out
            obtain ⟨ag, aA, an, ac, aR, ar, axs⟩ := a
            obtain ⟨bg, bA, bn, bc, bR, br, bxs⟩ := b
            dsimp only at hm hfa1 hfa2
            have hanb : an ≤ 16777216 := Nat.le_trans hfa1 hTall.out
            have hbnb : bn ≤ 16777216 := Nat.le_trans hfa2 hTall.out
            have hu : Fact (RdC wr 1 (.slice WA m wc) (lws wants)) := ⟨hm.rd (by simp)⟩
            have hue : Fact (∀ k, k < m → (wants.getD k ll0).n = (outs.getD k ll0).n ∧ RdC wr 1 (lw (wants.getD k ll0)) (nums .i64 (outs.getD k ll0).xs)) := ⟨fun k hk => ⟨(ho3 k hk).1, by
              rw [← (ho3 k hk).2.1]
              have hwm : wants.getD k ll0 ∈ wants := List.mem_of_getElem? (getD_some wants ll0 k (by omega))
              exact hm.rd (size := 1) (v := lw (wants.getD k ll0)) (xs := nums .i64 (wants.getD k ll0).xs) (by
                repeat (apply List.Mem.tail)
                exact List.mem_append_right _ (List.mem_map.2 ⟨_, hwm, rfl⟩))⟩⟩
            have hON : Fact (∀ l, l ∈ outs → l.n ≤ 16777216) := ⟨fun l hl => by
              obtain ⟨j, hj, rfl⟩ := List.mem_iff_getElem.1 hl
              have h := (ho3 j (by omega)).2.2
              rwa [List.getD_eq_getElem?_getD, List.getElem?_eq_getElem hj] at h⟩
            have hmA := hm.perm (perm_out [_, _, _, _, _, _, _, _] _ _ _ _)
            go_wp2_with fail
            refine (apartL_ok w0 wr OA m oc outs WA wc wants _ hmA ⟨ho1⟩ hON (by omega) hu ⟨ho2⟩ hue).mono ?_
            rintro e w7 ⟨rfl, hmB⟩
            clear hm hmA hu hue hON ho1 ho2 ho3 hfa
            go_upto_region 47 with (fail)
            go_cut [2] (fun s2 W => s2 = .bool true ∧ Gr w0 W)
            case first =>
              as_aux_lemma =>
                have hD : Mem w0 w7.drew (P2 g5 ag bg :: Blk g6 (.cells [.slice aR an ar, .slice bR bn br].toArray 95) :: SB ag aA an ac :: NL aA an ac axs :: NL aR an ar axs :: SB bg bA bn bc :: NL bA bn bc bxs :: NL bR bn br bxs :: Own 1 (.slice WA m wc) (lws wants) :: (wants.map lsL)) := hmB.drew
                refine wp_region_until (S := fun W => W.cell? ⟨g5, 0, none⟩ = some (.pointer (some ⟨ag, 0, none⟩)) ∧ W.cell? ⟨g6, 0, none⟩ = some (.slice aR an ar) ∧ W.cell? ⟨g5, 1, none⟩ = some (.pointer (some ⟨bg, 0, none⟩)) ∧ W.cell? ⟨g6, 1, none⟩ = some (.slice bR bn br)) 14 (by kernel_rfl) ?_
                generalize w7.drew = wd at hD ⊢
                have p0_351 := hD.cell (g := g5) (t := 94) (fr := (0, 0)) (cs := [.pointer (some ⟨ag, 0, none⟩), .pointer (some ⟨bg, 0, none⟩)]) (.head _) 0 rfl
                have q0_351 := hD.cell (g := g6) (t := 95) (fr := (0, 0)) (cs := [.slice aR an ar, .slice bR bn br]) (.tail _ (.head _)) 0 rfl
                have p1_351 := hD.cell (g := g5) (t := 94) (fr := (0, 0)) (cs := [.pointer (some ⟨ag, 0, none⟩), .pointer (some ⟨bg, 0, none⟩)]) (.head _) 1 rfl
                have q1_351 := hD.cell (g := g6) (t := 95) (fr := (0, 0)) (cs := [.slice aR an ar, .slice bR bn br]) (.tail _ (.head _)) 1 rfl
                refine wpAnyU_take 0 (v := ?vv47_1) rfl (by kernel_rfl) (by kernel_rfl) (fun _ _ _ h => h) ⟨p0_351, q0_351, p1_351, q1_351⟩ (Or.inl ⟨rfl, ?yv47_1⟩) ?rv47_1
                case yv47_1 =>
                  intro W hW
                  obtain ⟨hW0, hW1, hW2, hW3⟩ := hW
                  go_simp
                  try with_reducible rfl
                try simp only [Act.put, List.getElem_toArray, List.getElem_cons_succ, List.getElem_cons_zero, List.setIfInBounds_toArray, List.set_cons_zero, List.set_cons_succ]
                refine wpAnyU_take 1 (v := ?vv47_2) rfl (by kernel_rfl) (by kernel_rfl) (fun _ _ _ h => h) ⟨p0_351, q0_351, p1_351, q1_351⟩ (Or.inl ⟨rfl, ?yv47_2⟩) ?rv47_2
                case yv47_2 =>
                  intro W hW
                  obtain ⟨hW0, hW1, hW2, hW3⟩ := hW
                  go_simp
                  try with_reducible rfl
                try simp only [Act.put, List.getElem_toArray, List.getElem_cons_succ, List.getElem_cons_zero, List.setIfInBounds_toArray, List.set_cons_zero, List.set_cons_succ]
                refine wpAnyU_take 3 (v := ?vv47_3) rfl (by kernel_rfl) (by kernel_rfl) (fun _ _ _ h => h) ⟨p0_351, q0_351, p1_351, q1_351⟩ (Or.inl ⟨rfl, ?yv47_3⟩) ?rv47_3
                case yv47_3 =>
                  intro W hW
                  obtain ⟨hW0, hW1, hW2, hW3⟩ := hW
                  go_simp
                  try with_reducible rfl
                try simp only [Act.put, List.getElem_toArray, List.getElem_cons_succ, List.getElem_cons_zero, List.setIfInBounds_toArray, List.set_cons_zero, List.set_cons_succ]
                refine wpAnyU_take 4 (v := ?vv47_4) rfl (by kernel_rfl) (by kernel_rfl) (fun _ _ _ h => h) ⟨p0_351, q0_351, p1_351, q1_351⟩ (Or.inl ⟨rfl, ?yv47_4⟩) ?rv47_4
                case yv47_4 =>
                  intro W hW
                  obtain ⟨hW0, hW1, hW2, hW3⟩ := hW
                  go_simp
                  try with_reducible rfl
                try simp only [Act.put, List.getElem_toArray, List.getElem_cons_succ, List.getElem_cons_zero, List.setIfInBounds_toArray, List.set_cons_zero, List.set_cons_succ]
                refine wpAnyU_one 2 (by kernel_rfl) rfl (fun K hK => ?_)
                refine step_callw rfl 58 Tryz.f58 Tryz.func58 (by kernel_rfl) (by kernel_rfl) _ _ rfl #[.pointer (some ⟨ag, 0, none⟩)] (by simp [Act.eval]) ?_
                refine (itemsL_ok w0 wd _ ag aA an ac axs 134 hD (.tail _ (.tail _ (.head _))) ⟨hD.rd (.tail _ (.tail _ (.tail _ (.head _))))⟩ (by omega)).mono ?_
                rintro e u354 ⟨A352, c353, rfl, hm355⟩
                have hm356 : Mem w0 u354 (NL A352 an c353 axs :: P2 g5 ag bg :: Blk g6 (.cells [.slice aR an ar, .slice bR bn br].toArray 95) :: SB ag aA an ac :: NL aA an ac axs :: NL aR an ar axs :: SB bg bA bn bc :: NL bA bn bc bxs :: NL bR bn br bxs :: Own 1 (.slice WA m wc) (lws wants) :: (wants.map lsL)) := hm355
                have p0_357 := hm356.cell (g := g5) (t := 94) (fr := (0, 0)) (cs := [.pointer (some ⟨ag, 0, none⟩), .pointer (some ⟨bg, 0, none⟩)]) (.tail _ (.head _)) 0 rfl
                have q0_357 := hm356.cell (g := g6) (t := 95) (fr := (0, 0)) (cs := [.slice aR an ar, .slice bR bn br]) (.tail _ (.tail _ (.head _))) 0 rfl
                have p1_357 := hm356.cell (g := g5) (t := 94) (fr := (0, 0)) (cs := [.pointer (some ⟨ag, 0, none⟩), .pointer (some ⟨bg, 0, none⟩)]) (.tail _ (.head _)) 1 rfl
                have q1_357 := hm356.cell (g := g6) (t := 95) (fr := (0, 0)) (cs := [.slice aR an ar, .slice bR bn br]) (.tail _ (.tail _ (.head _))) 1 rfl
                refine ⟨_, rfl, hK _ _ (fun _ => ⟨p0_357, q0_357, p1_357, q1_357⟩) ?_⟩
                clear hK K
                try simp only [Act.put, List.getElem_toArray, List.getElem_cons_succ, List.getElem_cons_zero, List.setIfInBounds_toArray, List.set_cons_zero, List.set_cons_succ]
                refine wpAnyU_one 5 (by kernel_rfl) rfl (fun K hK => ?_)
                refine step_callw rfl 61 Tryz.f61 Tryz.func61 (by kernel_rfl) (by kernel_rfl) _ _ rfl #[.slice A352 an c353, .slice aR an ar] (by simp [Act.eval]) ?_
                refine (sameLongs_ok u354 A352 aR an c353 ar axs ⟨hm356.rd (.head _)⟩ ⟨hm356.rd (.tail _ (.tail _ (.tail _ (.tail _ (.tail _ (.head _))))))⟩ (by omega)).mono ?_
                rintro e u358 ⟨rfl, g359⟩
                have hm360 : Mem w0 u358 (NL A352 an c353 axs :: P2 g5 ag bg :: Blk g6 (.cells [.slice aR an ar, .slice bR bn br].toArray 95) :: SB ag aA an ac :: NL aA an ac axs :: NL aR an ar axs :: SB bg bA bn bc :: NL bA bn bc bxs :: NL bR bn br bxs :: Own 1 (.slice WA m wc) (lws wants) :: (wants.map lsL)) := hm356.gr g359
                have p0_361 := hm360.cell (g := g5) (t := 94) (fr := (0, 0)) (cs := [.pointer (some ⟨ag, 0, none⟩), .pointer (some ⟨bg, 0, none⟩)]) (.tail _ (.head _)) 0 rfl
                have q0_361 := hm360.cell (g := g6) (t := 95) (fr := (0, 0)) (cs := [.slice aR an ar, .slice bR bn br]) (.tail _ (.tail _ (.head _))) 0 rfl
                have p1_361 := hm360.cell (g := g5) (t := 94) (fr := (0, 0)) (cs := [.pointer (some ⟨ag, 0, none⟩), .pointer (some ⟨bg, 0, none⟩)]) (.tail _ (.head _)) 1 rfl
                have q1_361 := hm360.cell (g := g6) (t := 95) (fr := (0, 0)) (cs := [.slice aR an ar, .slice bR bn br]) (.tail _ (.tail _ (.head _))) 1 rfl
                refine ⟨_, rfl, hK _ _ (fun _ => ⟨p0_361, q0_361, p1_361, q1_361⟩) ?_⟩
                clear hK K
                try simp only [Act.put, List.getElem_toArray, List.getElem_cons_succ, List.getElem_cons_zero, List.setIfInBounds_toArray, List.set_cons_zero, List.set_cons_succ]
                refine wpAnyU_take 6 (v := ?vv47_5) rfl (by kernel_rfl) (by kernel_rfl) (fun _ _ _ h => h) ⟨p0_361, q0_361, p1_361, q1_361⟩ (Or.inl ⟨rfl, ?yv47_5⟩) ?rv47_5
                case yv47_5 =>
                  intro W hW
                  obtain ⟨hW0, hW1, hW2, hW3⟩ := hW
                  go_simp
                  try with_reducible rfl
                try simp only [Act.put, List.getElem_toArray, List.getElem_cons_succ, List.getElem_cons_zero, List.setIfInBounds_toArray, List.set_cons_zero, List.set_cons_succ]
                refine wpAnyU_take 7 (v := ?vv47_6) rfl (by kernel_rfl) (by kernel_rfl) (fun _ _ _ h => h) ⟨p0_361, q0_361, p1_361, q1_361⟩ (Or.inl ⟨rfl, ?yv47_6⟩) ?rv47_6
                case yv47_6 =>
                  intro W hW
                  obtain ⟨hW0, hW1, hW2, hW3⟩ := hW
                  go_simp
                  try with_reducible rfl
                try simp only [Act.put, List.getElem_toArray, List.getElem_cons_succ, List.getElem_cons_zero, List.setIfInBounds_toArray, List.set_cons_zero, List.set_cons_succ]
                refine wpAnyU_take 8 (v := ?vv47_7) rfl (by kernel_rfl) (by kernel_rfl) (fun _ _ _ h => h) ⟨p0_361, q0_361, p1_361, q1_361⟩ (Or.inl ⟨rfl, ?yv47_7⟩) ?rv47_7
                case yv47_7 =>
                  intro W hW
                  obtain ⟨hW0, hW1, hW2, hW3⟩ := hW
                  go_simp
                  try with_reducible rfl
                try simp only [Act.put, List.getElem_toArray, List.getElem_cons_succ, List.getElem_cons_zero, List.setIfInBounds_toArray, List.set_cons_zero, List.set_cons_succ]
                refine wpAnyU_take 10 (v := ?vv47_8) rfl (by kernel_rfl) (by kernel_rfl) (fun _ _ _ h => h) ⟨p0_361, q0_361, p1_361, q1_361⟩ (Or.inl ⟨rfl, ?yv47_8⟩) ?rv47_8
                case yv47_8 =>
                  intro W hW
                  obtain ⟨hW0, hW1, hW2, hW3⟩ := hW
                  go_simp
                  try with_reducible rfl
                try simp only [Act.put, List.getElem_toArray, List.getElem_cons_succ, List.getElem_cons_zero, List.setIfInBounds_toArray, List.set_cons_zero, List.set_cons_succ]
                refine wpAnyU_take 11 (v := ?vv47_9) rfl (by kernel_rfl) (by kernel_rfl) (fun _ _ _ h => h) ⟨p0_361, q0_361, p1_361, q1_361⟩ (Or.inl ⟨rfl, ?yv47_9⟩) ?rv47_9
                case yv47_9 =>
                  intro W hW
                  obtain ⟨hW0, hW1, hW2, hW3⟩ := hW
                  go_simp
                  try with_reducible rfl
                try simp only [Act.put, List.getElem_toArray, List.getElem_cons_succ, List.getElem_cons_zero, List.setIfInBounds_toArray, List.set_cons_zero, List.set_cons_succ]
                refine wpAnyU_one 9 (by kernel_rfl) rfl (fun K hK => ?_)
                refine step_callw rfl 58 Tryz.f58 Tryz.func58 (by kernel_rfl) (by kernel_rfl) _ _ rfl #[.pointer (some ⟨bg, 0, none⟩)] (by simp [Act.eval]) ?_
                refine (itemsL_ok w0 u358 _ bg bA bn bc bxs 134 hm360 (.tail _ (.tail _ (.tail _ (.tail _ (.tail _ (.tail _ (.head _))))))) ⟨hm360.rd (.tail _ (.tail _ (.tail _ (.tail _ (.tail _ (.tail _ (.tail _ (.head _))))))))⟩ (by omega)).mono ?_
                rintro e u364 ⟨A362, c363, rfl, hm365⟩
                have hm366 : Mem w0 u364 (NL A362 bn c363 bxs :: NL A352 an c353 axs :: P2 g5 ag bg :: Blk g6 (.cells [.slice aR an ar, .slice bR bn br].toArray 95) :: SB ag aA an ac :: NL aA an ac axs :: NL aR an ar axs :: SB bg bA bn bc :: NL bA bn bc bxs :: NL bR bn br bxs :: Own 1 (.slice WA m wc) (lws wants) :: (wants.map lsL)) := hm365
                have p0_367 := hm366.cell (g := g5) (t := 94) (fr := (0, 0)) (cs := [.pointer (some ⟨ag, 0, none⟩), .pointer (some ⟨bg, 0, none⟩)]) (.tail _ (.tail _ (.head _))) 0 rfl
                have q0_367 := hm366.cell (g := g6) (t := 95) (fr := (0, 0)) (cs := [.slice aR an ar, .slice bR bn br]) (.tail _ (.tail _ (.tail _ (.head _)))) 0 rfl
                have p1_367 := hm366.cell (g := g5) (t := 94) (fr := (0, 0)) (cs := [.pointer (some ⟨ag, 0, none⟩), .pointer (some ⟨bg, 0, none⟩)]) (.tail _ (.tail _ (.head _))) 1 rfl
                have q1_367 := hm366.cell (g := g6) (t := 95) (fr := (0, 0)) (cs := [.slice aR an ar, .slice bR bn br]) (.tail _ (.tail _ (.tail _ (.head _)))) 1 rfl
                refine ⟨_, rfl, hK _ _ (fun _ => ⟨p0_367, q0_367, p1_367, q1_367⟩) ?_⟩
                clear hK K
                try simp only [Act.put, List.getElem_toArray, List.getElem_cons_succ, List.getElem_cons_zero, List.setIfInBounds_toArray, List.set_cons_zero, List.set_cons_succ]
                refine wpAnyU_one 12 (by kernel_rfl) rfl (fun K hK => ?_)
                refine step_callw rfl 61 Tryz.f61 Tryz.func61 (by kernel_rfl) (by kernel_rfl) _ _ rfl #[.slice A362 bn c363, .slice bR bn br] (by simp [Act.eval]) ?_
                refine (sameLongs_ok u364 A362 bR bn c363 br bxs ⟨hm366.rd (.head _)⟩ ⟨hm366.rd (.tail _ (.tail _ (.tail _ (.tail _ (.tail _ (.tail _ (.tail _ (.tail _ (.tail _ (.head _))))))))))⟩ (by omega)).mono ?_
                rintro e u368 ⟨rfl, g369⟩
                have hm370 : Mem w0 u368 (NL A362 bn c363 bxs :: NL A352 an c353 axs :: P2 g5 ag bg :: Blk g6 (.cells [.slice aR an ar, .slice bR bn br].toArray 95) :: SB ag aA an ac :: NL aA an ac axs :: NL aR an ar axs :: SB bg bA bn bc :: NL bA bn bc bxs :: NL bR bn br bxs :: Own 1 (.slice WA m wc) (lws wants) :: (wants.map lsL)) := hm366.gr g369
                have p0_371 := hm370.cell (g := g5) (t := 94) (fr := (0, 0)) (cs := [.pointer (some ⟨ag, 0, none⟩), .pointer (some ⟨bg, 0, none⟩)]) (.tail _ (.tail _ (.head _))) 0 rfl
                have q0_371 := hm370.cell (g := g6) (t := 95) (fr := (0, 0)) (cs := [.slice aR an ar, .slice bR bn br]) (.tail _ (.tail _ (.tail _ (.head _)))) 0 rfl
                have p1_371 := hm370.cell (g := g5) (t := 94) (fr := (0, 0)) (cs := [.pointer (some ⟨ag, 0, none⟩), .pointer (some ⟨bg, 0, none⟩)]) (.tail _ (.tail _ (.head _))) 1 rfl
                have q1_371 := hm370.cell (g := g6) (t := 95) (fr := (0, 0)) (cs := [.slice aR an ar, .slice bR bn br]) (.tail _ (.tail _ (.tail _ (.head _)))) 1 rfl
                refine ⟨_, rfl, hK _ _ (fun _ => ⟨p0_371, q0_371, p1_371, q1_371⟩) ?_⟩
                clear hK K
                try simp only [Act.put, List.getElem_toArray, List.getElem_cons_succ, List.getElem_cons_zero, List.setIfInBounds_toArray, List.set_cons_zero, List.set_cons_succ]
                refine wpAnyU_take 13 (v := ?vv47_10) rfl (by kernel_rfl) (by kernel_rfl) (fun _ _ _ h => h) ⟨p0_371, q0_371, p1_371, q1_371⟩ (Or.inl ⟨rfl, ?yv47_10⟩) ?rv47_10
                case yv47_10 =>
                  intro W hW
                  obtain ⟨hW0, hW1, hW2, hW3⟩ := hW
                  go_simp
                  try with_reducible rfl
                try simp only [Act.put, List.getElem_toArray, List.getElem_cons_succ, List.getElem_cons_zero, List.setIfInBounds_toArray, List.set_cons_zero, List.set_cons_succ]
                refine wpAnyU_one 14 (by kernel_rfl) rfl (fun K hK => ?_)
                go_simp
                refine hK _ _ (fun h => absurd h (by decide)) ?_
                clear hK K
                refine wpAnyU_done (by kernel_rfl) ?_ _
                go_wp2
                try simp only [Act.put, List.getElem_toArray, List.getElem_cons_succ, List.getElem_cons_zero, List.setIfInBounds_toArray, List.set_cons_succ, List.set_cons_zero]
                go_meet
                case rel => exact ⟨rfl, hm370.below⟩
            case rest =>
              obtain ⟨rfl, hgZ⟩ := hcut
              have hfin := Fact.mk hgZ
              clear hgZ
              go_wp2
              go_ret
              exact ⟨rfl, hfin.out⟩
    · have hT3 : ((T : Int) > 16777216) = True := eq_true (by omega)
      by_cases hlt : k < m
      · go_wp2
        go_ret
        exact ⟨rfl, Gr.refl _⟩
      · go_wp2
        go_ret
        exact ⟨rfl, Gr.refl _⟩
end Go.Proofs.YtgflfpepfpekhaaGreat
