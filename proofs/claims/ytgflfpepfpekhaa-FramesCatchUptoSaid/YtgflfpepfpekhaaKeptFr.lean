/- Frames that were lent are as they were (portagekit.KeptFrames). -/
import Derived.Test.YtgflfpepfpekhaaLentFr
import Derived.Test.YtgflfpepfpekhaaFhKept
namespace Go.Proofs.Ytgflfpepfpekhaa
open Go.RowKit Go.Mm
set_option maxHeartbeats 1000000
set_option maxRecDepth 100000
set_option linter.unusedSimpArgs false
/-- Frames that are lent, as they are read. -/
structure LentR (w : World) (N : Nat) (B : Option Addr) (n d : Nat) (ins hs : List Fr) : Prop where
  rd : RdC w 3 (.slice B (n + n + 64) d) (fR (ins ++ (hs ++ marksR n 64)))
  l1 : ins.length = n
  l2 : hs.length = n
  full : ∀ k, k < n → FullR (ins.getD k fr0) k (hs.getD k fr0)
  each : ∀ k, k < n → FrOk N w (ins.getD k fr0)
  hok : ∀ k, k < n → RdC w 2 (.slice (hs.getD k fr0).A (hs.getD k fr0).n (hs.getD k fr0).c) (fV (hs.getD k fr0).sl)
theorem LentR.gr {w w' : World} {N : Nat} {B : Option Addr} {n d : Nat} {ins hs : List Fr} (h : LentR w N B n d ins hs) (hg : Gr w w') : LentR w' N B n d ins hs :=
  ⟨h.rd.gr hg, h.l1, h.l2, h.full, fun k hk => (h.each k hk).gr hg, fun k hk => (h.hok k hk).gr hg⟩
theorem LentR.behind {w : World} {N : Nat} {B : Option Addr} {n d : Nat} {ins hs : List Fr} (h : LentR w N B n d ins hs) (k : Nat) (hk : k < n + 64) :
    ∃ b o, B = some ⟨b, o, none⟩ ∧ w.rangeAt b (o + (n + k) * 3) (cR ((hs ++ marksR n 64).getD k fr0)) := by
  obtain ⟨b, o, e, r, _⟩ := rd_at cR_len (by omega) fr0 h.rd (n + k) (by omega)
  refine ⟨b, o, e, ?_⟩
  have e1 : (ins ++ (hs ++ marksR n 64)).getD (n + k) fr0 = (hs ++ marksR n 64).getD k fr0 := by
    rw [List.getD_eq_getElem?_getD, List.getElem?_append_right (by have := h.l1; omega), h.l1, Nat.add_sub_cancel_left, ← List.getD_eq_getElem?_getD]
  rwa [e1] at r
theorem LentR.frs {w : World} {N : Nat} {B : Option Addr} {n d : Nat} {ins hs : List Fr} (h : LentR w N B n d ins hs) : FrsOk N w B n d ins := by
  refine ⟨?_, fun f hf => ?_⟩
  · have h1 := h.rd.pre n (by omega)
    rwa [← fR_take, List.take_append_of_le_length (Nat.le_of_eq h.l1.symm), List.take_of_length_le (Nat.le_of_eq h.l1)] at h1
  · obtain ⟨k, hk, rfl⟩ := List.mem_iff_getElem.1 hf
    have h1 := h.each k (by have := h.l1; omega)
    rwa [List.getD_eq_getElem?_getD, List.getElem?_eq_getElem hk] at h1
theorem keptFrames_ok (w : World) (N : Nat) (B : Option Addr) (n d : Nat) (ins hs : List Fr) (hl : Fact (LentR w N B n d ins hs)) (A : Option Addr) (c : Nat) (zs : List Fr) (hz : Fact (FrsOk N w A n c zs)) (hd : Fact (ins.map Fr.data = zs.map Fr.data)) (hn : n ≤ 1048576) (hN : N ≤ 2000000) :
    Calls Try.prog 25 #[.slice B n d, .slice A n c] w fun e w' => e = .returned (.bool true) ∧ Gr w w' := by
  have hzl := Fact.mk hz.out.len
  have hcd : n + n + 64 ≤ d := by obtain ⟨_, _, _, e, _, h, _⟩ := hl.out.rd; cases e; exact h
  have e1 : ((2 : Int) * (n : Int) + 64).toNat = n + n + 64 := by omega
  have e2 : (2 : Int) * (n : Int) + 64 ≤ (d : Int) := by omega
  have e3 : (0 : Int) ≤ (2 : Int) * (n : Int) + 64 := by omega
  go_enter Try.func25, Try.ntmps25
  go_wp2
  go_loopw [7] (fun v w' => ∃ (k : Nat), v = .int .i64 k ∧ k ≤ n ∧ Gr w w') (fun v _ => n - (intOf v).toNat)
  case atStart => exact ⟨0, rfl, by omega, Gr.refl _⟩
  case round =>
    obtain ⟨k, rfl, hk, hg⟩ := hrel
    have hg := Fact.mk hg
    by_cases hlt : k < n
    · have hlr := Fact.mk (hl.out.gr hg.out)
      obtain ⟨b, o, rfl, r1, ok1, _⟩ := hlr.out.frs.at k hlt
      obtain ⟨bb, ob, rfl, r2, ok2, _⟩ := (hz.out.gr hg.out).at k hlt
      obtain ⟨_, _, e, r3⟩ := hlr.out.behind k (by omega)
      cases e
      have hhk : (hs ++ marksR n 64).getD k fr0 = hs.getD k fr0 := by rw [List.getD_eq_getElem?_getD, List.getElem?_append_left (by have := hl.out.l2; omega), ← List.getD_eq_getElem?_getD]
      rw [hhk] at r3
      have hfu := hl.out.full k hlt
      have rh := hlr.out.hok k hlt
      have he : (ins.getD k fr0).data = (zs.getD k fr0).data := by
        have h1 : (ins.map Fr.data)[k]? = (zs.map Fr.data)[k]? := by rw [hd.out]
        rw [List.getElem?_map, List.getElem?_map, getD_some ins fr0 k (by have := hl.out.l1; omega), getD_some zs fr0 k (by have := hzl.out; omega)] at h1
        simpa using h1
      generalize ins.getD k fr0 = x at r1 ok1 he hfu
      generalize zs.getD k fr0 = y at r2 ok2 he
      generalize hs.getD k fr0 = h at r3 rh hfu
      obtain ⟨xfn, xpc, xA, xn, xc, xsl⟩ := x
      obtain ⟨yfn, ypc, yA, yn, yc, ysl⟩ := y
      obtain ⟨gfn, gpc, gA, gn, gc, gsl⟩ := h
      have l1 := ok1.len
      have l2 := ok2.len
      simp only [Fr.data, Prod.mk.injEq] at he l1 l2
      obtain ⟨rfl, rfl, rfl⟩ := he
      obtain rfl : xn = yn := by omega
      obtain ⟨rfl, rfl, rfl, rfl⟩ := hfu
      have hxn : xn ≤ N := ok1.2
      have ok1 := Fact.mk ok1
      have ok2 := Fact.mk ok2
      have rh := Fact.mk rh
      have b0 : wr.cell? ⟨bb, ob + k * 3, none⟩ = some (.int .i64 xfn) := r2 0 _ rfl
      have b1 : wr.cell? ⟨bb, ob + k * 3 + 1, none⟩ = some (.int .i64 xpc) := r2 1 _ rfl
      have b2 : wr.cell? ⟨bb, ob + k * 3 + 2, none⟩ = some (.slice yA xn yc) := r2 2 _ rfl
      have c2 : wr.cell? ⟨b, o + (n + k) * 3 + 2, none⟩ = some (.slice gA (xn + 64) gc) := r3 2 _ rfl
      have hm := Mem.start wr
      go_upto_region 9 with (first | (refine wp_rng rfl 30 _ rfl b _ rfl [.int .i64 xfn, .int .i64 xpc, .slice xA xn xc] r1 row_R szR ?_) | (refine wp_setrow rfl 30 _ _ rfl _ rfl 30 _ [.int .i64 xfn, .int .i64 xpc, .slice xA xn xc] rfl (hm.alloc _) szR rfl (cR_one ⟨xfn, xpc, xA, xn, xc, xsl⟩) ?_; intro w2 hm2))
      generalize wr.heap.size = g8 at hm2 ⊢
      have hg2 := hm2.below
      have q0 := hm2.cell m0 0 rfl
      have q1 := hm2.cell m0 1 rfl
      have q2 := hm2.cell m0 2 rfl
      have b0 := Gr.cell hg2 b0
      have b1 := Gr.cell hg2 b1
      have b2 := Gr.cell hg2 b2
      have c2 := Gr.cell hg2 c2
      have hgg := Fact.mk (hg.out.trans hg2)
      have ok1 := Fact.mk (ok1.out.gr hg2)
      have ok2 := Fact.mk (ok2.out.gr hg2)
      have rh := Fact.mk (rh.out.gr hg2)
      clear hg2 hm2 hm r1 r2 r3 hg hlr l1 l2 hhk
      have e4 : IntKind.i64.wrap ((n : Int) + (k : Int)) = (n : Int) + (k : Int) := IntWalk.i64_in _ (by omega)
      have e5 : (0 : Int) ≤ (n : Int) + (k : Int) := by omega
      have e6 : (n : Int) + (k : Int) < (n : Int) + (n : Int) + 64 := by omega
      have e7 : ((n : Int) + (k : Int)).toNat = n + k := by omega
      go_still_tail 43, (by kernel_rfl)
      change wpList _ _ _ _ _ w2.drew
      have hg2 := (Gr.refl w2).drew
      have b2 := Gr.cell hg2 b2
      have q2 := Gr.cell hg2 q2
      have hgg := Fact.mk (hgg.out.trans hg2)
      have ok1 := Fact.mk (ok1.out.gr hg2)
      have ok2 := Fact.mk (ok2.out.gr hg2)
      have rh := Fact.mk (rh.out.gr hg2)
      clear hg2 b0 b1 c2 q0 q1 e1 e2 e3 e4 e5 e6 e7
      generalize w2.drew = w3 at *
      go_wp2_with fail
      refine (keptValues_ok w3 gA xn gc yA yc xsl ⟨rh.out⟩ ⟨ok2.out.1⟩ (by omega)).mono ?_
      rintro e w4 ⟨rfl, hg2⟩
      have b2 := Gr.cell hg2 b2
      have q2 := Gr.cell hg2 q2
      have hgg := Fact.mk (hgg.out.trans hg2)
      have ok1 := Fact.mk (ok1.out.gr hg2)
      have ok2 := Fact.mk (ok2.out.gr hg2)
      clear hg2 rh
      go_wp2
      go_loopw [9] (fun v w' => ∃ (j : Nat), v = .int .i64 j ∧ j ≤ xn ∧ ∃ m, w' = w4.drewN m) (fun v _ => xn - (intOf v).toNat)
      case atStart => exact ⟨0, rfl, by omega, 0, rfl⟩
      case round =>
        obtain ⟨j, rfl, hj, m, rfl⟩ := hrel
        by_cases hlt2 : j < xn
        · obtain ⟨u, uo, e, g1, g2, ht, _⟩ := rdV_at ok1.out.1 j hlt2
          obtain ⟨v, vo, e', g1b, g2b, htb, _⟩ := rdV_at ok2.out.1 j hlt2
          dsimp only at e e'
          subst e
          subst e'
          generalize xsl.getD j (0, 0) = x at g1 g2 g1b g2b ht htb
          clear ht htb
          go_upto_region 14 with (fail)
          go_quiet (fail)
          go_wp2
          go_roundw
          case rel => exact ⟨j + 1, by go_num, by omega, _, rfl⟩
          case measure => simp [intOf]; omega
        · have hfin := Fact.mk (hgg.out.trans ((Gr.refl w4).drewN m))
          go_wp2
          go_roundw
          case rel => exact ⟨k + 1, by go_num, by omega, hfin.out⟩
          case measure => simp [intOf]; omega
    · obtain rfl : k = n := by omega
      go_wp2
      obtain ⟨wo, hwo⟩ : ∃ wo : World, wo = wr := ⟨_, rfl⟩
      rw [← hwo] at hg ⊢
      clear hwo
      have hlr := Fact.mk (hl.out.gr hg.out)
      go_loopw [10] (fun v w' => ∃ (i : Nat), v = .int .i64 i ∧ i ≤ k + 64 ∧ Gr wo w') (fun v _ => k + 64 - (intOf v).toNat)
      case atStart => exact ⟨0, rfl, by omega, Gr.refl _⟩
      case round =>
        obtain ⟨i, rfl, hi, hg3⟩ := hrel
        have hg3 := Fact.mk hg3
        by_cases hlt2 : i < k + 64
        · obtain ⟨b, o, rfl, r3⟩ := (hlr.out.gr hg3.out).behind i hlt2
          have hh : ((hs ++ marksR k 64).getD i fr0).fn = -7 ∧ ((hs ++ marksR k 64).getD i fr0).pc = i ∧ (k ≤ i → ((hs ++ marksR k 64).getD i fr0).n = 0) := by
            by_cases e : i < k
            · have h := hlr.out.full i e
              rw [List.getD_eq_getElem?_getD, List.getElem?_append_left (by have := hlr.out.l2; omega), ← List.getD_eq_getElem?_getD]
              exact ⟨h.1, h.2.1, fun h => by omega⟩
            · have e1 : (hs ++ marksR k 64).getD i fr0 = markR k (i - k) := by
                rw [List.getD_eq_getElem?_getD, List.getElem?_append_right (by have := hlr.out.l2; omega), hlr.out.l2]
                have : i - k < 64 := by omega
                simp [marksR, this]
              rw [e1]
              exact ⟨rfl, by simp [markR]; omega, fun _ => rfl⟩
          generalize (hs ++ marksR k 64).getD i fr0 = h at r3 hh
          obtain ⟨gfn, gpc, gA, gn, gc, gsl⟩ := h
          obtain ⟨rfl, rfl, hgn⟩ := hh
          have hm := Mem.start wr
          have e4 : IntKind.i64.wrap ((k : Int) + (i : Int)) = (k : Int) + (i : Int) := IntWalk.i64_in _ (by omega)
          have e5 : (0 : Int) ≤ (k : Int) + (i : Int) := by omega
          have e6 : (k : Int) + (i : Int) < (k : Int) + (k : Int) + 64 := by omega
          have e7 : ((k : Int) + (i : Int)).toNat = k + i := by omega
          go_upto_region 20 with (first | (refine wp_rng rfl 30 _ rfl b _ rfl [.int .i64 (-7), .int .i64 (i : Int), .slice gA gn gc] r3 row_R szR ?_) | (refine wp_setrow rfl 30 _ _ rfl _ rfl 30 _ [.int .i64 (-7), .int .i64 (i : Int), .slice gA gn gc] rfl (hm.alloc _) szR rfl (cR_one ⟨-7, (i : Int), gA, gn, gc, gsl⟩) ?_; intro w2 hm2))
          generalize wr.heap.size = g8 at hm2 ⊢
          have hgg := Fact.mk (hg3.out.trans hm2.below)
          have q0 := hm2.cell m0 0 rfl
          have q1 := hm2.cell m0 1 rfl
          have q2 := hm2.cell m0 2 rfl
          clear hm2 hm r3 e4 e5 e6 e7
          by_cases e : k ≤ i
          · obtain rfl := hgn e
            have e8 : ((i : Int) ≥ (k : Int)) = True := eq_true (by omega)
            go_wp2
            go_roundw
            case rel => exact ⟨i + 1, by go_num, by omega, hgg.out⟩
            case measure => simp [intOf]; omega
          · have e8 : ((i : Int) ≥ (k : Int)) = False := eq_false (by omega)
            go_wp2
            go_roundw
            case rel => exact ⟨i + 1, by go_num, by omega, hgg.out⟩
            case measure => simp [intOf]; omega
        · have hfin := Fact.mk (hg.out.trans hg3.out)
          go_wp2
          go_ret
          exact ⟨rfl, hfin.out⟩
end Go.Proofs.Ytgflfpepfpekhaa
