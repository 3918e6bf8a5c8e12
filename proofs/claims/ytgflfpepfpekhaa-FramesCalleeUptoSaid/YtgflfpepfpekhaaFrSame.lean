import Derived.Test.YtgflfpepfpekhaaFhFam
import Derived.Test.YtgflfpepfpekhaaFrCopy
import Derived.StillTailTactics
namespace Go.Proofs.Ytgflfpepfpekhaa
open Go.RowKit Go.Mm
set_option maxHeartbeats 400000
set_option maxRecDepth 100000
/-- Two frames that are the same. -/
theorem sameFrame_ok (w : World) (fn pc : Int) (A B : Option Addr) (n c d : Nat) (sl : List V2) (hx : Fact (RdC w 2 (.slice A n c) (fV sl))) (hy : Fact (RdC w 2 (.slice B n d) (fV sl))) (hn : n ≤ 16777216) :
    Calls Try.prog 17 #[.agg #[.int .i64 fn, .int .i64 pc, .slice A n c], .agg #[.int .i64 fn, .int .i64 pc, .slice B n d]] w fun e w' => e = .returned (.bool true) ∧ Gr w w' := by
  go_enter Try.func17, Try.ntmps17
  go_wp2_with fail
  refine (sameValues_ok _ A B n c d sl ⟨hx.out.gr (((Gr.refl _).alloc _).alloc _)⟩ ⟨hy.out.gr (((Gr.refl _).alloc _).alloc _)⟩ hn).mono ?_
  rintro e w2 ⟨rfl, hg⟩
  have hg2 := ((((Gr.refl w).alloc _).alloc _).trans hg)
  go_wp2
  go_ret
  exact ⟨rfl, hg2⟩
theorem sameFrames_ok (w : World) (A B : Option Addr) (N n c d : Nat) (xs ys : List Fr) (hx : Fact (FrsOk N w A n c xs)) (hy : Fact (FrsOk N w B n d ys)) (hd : Fact (xs.map Fr.data = ys.map Fr.data)) (hn : n ≤ 16777216) (hN : N ≤ 16777216) :
    Calls Try.prog 24 #[.slice A n c, .slice B n d] w fun e w' => e = .returned (.bool true) ∧ Gr w w' := by
  have hl := Fact.mk hx.out.len
  have hl' := Fact.mk hy.out.len
  go_enter Try.func24, Try.ntmps24
  go_wp2
  go_loopw [5] (fun v w' => ∃ (k : Nat), v = .int .i64 k ∧ k ≤ n ∧ Gr w w') (fun v _ => n - (intOf v).toNat)
  case atStart => exact ⟨0, rfl, by omega, Gr.refl _⟩
  case round =>
    obtain ⟨k, rfl, hk, hg⟩ := hrel
    have hg := Fact.mk hg
    by_cases hlt : k < n
    · obtain ⟨b, o, rfl, r1, ok1, _⟩ := hx.out.at k hlt
      obtain ⟨bb, ob, rfl, r2, ok2, _⟩ := hy.out.at k hlt
      have he : (xs.getD k fr0).data = (ys.getD k fr0).data := by
        have h1 : (xs.map Fr.data)[k]? = (ys.map Fr.data)[k]? := by rw [hd.out]
        rw [List.getElem?_map, List.getElem?_map, getD_some xs fr0 k (by have := hl.out; omega), getD_some ys fr0 k (by have := hl'.out; omega)] at h1
        simpa using h1
      generalize xs.getD k fr0 = x at r1 ok1 he
      generalize ys.getD k fr0 = y at r2 ok2 he
      obtain ⟨fn, pc, xA, xn, xc, xsl⟩ := x
      obtain ⟨fn', pc', yA, yn, yc, ysl⟩ := y
      have l1 := ok1.len
      have l2 := ok2.len
      simp only [Fr.data, Prod.mk.injEq] at he l1 l2
      obtain ⟨rfl, rfl, rfl⟩ := he
      obtain rfl : xn = yn := by omega
      have ok1 := Fact.mk (ok1.gr hg.out)
      have ok2 := Fact.mk (ok2.gr hg.out)
      have r1 := Fact.mk (rng_gr r1 hg.out)
      have r2 := Fact.mk (rng_gr r2 hg.out)
      clear l1 l2
      have a1 : wr.cell? ⟨b, o + k * 3, none⟩ = some (.int .i64 fn) := r1.out 0 _ rfl
      have a2 : wr.cell? ⟨b, o + k * 3 + 1, none⟩ = some (.int .i64 pc) := r1.out 1 _ rfl
      have a3 : wr.cell? ⟨b, o + k * 3 + 2, none⟩ = some (.slice xA xn xc) := r1.out 2 _ rfl
      have b1 : wr.cell? ⟨bb, ob + k * 3, none⟩ = some (.int .i64 fn) := r2.out 0 _ rfl
      have b2 : wr.cell? ⟨bb, ob + k * 3 + 1, none⟩ = some (.int .i64 pc) := r2.out 1 _ rfl
      have b3 : wr.cell? ⟨bb, ob + k * 3 + 2, none⟩ = some (.slice yA xn yc) := r2.out 2 _ rfl
      go_upto_region 6 with (fail)
      go_still_tail 8, (by kernel_rfl)
      change wpList _ _ _ _ _ wr.drew
      have hg2 := Fact.mk hg.out.drew
      have ok1 := Fact.mk (ok1.out.gr (Gr.refl wr).drew)
      have ok2 := Fact.mk (ok2.out.gr (Gr.refl wr).drew)
      clear a1 a2 a3 b1 b2 b3 r1 r2
      generalize wr.drew = w2 at *
      go_wp2_with fail
      refine (sameFrame_ok w2 fn pc xA yA xn xc yc xsl ⟨ok1.out.1⟩ ⟨ok2.out.1⟩ (by have := ok1.out.2; simp at this; omega)).mono ?_
      rintro e w3 ⟨rfl, hg3⟩
      go_wp2
      go_roundw
      case rel => exact ⟨k + 1, by go_num, by omega, hg2.out.trans hg3⟩
      case measure => simp [intOf]; omega
    · go_wp2
      go_ret
      exact ⟨rfl, hg.out⟩
end Go.Proofs.Ytgflfpepfpekhaa
