/- Lemmas of the heap (a part of the heap's texts; written by slice.py). -/
import Derived.BigQuiet
import Derived.Carry
import Derived.ChangeKeysEq
import Derived.Deep.CutBlock
import Derived.Deep.DeepCutAuto
import Derived.Deep.DeepFit
import Derived.Deep.DeepMust
import Derived.Deep.Draws
import Derived.Deep.LoopGhost
import Derived.Deep.MidRow
import Derived.Deep.QuietTactic
import Derived.Deep.RegionHeld3
import Derived.Deep.RegionLaw
import Derived.Deep.Slices
import Derived.KernelRfl
import Derived.Laws.MakeOwn
import Derived.Lib.SliceRun
import Derived.Maps.Own
import Derived.Maps.OwnSet
import Derived.Maps.Views
import Derived.OpenShut
import Derived.OrdersHeld
import Derived.Outline
import Derived.OwnWalk
import Derived.SizedLaws
import Derived.StillTail
import Derived.StillTailTactics
import Derived.WalkKit
import Derived.WalkSpells
import Derived.Test.YtgflfpepfpekhaaGreatProg
import Derived.Test.YtgflfpepfpekhaaGreatFKi
set_option linter.unusedVariables false
set_option linter.unusedSimpArgs false
namespace Go.Proofs.YtgflfpepfpekhaaGreat
open Go.RowKit Go.Mm
set_option maxHeartbeats 4000000
set_option maxRecDepth 100000
set_option linter.unusedSimpArgs false
theorem meas4 {m k : Nat} (h : k < m) : m - (intOf (.int .i64 ((k : Int) + 1))).toNat < m - (intOf (.int .i64 (k : Int))).toNat := by
  simp [intOf]
  omega
theorem measO {m k : Nat} {o : Int} (h : k < m) : m - (intOf (.int .i64 (o + (k : Int) + 1)) - o).toNat < m - (intOf (.int .i64 (o + (k : Int))) - o).toNat := by
  simp [intOf]
  omega
def scrE (g n : Nat) (a kd : Int) : List OpL := [⟨0, 6, 0, some ⟨g, 0, none⟩, n, 3, [11, 12, 13].take n⟩, ⟨0, kd, a, none, 0, 0, []⟩, ⟨0, 5, 0, none, 0, 0, []⟩, ⟨0, 4, 0, none, 0, 0, []⟩, ⟨0, 0, 0, some ⟨g + 1, 0, none⟩, 2, 2, [20, 21]⟩, ⟨0, kd, a, none, 0, 0, []⟩, ⟨0, 5, 0, none, 0, 0, []⟩, ⟨0, 3, 1, none, 0, 0, []⟩, ⟨0, 0, 0, some ⟨g + 1 + 1, 0, none⟩, 1, 1, [30]⟩, ⟨0, 5, 0, none, 0, 0, []⟩]
def scrF : List OpL := [⟨0, 1, -9223372036854775808, none, 0, 0, []⟩, ⟨0, 2, 9223372036854775807, none, 0, 0, []⟩, ⟨0, 3, -9223372036854775808, none, 0, 0, []⟩]
theorem ops_one (l : List OpL) : One (l.flatMap cO) := One.flatMap cO_one l
theorem scrE_ok {w0 w : World} {g n : Nat} {a kd : Int} {t u v x : TypeId} {L : List Chunk} (hn : n ≤ 3) (ha : a ≤ 100) (hm : Mem w0 w (Blk (g + 1 + 1 + 1) (.cells ((scrE g n a kd).flatMap cO).toArray t) :: Blk (g + 1 + 1) (.cells (nums .i64 [30]).toArray u) :: Blk (g + 1) (.cells (nums .i64 [20, 21]).toArray v) :: Blk g (.cells (nums .i64 [11, 12, 13]).toArray x) :: L)) :
    ScrOk w (some ⟨g + 1 + 1 + 1, 0, none⟩) 10 10 (scrE g n a kd) := by
  have h0 := hm.rdblk m0 10 4 rfl (by simp [maxLen]) (ops_one _)
  have h1 := hm.rdblk m1 1 1 rfl (by simp [maxLen]) (One.nums _ _)
  have h2 := hm.rdblk m2 2 1 rfl (by simp [maxLen]) (One.nums _ _)
  have h3 := (hm.rdblk m3 3 1 rfl (by simp [maxLen]) (One.nums _ _)).pre n hn
  have e : (nums .i64 [11, 12, 13]).take (n * 1) = nums .i64 ([11, 12, 13].take n) := by simp [nums, List.map_take]
  rw [e] at h3
  refine ⟨h0, fun y hy => ?_⟩
  simp only [scrE, List.mem_cons, List.not_mem_nil, or_false] at hy
  rcases hy with rfl | rfl | rfl | rfl | rfl | rfl | rfl | rfl | rfl | rfl
  · exact ⟨h3, by simp only; omega, by simp only; omega⟩
  · exact ⟨RdC.nil _ _, by simp only; omega, by simp only; omega⟩
  · exact ⟨RdC.nil _ _, by simp only; omega, by simp only; omega⟩
  · exact ⟨RdC.nil _ _, by simp only; omega, by simp only; omega⟩
  · exact ⟨h2, by simp only; omega, by simp only; omega⟩
  · exact ⟨RdC.nil _ _, by simp only; omega, by simp only; omega⟩
  · exact ⟨RdC.nil _ _, by simp only; omega, by simp only; omega⟩
  · exact ⟨RdC.nil _ _, by simp only; omega, by simp only; omega⟩
  · exact ⟨h1, by simp only; omega, by simp only; omega⟩
  · exact ⟨RdC.nil _ _, by simp only; omega, by simp only; omega⟩
theorem scrF_ok {w0 w : World} {g : Nat} {t : TypeId} {L : List Chunk} (hm : Mem w0 w (Blk g (.cells (scrF.flatMap cO).toArray t) :: L)) : ScrOk w (some ⟨g, 0, none⟩) 3 3 scrF := by
  have h0 := hm.rdblk m0 3 4 rfl (by simp [maxLen]) (ops_one _)
  refine ⟨h0, fun y hy => ?_⟩
  simp only [scrF, List.mem_cons, List.not_mem_nil, or_false] at hy
  rcases hy with rfl | rfl | rfl <;> exact ⟨RdC.nil _ _, by simp only; omega, by simp only; omega⟩
theorem stacked_ok (w : World) : Calls Tryz.prog 16 #[] w fun e w' => e = .returned (.bool true) ∧ Gr w w' := by
  go_enter Tryz.func16, Tryz.ntmps16
  go_wp2
  go_loopw [1] (fun s1 W => ∃ n : Nat, s1 = .int .i64 n ∧ n ≤ 4 ∧ Gr w W) (fun s1 _ => 4 - (intOf s1).toNat)
  case atStart => exact ⟨0, rfl, by omega, Gr.refl _⟩
  case round =>
    obtain ⟨n, rfl, hn, hg1⟩ := hrel
    by_cases h4 : n < 4
    · have e4 : ((n : Int) < 4) = True := eq_true (by omega)
      replace hg1 := Fact.mk hg1
      go_wp2
      go_loopw [2] (fun s2 W => ∃ j : Nat, s2 = .int .i64 (-2 + (j : Int)) ∧ j ≤ 8 ∧ Gr w W) (fun s2 _ => 8 - (intOf s2 - -2).toNat)
      case atStart => exact ⟨0, rfl, by omega, hg1.out⟩
      case round =>
        obtain ⟨j, rfl, hj, hg2⟩ := hrel
        clear hg1
        by_cases h8 : j < 8
        · have e8 : (-2 + (j : Int) < 6) = True := eq_true (by omega)
          replace hg2 := Fact.mk hg2
          go_wp2
          go_loopw [3] (fun s3 W => ∃ i : Nat, s3 = .int .i64 (1 + (i : Int)) ∧ i ≤ 3 ∧ Gr w W) (fun s3 _ => 3 - (intOf s3 - 1).toNat)
          case atStart => exact ⟨0, rfl, by omega, hg2.out⟩
          case round =>
            obtain ⟨i, rfl, hi, hg3⟩ := hrel
            clear hg2
            by_cases h3 : i < 3
            · have e3 : (1 + (i : Int) < 4) = True := eq_true (by omega)
              replace hg3 := Fact.mk hg3
              go_wp2_with fail
              have hm := ((((Mem.start wr).alloc (.cells (nums .i64 [11, 12, 13]).toArray 2)).alloc (.cells (nums .i64 [20, 21]).toArray 2)).alloc (.cells (nums .i64 [30]).toArray 2)).alloc (.cells ((scrE wr.heap.size n (-2 + (j : Int)) (1 + (i : Int))).flatMap cO).toArray 66)
              simp only [World.size_alloc] at hm
              refine (stack_walk _ (some ⟨wr.heap.size + 1 + 1 + 1, 0, none⟩) 10 10 (scrE wr.heap.size n (-2 + (j : Int)) (1 + (i : Int))) ⟨scrE_ok (by omega) (by omega) hm⟩ (by omega)).mono ?_
              rintro e w5 ⟨rfl, hg5⟩
              have hg6 := Fact.mk (Gr.trans hg3.out (Gr.trans hm.below hg5))
              clear hm hg5 hg3
              go_wp2
              go_roundw
              case rel => exact ⟨i + 1, by go_num, by omega, hg6.out⟩
              case measure => exact measO h3
            · have e3 : (1 + (i : Int) < 4) = False := eq_false (by omega)
              go_wp2
              go_roundw
              case rel => exact ⟨j + 1, by go_num, by omega, hg3⟩
              case measure => exact measO h8
        · have e8 : (-2 + (j : Int) < 6) = False := eq_false (by omega)
          go_wp2
          go_roundw
          case rel => exact ⟨n + 1, by go_num, by omega, hg2⟩
          case measure => exact meas4 h4
    · have e4 : ((n : Int) < 4) = False := eq_false (by omega)
      go_wp2_with fail
      have hm := (Mem.start wr).alloc (.cells (scrF.flatMap cO).toArray 66)
      refine (stack_walk _ (some ⟨wr.heap.size, 0, none⟩) 3 3 scrF ⟨scrF_ok hm⟩ (by omega)).mono ?_
      rintro e w5 ⟨rfl, hg5⟩
      have hg6 := Fact.mk (Gr.trans hg1 (Gr.trans hm.below hg5))
      clear hm hg5 hg1
      go_wp2
      go_ret
      exact ⟨rfl, hg6.out⟩
end Go.Proofs.YtgflfpepfpekhaaGreat
namespace Go.Proofs.YtgflfpepfpekhaaGreat
open Go.RowKit Go.Mm Go.WideShapes Go.ChangeShapes
set_option maxHeartbeats 1000000
set_option maxRecDepth 100000
theorem edged_ok (w : World) : Calls Tryz.prog 5 #[] w fun e w' => e = .returned (.bool true) ∧ Gr w w' := by
  go_enter Tryz.func5, Tryz.ntmps5
  go_wp2_with fail
  refine (enters_ok w).mono ?_
  rintro e w1 ⟨rfl, g1⟩
  go_wp2_with fail
  refine (calls_ok w1).mono ?_
  rintro e w2 ⟨rfl, g2⟩
  go_wp2_with fail
  refine (catches_ok w2).mono ?_
  rintro e w3 ⟨rfl, g3⟩
  go_wp2_with fail
  refine (stacked_ok w3).mono ?_
  rintro e w4 ⟨rfl, g4⟩
  have hg := Gr.trans (Gr.trans g1 g2) (Gr.trans g3 g4)
  go_wp2
  go_ret
  exact ⟨rfl, hg⟩
theorem framesKnown_walk (w : World) : Calls Tryz.prog 3 #[] w fun e w' => e = .returned (.bool true) ∧ Gr w w' := by
  go_enter Tryz.func3, Tryz.ntmps3
  go_wp2_with fail
  refine (shown_ok w).mono ?_
  rintro e w1 ⟨rfl, g1⟩
  go_wp2_with fail
  refine (edged_ok w1).mono ?_
  rintro e w2 ⟨rfl, g2⟩
  have hg := Gr.trans g1 g2
  go_wp2
  go_ret
  exact ⟨rfl, hg⟩
theorem framesKnown_ok (H : Type) (_enc : TypeId × Value → H) (W : World) (_base : Nat) :
    Calls Tryz.prog 3 #[] W fun e w' => e = .returned (.bool true) ∧ Gr W w' := framesKnown_walk W
end Go.Proofs.YtgflfpepfpekhaaGreat
