/- Lemmas of the heap (a part of the heap's texts; written by slice.py). -/
import Derived.BigQuiet
import Derived.Carry
import Derived.ChangeKeysEq
import Derived.Deep.CutBlock
import Derived.Deep.DeepCutAuto
import Derived.Deep.DeepFit
import Derived.Deep.DeepMust
import Derived.Deep.Draws
import Derived.Deep.LoopGhost
import Derived.Deep.MidRow
import Derived.Deep.QuietTactic
import Derived.Deep.RegionHeld3
import Derived.Deep.RegionLaw
import Derived.Deep.Slices
import Derived.KernelRfl
import Derived.Laws.MakeOwn
import Derived.Lib.SliceRun
import Derived.Maps.Own
import Derived.Maps.OwnSet
import Derived.Maps.Views
import Derived.OpenShut
import Derived.OrdersHeld
import Derived.Outline
import Derived.OwnWalk
import Derived.SizedLaws
import Derived.StillTail
import Derived.StillTailTactics
import Derived.WalkKit
import Derived.WalkSpells
import Derived.Test.YtgflfpepfpekhaaGreatProg
import Derived.Test.YtgflfpepfpekhaaGreatFKc
set_option linter.unusedVariables false
set_option linter.unusedSimpArgs false
namespace Go.Proofs.YtgflfpepfpekhaaGreat
open Go.RowKit Go.Mm
set_option maxHeartbeats 4000000
set_option maxRecDepth 100000
set_option linter.unusedSimpArgs false
/-- Has an object no field that its kind has not, and no key twice? -/
def madeB (o : Ob) : Bool :=
  if o.kind = 6 then (o.keys.length == 0) && (o.cap == 0 && !o.shut) && (o.fn == 0)
  else if o.kind = 8 then (o.keys.length == 0) && (o.cap == 0 && !o.shut)
  else if o.kind = 9 then (o.keys.length == 0) && (o.fn == 0)
  else if o.kind = 7 then (o.cap == 0 && !o.shut) && (o.fn == 0) && (o.keys.length == o.items.length) && o.keys.all (fun k => decide (0 ≤ k)) && decide o.keys.Nodup
  else false
def MadeQ (w0 : World) (L : List Chunk) (o : Ob) (e : Ending) (w : World) : Prop :=
  (madeB o = true ∧ ∃ t : Th, t.ob = o ∧ t.Ok ∧ e = .returned (.tuple #[t.val, .bool true]) ∧ Mem w0 w (ThC t :: L)) ∨ (madeB o = false ∧ ∃ v, e = .returned (.tuple #[v, .bool false]) ∧ Mem w0 w L)
theorem madeA_ok (w0 w : World) (L : List Chunk) (hm : Mem w0 w L) (A : Option Addr) (c : Nat) (KA : Option Addr) (kc : Nat) (items : List V2) (keys : List Int) (fn cap : Int) (sh : Bool) (hx : Fact (RdC w 2 (.slice A items.length c) (fV items))) (hi : items.length ≤ 1048576) (hkn : keys.length ≤ 1048576) (op : Bool) (hop : op = (cap == 0 && !sh)) :
    Calls Tryz.prog 70 #[.agg (obC 6 A items.length c KA keys.length kc fn cap sh).toArray] w fun e w' => MadeQ w0 L ⟨6, items, keys, fn, cap, sh⟩ e w' := by
  have hM : madeB ⟨6, items, keys, fn, cap, sh⟩ = ((keys.length == 0) && op && (fn == 0)) := by rw [hop]; rfl
  go_enter Tryz.func70, Tryz.ntmps70
  go_upto_region 1 with (fail)
  have hm1 := hm.alloc (.cells (obC 6 A items.length c KA keys.length kc fn cap sh).toArray 59)
  have hx1 := Fact.mk (hx.out.gr ((Gr.refl w).alloc (.cells (obC 6 A items.length c KA keys.length kc fn cap sh).toArray 59)))
  generalize hgb : w.heap.size = gb at hm1 ⊢
  generalize hw1 : w.alloc (.cells (obC 6 A items.length c KA keys.length kc fn cap sh).toArray 59) = w1 at hm1 hx1
  try refine wp_world hw1 ?_
  clear hw1 hgb hx
  have c0 := hm1.cell m0 0 rfl
  have c2 := hm1.cell m0 2 rfl
  have c4 := hm1.cell m0 4 rfl
  have c5 := hm1.cell m0 5 rfl
  go_upto_region 2 with (fail)
  go_cut [5] (fun s5 W => s5 = .bool op ∧ W = w1)
  case first =>
    by_cases qc : cap = 0
    · have qc' : (cap == 0) = true := beq_iff_eq.2 qc
      rw [qc', Bool.true_and] at hop
      clear qc
      subst hop
      go_wp2
      go_meet
      case rel => exact ⟨rfl, rfl⟩
    · have qc' : (cap == 0) = false := beq_eq_false_iff_ne.2 qc
      rw [qc', Bool.false_and] at hop
      clear qc
      subst hop
      go_wp2
      go_meet
      case rel => exact ⟨rfl, rfl⟩
  case rest =>
    obtain ⟨rfl, hwc⟩ := hcut
    rw [hwc]
    clear hwc c4 c5 c2
    by_cases qk : keys.length = 0
    · rw [beq_iff_eq.2 qk, Bool.true_and] at hM
      cases op with
      | false =>
        rw [Bool.false_and] at hM
        have hmb := Fact.mk hM
        clear hM hop
        have qk' : ((keys.length : Int) == 0) = true := beq_iff_eq.2 (by omega)
        rw [qk']
        clear qk'
        go_upto_region 5 with (fail)
        clear c0
        have hm2 := hm1.drew
        have hx2 := Fact.mk (hx1.out.gr (Gr.refl w1).drew)
        clear hm1 hx1
        have hS : w1.drew.cell? ⟨gb, 1, none⟩ = some (.slice A items.length c) ∧ w1.drew.cell? ⟨gb, 3, none⟩ = some (.int .i64 fn) := ⟨hm2.cell m0 1 rfl, hm2.cell m0 3 rfl⟩
        refine wp_region_until (S := fun W => W.cell? ⟨gb, 1, none⟩ = some (.slice A items.length c) ∧ W.cell? ⟨gb, 3, none⟩ = some (.int .i64 fn)) 16 (by kernel_rfl) ?_
        generalize w1.drew = w2 at hm2 hx2 hS ⊢
        refine wpAnyU_take 0 (v := ?vmt1x0) rfl (by kernel_rfl) (by kernel_rfl) (fun _ _ _ h => h) hS (Or.inl ⟨rfl, ?ymt1x0⟩) ?rmt1x0
        case ymt1x0 =>
          intro W hW
          obtain ⟨hW0, hW1⟩ := hW
          go_simp
          try with_reducible rfl
        try simp only [Act.put, List.getElem_toArray, List.getElem_cons_succ, List.getElem_cons_zero, List.setIfInBounds_toArray, List.set_cons_zero, List.set_cons_succ]
        refine wpAnyU_take 1 (v := ?vmt2x1) rfl (by kernel_rfl) (by kernel_rfl) (fun _ _ _ h => h) hS (Or.inl ⟨rfl, ?ymt2x1⟩) ?rmt2x1
        case ymt2x1 =>
          intro W hW
          obtain ⟨hW0, hW1⟩ := hW
          go_simp
          try with_reducible rfl
        try simp only [Act.put, List.getElem_toArray, List.getElem_cons_succ, List.getElem_cons_zero, List.setIfInBounds_toArray, List.set_cons_zero, List.set_cons_succ]
        refine wpAnyU_take 6 (v := ?vmt3x6) rfl (by kernel_rfl) (by kernel_rfl) (fun _ _ _ h => h) hS (Or.inl ⟨rfl, ?ymt3x6⟩) ?rmt3x6
        case ymt3x6 =>
          intro W hW
          obtain ⟨hW0, hW1⟩ := hW
          go_simp
          try with_reducible rfl
        try simp only [Act.put, List.getElem_toArray, List.getElem_cons_succ, List.getElem_cons_zero, List.setIfInBounds_toArray, List.set_cons_zero, List.set_cons_succ]
        refine wpAnyU_one 2 (by kernel_rfl) rfl (fun K hK => ?_)
        refine step_call rfl 82 Tryz.f82 Tryz.func82 (by kernel_rfl) (by kernel_rfl) _ _ rfl #[.slice A items.length c] (by simp [Act.eval]) ?_
        refine (clone_ok w0 w2 _ hm2 A items.length c items hx2 (by omega)).mono ?_
        rintro e w3 ⟨A3, c3, rfl, hm3⟩
        refine ⟨_, rfl, ?_⟩
        refine hK _ _ (fun _ => ⟨hm3.cell m1 1 rfl, hm3.cell m1 3 rfl⟩) ?_
        clear hK K hS hm2 hx2
        try simp only [Act.put, List.getElem_toArray, List.getElem_cons_succ, List.getElem_cons_zero, List.setIfInBounds_toArray, List.set_cons_zero, List.set_cons_succ]
        have hS : w3.cell? ⟨gb, 1, none⟩ = some (.slice A items.length c) ∧ w3.cell? ⟨gb, 3, none⟩ = some (.int .i64 fn) := ⟨hm3.cell m1 1 rfl, hm3.cell m1 3 rfl⟩
        refine wpAnyU_take 3 (v := ?vmt4x3) rfl (by kernel_rfl) (by kernel_rfl) (fun _ _ _ h => h) hS (Or.inl ⟨rfl, ?ymt4x3⟩) ?rmt4x3
        case ymt4x3 =>
          intro W hW
          obtain ⟨hW0, hW1⟩ := hW
          go_simp
          try with_reducible rfl
        try simp only [Act.put, List.getElem_toArray, List.getElem_cons_succ, List.getElem_cons_zero, List.setIfInBounds_toArray, List.set_cons_zero, List.set_cons_succ]
        refine wpAnyU_take 7 (v := ?vmt5x7) rfl (by kernel_rfl) (by kernel_rfl) (fun _ _ _ h => h) hS (Or.inl ⟨rfl, ?ymt5x7⟩) ?rmt5x7
        case ymt5x7 =>
          intro W hW
          obtain ⟨hW0, hW1⟩ := hW
          go_simp
          try with_reducible rfl
        try simp only [Act.put, List.getElem_toArray, List.getElem_cons_succ, List.getElem_cons_zero, List.setIfInBounds_toArray, List.set_cons_zero, List.set_cons_succ]
        refine wpAnyU_take 8 (v := ?vmt6x8) rfl (by kernel_rfl) (by kernel_rfl) (fun _ _ _ h => h) hS (Or.inl ⟨rfl, ?ymt6x8⟩) ?rmt6x8
        case ymt6x8 =>
          intro W hW
          obtain ⟨hW0, hW1⟩ := hW
          go_simp
          try with_reducible rfl
        try simp only [Act.put, List.getElem_toArray, List.getElem_cons_succ, List.getElem_cons_zero, List.setIfInBounds_toArray, List.set_cons_zero, List.set_cons_succ]
        refine wpAnyU_take 9 (v := ?vmt7x9) rfl (by kernel_rfl) (by kernel_rfl) (fun _ _ _ h => h) hS (Or.inl ⟨rfl, ?ymt7x9⟩) ?rmt7x9
        case ymt7x9 =>
          intro W hW
          obtain ⟨hW0, hW1⟩ := hW
          go_simp
          try with_reducible rfl
        try simp only [Act.put, List.getElem_toArray, List.getElem_cons_succ, List.getElem_cons_zero, List.setIfInBounds_toArray, List.set_cons_zero, List.set_cons_succ]
        refine wpAnyU_take 10 (v := ?vmt8x10) rfl (by kernel_rfl) (by kernel_rfl) (fun _ _ _ h => h) hS (Or.inl ⟨rfl, ?ymt8x10⟩) ?rmt8x10
        case ymt8x10 =>
          intro W hW
          obtain ⟨hW0, hW1⟩ := hW
          go_simp
          try with_reducible rfl
        try simp only [Act.put, List.getElem_toArray, List.getElem_cons_succ, List.getElem_cons_zero, List.setIfInBounds_toArray, List.set_cons_zero, List.set_cons_succ]
        refine wpAnyU_take 11 (v := undef) rfl (by kernel_rfl) (by kernel_rfl) (fun _ _ _ h => h) hS (Or.inr ⟨rfl, rfl⟩) ?roff811
        try simp only [Act.put, List.getElem_toArray, List.getElem_cons_succ, List.getElem_cons_zero, List.setIfInBounds_toArray, List.set_cons_zero, List.set_cons_succ]
        refine wpAnyU_take 12 (v := undef) rfl (by kernel_rfl) (by kernel_rfl) (fun _ _ _ h => h) hS (Or.inr ⟨rfl, rfl⟩) ?roff812
        try simp only [Act.put, List.getElem_toArray, List.getElem_cons_succ, List.getElem_cons_zero, List.setIfInBounds_toArray, List.set_cons_zero, List.set_cons_succ]
        refine wpAnyU_take 13 (v := undef) rfl (by kernel_rfl) (by kernel_rfl) (fun _ _ _ h => h) hS (Or.inr ⟨rfl, rfl⟩) ?roff813
        try simp only [Act.put, List.getElem_toArray, List.getElem_cons_succ, List.getElem_cons_zero, List.setIfInBounds_toArray, List.set_cons_zero, List.set_cons_succ]
        refine wpAnyU_take 14 (v := ?vmt9x14) rfl (by kernel_rfl) (by kernel_rfl) (fun _ _ _ h => h) hS (Or.inl ⟨rfl, ?ymt9x14⟩) ?rmt9x14
        case ymt9x14 =>
          intro W hW
          obtain ⟨hW0, hW1⟩ := hW
          go_simp
          try with_reducible rfl
        try simp only [Act.put, List.getElem_toArray, List.getElem_cons_succ, List.getElem_cons_zero, List.setIfInBounds_toArray, List.set_cons_zero, List.set_cons_succ]
        refine wpAnyU_one 4 (by kernel_rfl) rfl (fun K hK => ?_)
        go_simp
        have hm4 := hm3.alloc (.cells [.slice A3 items.length c3].toArray 145)
        generalize hg4 : w3.heap.size = g4 at hm4 ⊢
        generalize hw4 : w3.alloc (.cells [.slice A3 items.length c3].toArray 145) = w4 at hm4 ⊢
        refine hK _ _ (fun _ => ⟨hm4.cell m2 1 rfl, hm4.cell m2 3 rfl⟩) ?_
        clear hK K hS hm3 hg4 hw4
        try simp only [Act.put, List.getElem_toArray, List.getElem_cons_succ, List.getElem_cons_zero, List.setIfInBounds_toArray, List.set_cons_zero, List.set_cons_succ]
        have hS : w4.cell? ⟨gb, 1, none⟩ = some (.slice A items.length c) ∧ w4.cell? ⟨gb, 3, none⟩ = some (.int .i64 fn) := ⟨hm4.cell m2 1 rfl, hm4.cell m2 3 rfl⟩
        refine wpAnyU_take 5 (v := ?vmt10x5) rfl (by kernel_rfl) (by kernel_rfl) (fun _ _ _ h => h) hS (Or.inl ⟨rfl, ?ymt10x5⟩) ?rmt10x5
        case ymt10x5 =>
          intro W hW
          obtain ⟨hW0, hW1⟩ := hW
          go_simp
          try with_reducible rfl
        try simp only [Act.put, List.getElem_toArray, List.getElem_cons_succ, List.getElem_cons_zero, List.setIfInBounds_toArray, List.set_cons_zero, List.set_cons_succ]
        refine wpAnyU_take 15 (v := ?vmt11x15) rfl (by kernel_rfl) (by kernel_rfl) (fun _ _ _ h => h) hS (Or.inl ⟨rfl, ?ymt11x15⟩) ?rmt11x15
        case ymt11x15 =>
          intro W hW
          obtain ⟨hW0, hW1⟩ := hW
          go_simp
          try with_reducible rfl
        try simp only [Act.put, List.getElem_toArray, List.getElem_cons_succ, List.getElem_cons_zero, List.setIfInBounds_toArray, List.set_cons_zero, List.set_cons_succ]
        refine wpAnyU_one 16 (by kernel_rfl) rfl (fun K hK => ?_)
        go_simp
        refine hK _ _ (fun h => absurd h (by decide)) ?_
        clear hK K hS
        try simp only [Act.put, List.getElem_toArray, List.getElem_cons_succ, List.getElem_cons_zero, List.setIfInBounds_toArray, List.set_cons_zero, List.set_cons_succ]
        refine wpAnyU_done (by kernel_rfl) ?_ _
        go_wp2
        go_ret2
        exact .inr ⟨hmb.out, _, rfl, hm4.tail.tail.tail⟩
      | true =>
        rw [Bool.true_and] at hM
        by_cases qf : fn = 0
        · rw [beq_iff_eq.2 qf] at hM
          have hmb := Fact.mk hM
          have hob : Fact ((⟨6, items, keys, fn, cap, sh⟩ : Ob) = ⟨6, items, [], 0, 0, false⟩) := ⟨by
            have h := hop.symm
            simp only [Bool.and_eq_true, beq_iff_eq, Bool.not_eq_true'] at h
            rw [h.1, h.2, qf, List.eq_nil_of_length_eq_zero qk]⟩
          have qf' : (fn == 0) = true := beq_iff_eq.2 qf
          clear qf hM hop
          have qk' : ((keys.length : Int) == 0) = true := beq_iff_eq.2 (by omega)
          rw [qk']
          clear qk'
          go_upto_region 5 with (fail)
          clear c0
          have hm2 := hm1.drew
          have hx2 := Fact.mk (hx1.out.gr (Gr.refl w1).drew)
          clear hm1 hx1
          have hS : w1.drew.cell? ⟨gb, 1, none⟩ = some (.slice A items.length c) ∧ w1.drew.cell? ⟨gb, 3, none⟩ = some (.int .i64 fn) := ⟨hm2.cell m0 1 rfl, hm2.cell m0 3 rfl⟩
          refine wp_region_until (S := fun W => W.cell? ⟨gb, 1, none⟩ = some (.slice A items.length c) ∧ W.cell? ⟨gb, 3, none⟩ = some (.int .i64 fn)) 16 (by kernel_rfl) ?_
          generalize w1.drew = w2 at hm2 hx2 hS ⊢
          refine wpAnyU_take 0 (v := ?vmt12x0) rfl (by kernel_rfl) (by kernel_rfl) (fun _ _ _ h => h) hS (Or.inl ⟨rfl, ?ymt12x0⟩) ?rmt12x0
          case ymt12x0 =>
            intro W hW
            obtain ⟨hW0, hW1⟩ := hW
            go_simp
            try with_reducible rfl
          try simp only [Act.put, List.getElem_toArray, List.getElem_cons_succ, List.getElem_cons_zero, List.setIfInBounds_toArray, List.set_cons_zero, List.set_cons_succ]
          refine wpAnyU_take 1 (v := ?vmt13x1) rfl (by kernel_rfl) (by kernel_rfl) (fun _ _ _ h => h) hS (Or.inl ⟨rfl, ?ymt13x1⟩) ?rmt13x1
          case ymt13x1 =>
            intro W hW
            obtain ⟨hW0, hW1⟩ := hW
            go_simp
            try with_reducible rfl
          try simp only [Act.put, List.getElem_toArray, List.getElem_cons_succ, List.getElem_cons_zero, List.setIfInBounds_toArray, List.set_cons_zero, List.set_cons_succ]
          refine wpAnyU_take 6 (v := ?vmt14x6) rfl (by kernel_rfl) (by kernel_rfl) (fun _ _ _ h => h) hS (Or.inl ⟨rfl, ?ymt14x6⟩) ?rmt14x6
          case ymt14x6 =>
            intro W hW
            obtain ⟨hW0, hW1⟩ := hW
            go_simp
            try with_reducible rfl
          try simp only [Act.put, List.getElem_toArray, List.getElem_cons_succ, List.getElem_cons_zero, List.setIfInBounds_toArray, List.set_cons_zero, List.set_cons_succ]
          refine wpAnyU_one 2 (by kernel_rfl) rfl (fun K hK => ?_)
          refine step_call rfl 82 Tryz.f82 Tryz.func82 (by kernel_rfl) (by kernel_rfl) _ _ rfl #[.slice A items.length c] (by simp [Act.eval]) ?_
          refine (clone_ok w0 w2 _ hm2 A items.length c items hx2 (by omega)).mono ?_
          rintro e w3 ⟨A3, c3, rfl, hm3⟩
          refine ⟨_, rfl, ?_⟩
          refine hK _ _ (fun _ => ⟨hm3.cell m1 1 rfl, hm3.cell m1 3 rfl⟩) ?_
          clear hK K hS hm2 hx2
          try simp only [Act.put, List.getElem_toArray, List.getElem_cons_succ, List.getElem_cons_zero, List.setIfInBounds_toArray, List.set_cons_zero, List.set_cons_succ]
          have hS : w3.cell? ⟨gb, 1, none⟩ = some (.slice A items.length c) ∧ w3.cell? ⟨gb, 3, none⟩ = some (.int .i64 fn) := ⟨hm3.cell m1 1 rfl, hm3.cell m1 3 rfl⟩
          refine wpAnyU_take 3 (v := ?vmt15x3) rfl (by kernel_rfl) (by kernel_rfl) (fun _ _ _ h => h) hS (Or.inl ⟨rfl, ?ymt15x3⟩) ?rmt15x3
          case ymt15x3 =>
            intro W hW
            obtain ⟨hW0, hW1⟩ := hW
            go_simp
            try with_reducible rfl
          try simp only [Act.put, List.getElem_toArray, List.getElem_cons_succ, List.getElem_cons_zero, List.setIfInBounds_toArray, List.set_cons_zero, List.set_cons_succ]
          refine wpAnyU_take 7 (v := ?vmt16x7) rfl (by kernel_rfl) (by kernel_rfl) (fun _ _ _ h => h) hS (Or.inl ⟨rfl, ?ymt16x7⟩) ?rmt16x7
          case ymt16x7 =>
            intro W hW
            obtain ⟨hW0, hW1⟩ := hW
            go_simp
            try with_reducible rfl
          try simp only [Act.put, List.getElem_toArray, List.getElem_cons_succ, List.getElem_cons_zero, List.setIfInBounds_toArray, List.set_cons_zero, List.set_cons_succ]
          refine wpAnyU_take 8 (v := ?vmt17x8) rfl (by kernel_rfl) (by kernel_rfl) (fun _ _ _ h => h) hS (Or.inl ⟨rfl, ?ymt17x8⟩) ?rmt17x8
          case ymt17x8 =>
            intro W hW
            obtain ⟨hW0, hW1⟩ := hW
            go_simp
            try with_reducible rfl
          try simp only [Act.put, List.getElem_toArray, List.getElem_cons_succ, List.getElem_cons_zero, List.setIfInBounds_toArray, List.set_cons_zero, List.set_cons_succ]
          refine wpAnyU_take 9 (v := ?vmt18x9) rfl (by kernel_rfl) (by kernel_rfl) (fun _ _ _ h => h) hS (Or.inl ⟨rfl, ?ymt18x9⟩) ?rmt18x9
          case ymt18x9 =>
            intro W hW
            obtain ⟨hW0, hW1⟩ := hW
            go_simp
            try with_reducible rfl
          try simp only [Act.put, List.getElem_toArray, List.getElem_cons_succ, List.getElem_cons_zero, List.setIfInBounds_toArray, List.set_cons_zero, List.set_cons_succ]
          refine wpAnyU_take 10 (v := ?vmt19x10) rfl (by kernel_rfl) (by kernel_rfl) (fun _ _ _ h => h) hS (Or.inl ⟨rfl, ?ymt19x10⟩) ?rmt19x10
          case ymt19x10 =>
            intro W hW
            obtain ⟨hW0, hW1⟩ := hW
            go_simp
            try with_reducible rfl
          try simp only [Act.put, List.getElem_toArray, List.getElem_cons_succ, List.getElem_cons_zero, List.setIfInBounds_toArray, List.set_cons_zero, List.set_cons_succ]
          refine wpAnyU_take 11 (v := ?vmt20x11) rfl (by kernel_rfl) (by kernel_rfl) (fun _ _ _ h => h) hS (Or.inl ⟨rfl, ?ymt20x11⟩) ?rmt20x11
          case ymt20x11 =>
            intro W hW
            obtain ⟨hW0, hW1⟩ := hW
            go_simp
            try with_reducible rfl
          try simp only [Act.put, List.getElem_toArray, List.getElem_cons_succ, List.getElem_cons_zero, List.setIfInBounds_toArray, List.set_cons_zero, List.set_cons_succ]
          refine wpAnyU_take 12 (v := ?vmt21x12) rfl (by kernel_rfl) (by kernel_rfl) (fun _ _ _ h => h) hS (Or.inl ⟨rfl, ?ymt21x12⟩) ?rmt21x12
          case ymt21x12 =>
            intro W hW
            obtain ⟨hW0, hW1⟩ := hW
            go_simp
            try with_reducible rfl
          try simp only [Act.put, List.getElem_toArray, List.getElem_cons_succ, List.getElem_cons_zero, List.setIfInBounds_toArray, List.set_cons_zero, List.set_cons_succ]
          refine wpAnyU_take 13 (v := ?vmt22x13) rfl (by kernel_rfl) (by kernel_rfl) (fun _ _ _ h => h) hS (Or.inl ⟨rfl, ?ymt22x13⟩) ?rmt22x13
          case ymt22x13 =>
            intro W hW
            obtain ⟨hW0, hW1⟩ := hW
            go_simp
            try with_reducible rfl
          try simp only [Act.put, List.getElem_toArray, List.getElem_cons_succ, List.getElem_cons_zero, List.setIfInBounds_toArray, List.set_cons_zero, List.set_cons_succ]
          refine wpAnyU_take 14 (v := ?vmt23x14) rfl (by kernel_rfl) (by kernel_rfl) (fun _ _ _ h => h) hS (Or.inl ⟨rfl, ?ymt23x14⟩) ?rmt23x14
          case ymt23x14 =>
            intro W hW
            obtain ⟨hW0, hW1⟩ := hW
            go_simp
            try with_reducible rfl
          try simp only [Act.put, List.getElem_toArray, List.getElem_cons_succ, List.getElem_cons_zero, List.setIfInBounds_toArray, List.set_cons_zero, List.set_cons_succ]
          refine wpAnyU_one 4 (by kernel_rfl) rfl (fun K hK => ?_)
          go_simp
          have hm4 := hm3.alloc (.cells [.slice A3 items.length c3].toArray 145)
          generalize hg4 : w3.heap.size = g4 at hm4 ⊢
          generalize hw4 : w3.alloc (.cells [.slice A3 items.length c3].toArray 145) = w4 at hm4 ⊢
          refine hK _ _ (fun _ => ⟨hm4.cell m2 1 rfl, hm4.cell m2 3 rfl⟩) ?_
          clear hK K hS hm3 hg4 hw4
          try simp only [Act.put, List.getElem_toArray, List.getElem_cons_succ, List.getElem_cons_zero, List.setIfInBounds_toArray, List.set_cons_zero, List.set_cons_succ]
          have hS : w4.cell? ⟨gb, 1, none⟩ = some (.slice A items.length c) ∧ w4.cell? ⟨gb, 3, none⟩ = some (.int .i64 fn) := ⟨hm4.cell m2 1 rfl, hm4.cell m2 3 rfl⟩
          refine wpAnyU_take 5 (v := ?vmt24x5) rfl (by kernel_rfl) (by kernel_rfl) (fun _ _ _ h => h) hS (Or.inl ⟨rfl, ?ymt24x5⟩) ?rmt24x5
          case ymt24x5 =>
            intro W hW
            obtain ⟨hW0, hW1⟩ := hW
            go_simp
            try with_reducible rfl
          try simp only [Act.put, List.getElem_toArray, List.getElem_cons_succ, List.getElem_cons_zero, List.setIfInBounds_toArray, List.set_cons_zero, List.set_cons_succ]
          refine wpAnyU_take 15 (v := ?vmt25x15) rfl (by kernel_rfl) (by kernel_rfl) (fun _ _ _ h => h) hS (Or.inl ⟨rfl, ?ymt25x15⟩) ?rmt25x15
          case ymt25x15 =>
            intro W hW
            obtain ⟨hW0, hW1⟩ := hW
            go_simp
            try with_reducible rfl
          try simp only [Act.put, List.getElem_toArray, List.getElem_cons_succ, List.getElem_cons_zero, List.setIfInBounds_toArray, List.set_cons_zero, List.set_cons_succ]
          refine wpAnyU_one 16 (by kernel_rfl) rfl (fun K hK => ?_)
          go_simp
          refine hK _ _ (fun h => absurd h (by decide)) ?_
          clear hK K hS
          try simp only [Act.put, List.getElem_toArray, List.getElem_cons_succ, List.getElem_cons_zero, List.setIfInBounds_toArray, List.set_cons_zero, List.set_cons_succ]
          refine wpAnyU_done (by kernel_rfl) ?_ _
          go_wp2
          go_ret2
          rw [hob.out]
          refine .inl ⟨by rw [← hob.out]; exact hmb.out, mkT g4 A3 items.length c3 6 items 0 0, rfl, mkT_ok _ _ _ _ (.inl rfl) hi (fun h => rfl) (fun h => rfl), rfl, ?_⟩
          exact mkT_mem g4 A3 items.length c3 6 items 0 0 [.slice A3 items.length c3] 145 rfl rfl (hm4.sub (List.Sublist.cons_cons _ (List.Sublist.cons_cons _ (List.sublist_cons_self _ _))))
        · rw [beq_eq_false_iff_ne.2 qf] at hM
          have hmb := Fact.mk hM
          have qf' : (fn == 0) = false := beq_eq_false_iff_ne.2 qf
          clear qf hM hop
          have qk' : ((keys.length : Int) == 0) = true := beq_iff_eq.2 (by omega)
          rw [qk']
          clear qk'
          go_upto_region 5 with (fail)
          clear c0
          have hm2 := hm1.drew
          have hx2 := Fact.mk (hx1.out.gr (Gr.refl w1).drew)
          clear hm1 hx1
          have hS : w1.drew.cell? ⟨gb, 1, none⟩ = some (.slice A items.length c) ∧ w1.drew.cell? ⟨gb, 3, none⟩ = some (.int .i64 fn) := ⟨hm2.cell m0 1 rfl, hm2.cell m0 3 rfl⟩
          refine wp_region_until (S := fun W => W.cell? ⟨gb, 1, none⟩ = some (.slice A items.length c) ∧ W.cell? ⟨gb, 3, none⟩ = some (.int .i64 fn)) 16 (by kernel_rfl) ?_
          generalize w1.drew = w2 at hm2 hx2 hS ⊢
          refine wpAnyU_take 0 (v := ?vmt26x0) rfl (by kernel_rfl) (by kernel_rfl) (fun _ _ _ h => h) hS (Or.inl ⟨rfl, ?ymt26x0⟩) ?rmt26x0
          case ymt26x0 =>
            intro W hW
            obtain ⟨hW0, hW1⟩ := hW
            go_simp
            try with_reducible rfl
          try simp only [Act.put, List.getElem_toArray, List.getElem_cons_succ, List.getElem_cons_zero, List.setIfInBounds_toArray, List.set_cons_zero, List.set_cons_succ]
          refine wpAnyU_take 1 (v := ?vmt27x1) rfl (by kernel_rfl) (by kernel_rfl) (fun _ _ _ h => h) hS (Or.inl ⟨rfl, ?ymt27x1⟩) ?rmt27x1
          case ymt27x1 =>
            intro W hW
            obtain ⟨hW0, hW1⟩ := hW
            go_simp
            try with_reducible rfl
          try simp only [Act.put, List.getElem_toArray, List.getElem_cons_succ, List.getElem_cons_zero, List.setIfInBounds_toArray, List.set_cons_zero, List.set_cons_succ]
          refine wpAnyU_take 6 (v := ?vmt28x6) rfl (by kernel_rfl) (by kernel_rfl) (fun _ _ _ h => h) hS (Or.inl ⟨rfl, ?ymt28x6⟩) ?rmt28x6
          case ymt28x6 =>
            intro W hW
            obtain ⟨hW0, hW1⟩ := hW
            go_simp
            try with_reducible rfl
          try simp only [Act.put, List.getElem_toArray, List.getElem_cons_succ, List.getElem_cons_zero, List.setIfInBounds_toArray, List.set_cons_zero, List.set_cons_succ]
          refine wpAnyU_one 2 (by kernel_rfl) rfl (fun K hK => ?_)
          refine step_call rfl 82 Tryz.f82 Tryz.func82 (by kernel_rfl) (by kernel_rfl) _ _ rfl #[.slice A items.length c] (by simp [Act.eval]) ?_
          refine (clone_ok w0 w2 _ hm2 A items.length c items hx2 (by omega)).mono ?_
          rintro e w3 ⟨A3, c3, rfl, hm3⟩
          refine ⟨_, rfl, ?_⟩
          refine hK _ _ (fun _ => ⟨hm3.cell m1 1 rfl, hm3.cell m1 3 rfl⟩) ?_
          clear hK K hS hm2 hx2
          try simp only [Act.put, List.getElem_toArray, List.getElem_cons_succ, List.getElem_cons_zero, List.setIfInBounds_toArray, List.set_cons_zero, List.set_cons_succ]
          have hS : w3.cell? ⟨gb, 1, none⟩ = some (.slice A items.length c) ∧ w3.cell? ⟨gb, 3, none⟩ = some (.int .i64 fn) := ⟨hm3.cell m1 1 rfl, hm3.cell m1 3 rfl⟩
          refine wpAnyU_take 3 (v := ?vmt29x3) rfl (by kernel_rfl) (by kernel_rfl) (fun _ _ _ h => h) hS (Or.inl ⟨rfl, ?ymt29x3⟩) ?rmt29x3
          case ymt29x3 =>
            intro W hW
            obtain ⟨hW0, hW1⟩ := hW
            go_simp
            try with_reducible rfl
          try simp only [Act.put, List.getElem_toArray, List.getElem_cons_succ, List.getElem_cons_zero, List.setIfInBounds_toArray, List.set_cons_zero, List.set_cons_succ]
          refine wpAnyU_take 7 (v := ?vmt30x7) rfl (by kernel_rfl) (by kernel_rfl) (fun _ _ _ h => h) hS (Or.inl ⟨rfl, ?ymt30x7⟩) ?rmt30x7
          case ymt30x7 =>
            intro W hW
            obtain ⟨hW0, hW1⟩ := hW
            go_simp
            try with_reducible rfl
          try simp only [Act.put, List.getElem_toArray, List.getElem_cons_succ, List.getElem_cons_zero, List.setIfInBounds_toArray, List.set_cons_zero, List.set_cons_succ]
          refine wpAnyU_take 8 (v := ?vmt31x8) rfl (by kernel_rfl) (by kernel_rfl) (fun _ _ _ h => h) hS (Or.inl ⟨rfl, ?ymt31x8⟩) ?rmt31x8
          case ymt31x8 =>
            intro W hW
            obtain ⟨hW0, hW1⟩ := hW
            go_simp
            try with_reducible rfl
          try simp only [Act.put, List.getElem_toArray, List.getElem_cons_succ, List.getElem_cons_zero, List.setIfInBounds_toArray, List.set_cons_zero, List.set_cons_succ]
          refine wpAnyU_take 9 (v := ?vmt32x9) rfl (by kernel_rfl) (by kernel_rfl) (fun _ _ _ h => h) hS (Or.inl ⟨rfl, ?ymt32x9⟩) ?rmt32x9
          case ymt32x9 =>
            intro W hW
            obtain ⟨hW0, hW1⟩ := hW
            go_simp
            try with_reducible rfl
          try simp only [Act.put, List.getElem_toArray, List.getElem_cons_succ, List.getElem_cons_zero, List.setIfInBounds_toArray, List.set_cons_zero, List.set_cons_succ]
          refine wpAnyU_take 10 (v := ?vmt33x10) rfl (by kernel_rfl) (by kernel_rfl) (fun _ _ _ h => h) hS (Or.inl ⟨rfl, ?ymt33x10⟩) ?rmt33x10
          case ymt33x10 =>
            intro W hW
            obtain ⟨hW0, hW1⟩ := hW
            go_simp
            try with_reducible rfl
          try simp only [Act.put, List.getElem_toArray, List.getElem_cons_succ, List.getElem_cons_zero, List.setIfInBounds_toArray, List.set_cons_zero, List.set_cons_succ]
          refine wpAnyU_take 11 (v := ?vmt34x11) rfl (by kernel_rfl) (by kernel_rfl) (fun _ _ _ h => h) hS (Or.inl ⟨rfl, ?ymt34x11⟩) ?rmt34x11
          case ymt34x11 =>
            intro W hW
            obtain ⟨hW0, hW1⟩ := hW
            go_simp
            try with_reducible rfl
          try simp only [Act.put, List.getElem_toArray, List.getElem_cons_succ, List.getElem_cons_zero, List.setIfInBounds_toArray, List.set_cons_zero, List.set_cons_succ]
          refine wpAnyU_take 12 (v := ?vmt35x12) rfl (by kernel_rfl) (by kernel_rfl) (fun _ _ _ h => h) hS (Or.inl ⟨rfl, ?ymt35x12⟩) ?rmt35x12
          case ymt35x12 =>
            intro W hW
            obtain ⟨hW0, hW1⟩ := hW
            go_simp
            try with_reducible rfl
          try simp only [Act.put, List.getElem_toArray, List.getElem_cons_succ, List.getElem_cons_zero, List.setIfInBounds_toArray, List.set_cons_zero, List.set_cons_succ]
          refine wpAnyU_take 13 (v := ?vmt36x13) rfl (by kernel_rfl) (by kernel_rfl) (fun _ _ _ h => h) hS (Or.inl ⟨rfl, ?ymt36x13⟩) ?rmt36x13
          case ymt36x13 =>
            intro W hW
            obtain ⟨hW0, hW1⟩ := hW
            go_simp
            try with_reducible rfl
          try simp only [Act.put, List.getElem_toArray, List.getElem_cons_succ, List.getElem_cons_zero, List.setIfInBounds_toArray, List.set_cons_zero, List.set_cons_succ]
          refine wpAnyU_take 14 (v := ?vmt37x14) rfl (by kernel_rfl) (by kernel_rfl) (fun _ _ _ h => h) hS (Or.inl ⟨rfl, ?ymt37x14⟩) ?rmt37x14
          case ymt37x14 =>
            intro W hW
            obtain ⟨hW0, hW1⟩ := hW
            go_simp
            try with_reducible rfl
          try simp only [Act.put, List.getElem_toArray, List.getElem_cons_succ, List.getElem_cons_zero, List.setIfInBounds_toArray, List.set_cons_zero, List.set_cons_succ]
          refine wpAnyU_one 4 (by kernel_rfl) rfl (fun K hK => ?_)
          go_simp
          have hm4 := hm3.alloc (.cells [.slice A3 items.length c3].toArray 145)
          generalize hg4 : w3.heap.size = g4 at hm4 ⊢
          generalize hw4 : w3.alloc (.cells [.slice A3 items.length c3].toArray 145) = w4 at hm4 ⊢
          refine hK _ _ (fun _ => ⟨hm4.cell m2 1 rfl, hm4.cell m2 3 rfl⟩) ?_
          clear hK K hS hm3 hg4 hw4
          try simp only [Act.put, List.getElem_toArray, List.getElem_cons_succ, List.getElem_cons_zero, List.setIfInBounds_toArray, List.set_cons_zero, List.set_cons_succ]
          have hS : w4.cell? ⟨gb, 1, none⟩ = some (.slice A items.length c) ∧ w4.cell? ⟨gb, 3, none⟩ = some (.int .i64 fn) := ⟨hm4.cell m2 1 rfl, hm4.cell m2 3 rfl⟩
          refine wpAnyU_take 5 (v := ?vmt38x5) rfl (by kernel_rfl) (by kernel_rfl) (fun _ _ _ h => h) hS (Or.inl ⟨rfl, ?ymt38x5⟩) ?rmt38x5
          case ymt38x5 =>
            intro W hW
            obtain ⟨hW0, hW1⟩ := hW
            go_simp
            try with_reducible rfl
          try simp only [Act.put, List.getElem_toArray, List.getElem_cons_succ, List.getElem_cons_zero, List.setIfInBounds_toArray, List.set_cons_zero, List.set_cons_succ]
          refine wpAnyU_take 15 (v := ?vmt39x15) rfl (by kernel_rfl) (by kernel_rfl) (fun _ _ _ h => h) hS (Or.inl ⟨rfl, ?ymt39x15⟩) ?rmt39x15
          case ymt39x15 =>
            intro W hW
            obtain ⟨hW0, hW1⟩ := hW
            go_simp
            try with_reducible rfl
          try simp only [Act.put, List.getElem_toArray, List.getElem_cons_succ, List.getElem_cons_zero, List.setIfInBounds_toArray, List.set_cons_zero, List.set_cons_succ]
          refine wpAnyU_one 16 (by kernel_rfl) rfl (fun K hK => ?_)
          go_simp
          refine hK _ _ (fun h => absurd h (by decide)) ?_
          clear hK K hS
          try simp only [Act.put, List.getElem_toArray, List.getElem_cons_succ, List.getElem_cons_zero, List.setIfInBounds_toArray, List.set_cons_zero, List.set_cons_succ]
          refine wpAnyU_done (by kernel_rfl) ?_ _
          go_wp2
          go_ret2
          exact .inr ⟨hmb.out, _, rfl, hm4.tail.tail.tail⟩
    · rw [beq_eq_false_iff_ne.2 qk, Bool.false_and, Bool.false_and] at hM
      have hmb := Fact.mk hM
      clear hM hop
      have qk' : ((keys.length : Int) == 0) = false := beq_eq_false_iff_ne.2 (by omega)
      rw [qk']
      clear qk'
      go_upto_region 5 with (fail)
      clear c0
      have hm2 := hm1.drew
      have hx2 := Fact.mk (hx1.out.gr (Gr.refl w1).drew)
      clear hm1 hx1
      have hS : w1.drew.cell? ⟨gb, 1, none⟩ = some (.slice A items.length c) ∧ w1.drew.cell? ⟨gb, 3, none⟩ = some (.int .i64 fn) := ⟨hm2.cell m0 1 rfl, hm2.cell m0 3 rfl⟩
      refine wp_region_until (S := fun W => W.cell? ⟨gb, 1, none⟩ = some (.slice A items.length c) ∧ W.cell? ⟨gb, 3, none⟩ = some (.int .i64 fn)) 16 (by kernel_rfl) ?_
      generalize w1.drew = w2 at hm2 hx2 hS ⊢
      refine wpAnyU_take 0 (v := ?vmt40x0) rfl (by kernel_rfl) (by kernel_rfl) (fun _ _ _ h => h) hS (Or.inl ⟨rfl, ?ymt40x0⟩) ?rmt40x0
      case ymt40x0 =>
        intro W hW
        obtain ⟨hW0, hW1⟩ := hW
        go_simp
        try with_reducible rfl
      try simp only [Act.put, List.getElem_toArray, List.getElem_cons_succ, List.getElem_cons_zero, List.setIfInBounds_toArray, List.set_cons_zero, List.set_cons_succ]
      refine wpAnyU_take 1 (v := ?vmt41x1) rfl (by kernel_rfl) (by kernel_rfl) (fun _ _ _ h => h) hS (Or.inl ⟨rfl, ?ymt41x1⟩) ?rmt41x1
      case ymt41x1 =>
        intro W hW
        obtain ⟨hW0, hW1⟩ := hW
        go_simp
        try with_reducible rfl
      try simp only [Act.put, List.getElem_toArray, List.getElem_cons_succ, List.getElem_cons_zero, List.setIfInBounds_toArray, List.set_cons_zero, List.set_cons_succ]
      refine wpAnyU_take 6 (v := ?vmt42x6) rfl (by kernel_rfl) (by kernel_rfl) (fun _ _ _ h => h) hS (Or.inl ⟨rfl, ?ymt42x6⟩) ?rmt42x6
      case ymt42x6 =>
        intro W hW
        obtain ⟨hW0, hW1⟩ := hW
        go_simp
        try with_reducible rfl
      try simp only [Act.put, List.getElem_toArray, List.getElem_cons_succ, List.getElem_cons_zero, List.setIfInBounds_toArray, List.set_cons_zero, List.set_cons_succ]
      refine wpAnyU_one 2 (by kernel_rfl) rfl (fun K hK => ?_)
      refine step_call rfl 82 Tryz.f82 Tryz.func82 (by kernel_rfl) (by kernel_rfl) _ _ rfl #[.slice A items.length c] (by simp [Act.eval]) ?_
      refine (clone_ok w0 w2 _ hm2 A items.length c items hx2 (by omega)).mono ?_
      rintro e w3 ⟨A3, c3, rfl, hm3⟩
      refine ⟨_, rfl, ?_⟩
      refine hK _ _ (fun _ => ⟨hm3.cell m1 1 rfl, hm3.cell m1 3 rfl⟩) ?_
      clear hK K hS hm2 hx2
      try simp only [Act.put, List.getElem_toArray, List.getElem_cons_succ, List.getElem_cons_zero, List.setIfInBounds_toArray, List.set_cons_zero, List.set_cons_succ]
      have hS : w3.cell? ⟨gb, 1, none⟩ = some (.slice A items.length c) ∧ w3.cell? ⟨gb, 3, none⟩ = some (.int .i64 fn) := ⟨hm3.cell m1 1 rfl, hm3.cell m1 3 rfl⟩
      refine wpAnyU_take 3 (v := ?vmt43x3) rfl (by kernel_rfl) (by kernel_rfl) (fun _ _ _ h => h) hS (Or.inl ⟨rfl, ?ymt43x3⟩) ?rmt43x3
      case ymt43x3 =>
        intro W hW
        obtain ⟨hW0, hW1⟩ := hW
        go_simp
        try with_reducible rfl
      try simp only [Act.put, List.getElem_toArray, List.getElem_cons_succ, List.getElem_cons_zero, List.setIfInBounds_toArray, List.set_cons_zero, List.set_cons_succ]
      refine wpAnyU_take 7 (v := ?vmt44x7) rfl (by kernel_rfl) (by kernel_rfl) (fun _ _ _ h => h) hS (Or.inl ⟨rfl, ?ymt44x7⟩) ?rmt44x7
      case ymt44x7 =>
        intro W hW
        obtain ⟨hW0, hW1⟩ := hW
        go_simp
        try with_reducible rfl
      try simp only [Act.put, List.getElem_toArray, List.getElem_cons_succ, List.getElem_cons_zero, List.setIfInBounds_toArray, List.set_cons_zero, List.set_cons_succ]
      refine wpAnyU_take 8 (v := undef) rfl (by kernel_rfl) (by kernel_rfl) (fun _ _ _ h => h) hS (Or.inr ⟨rfl, rfl⟩) ?roff4408
      try simp only [Act.put, List.getElem_toArray, List.getElem_cons_succ, List.getElem_cons_zero, List.setIfInBounds_toArray, List.set_cons_zero, List.set_cons_succ]
      refine wpAnyU_take 9 (v := ?vmt45x9) rfl (by kernel_rfl) (by kernel_rfl) (fun _ _ _ h => h) hS (Or.inl ⟨rfl, ?ymt45x9⟩) ?rmt45x9
      case ymt45x9 =>
        intro W hW
        obtain ⟨hW0, hW1⟩ := hW
        go_simp
        try with_reducible rfl
      try simp only [Act.put, List.getElem_toArray, List.getElem_cons_succ, List.getElem_cons_zero, List.setIfInBounds_toArray, List.set_cons_zero, List.set_cons_succ]
      refine wpAnyU_take 10 (v := ?vmt46x10) rfl (by kernel_rfl) (by kernel_rfl) (fun _ _ _ h => h) hS (Or.inl ⟨rfl, ?ymt46x10⟩) ?rmt46x10
      case ymt46x10 =>
        intro W hW
        obtain ⟨hW0, hW1⟩ := hW
        go_simp
        try with_reducible rfl
      try simp only [Act.put, List.getElem_toArray, List.getElem_cons_succ, List.getElem_cons_zero, List.setIfInBounds_toArray, List.set_cons_zero, List.set_cons_succ]
      refine wpAnyU_take 11 (v := undef) rfl (by kernel_rfl) (by kernel_rfl) (fun _ _ _ h => h) hS (Or.inr ⟨rfl, rfl⟩) ?roff4611
      try simp only [Act.put, List.getElem_toArray, List.getElem_cons_succ, List.getElem_cons_zero, List.setIfInBounds_toArray, List.set_cons_zero, List.set_cons_succ]
      refine wpAnyU_take 12 (v := undef) rfl (by kernel_rfl) (by kernel_rfl) (fun _ _ _ h => h) hS (Or.inr ⟨rfl, rfl⟩) ?roff4612
      try simp only [Act.put, List.getElem_toArray, List.getElem_cons_succ, List.getElem_cons_zero, List.setIfInBounds_toArray, List.set_cons_zero, List.set_cons_succ]
      refine wpAnyU_take 13 (v := undef) rfl (by kernel_rfl) (by kernel_rfl) (fun _ _ _ h => h) hS (Or.inr ⟨rfl, rfl⟩) ?roff4613
      try simp only [Act.put, List.getElem_toArray, List.getElem_cons_succ, List.getElem_cons_zero, List.setIfInBounds_toArray, List.set_cons_zero, List.set_cons_succ]
      refine wpAnyU_take 14 (v := ?vmt47x14) rfl (by kernel_rfl) (by kernel_rfl) (fun _ _ _ h => h) hS (Or.inl ⟨rfl, ?ymt47x14⟩) ?rmt47x14
      case ymt47x14 =>
        intro W hW
        obtain ⟨hW0, hW1⟩ := hW
        go_simp
        try with_reducible rfl
      try simp only [Act.put, List.getElem_toArray, List.getElem_cons_succ, List.getElem_cons_zero, List.setIfInBounds_toArray, List.set_cons_zero, List.set_cons_succ]
      refine wpAnyU_one 4 (by kernel_rfl) rfl (fun K hK => ?_)
      go_simp
      have hm4 := hm3.alloc (.cells [.slice A3 items.length c3].toArray 145)
      generalize hg4 : w3.heap.size = g4 at hm4 ⊢
      generalize hw4 : w3.alloc (.cells [.slice A3 items.length c3].toArray 145) = w4 at hm4 ⊢
      refine hK _ _ (fun _ => ⟨hm4.cell m2 1 rfl, hm4.cell m2 3 rfl⟩) ?_
      clear hK K hS hm3 hg4 hw4
      try simp only [Act.put, List.getElem_toArray, List.getElem_cons_succ, List.getElem_cons_zero, List.setIfInBounds_toArray, List.set_cons_zero, List.set_cons_succ]
      have hS : w4.cell? ⟨gb, 1, none⟩ = some (.slice A items.length c) ∧ w4.cell? ⟨gb, 3, none⟩ = some (.int .i64 fn) := ⟨hm4.cell m2 1 rfl, hm4.cell m2 3 rfl⟩
      refine wpAnyU_take 5 (v := ?vmt48x5) rfl (by kernel_rfl) (by kernel_rfl) (fun _ _ _ h => h) hS (Or.inl ⟨rfl, ?ymt48x5⟩) ?rmt48x5
      case ymt48x5 =>
        intro W hW
        obtain ⟨hW0, hW1⟩ := hW
        go_simp
        try with_reducible rfl
      try simp only [Act.put, List.getElem_toArray, List.getElem_cons_succ, List.getElem_cons_zero, List.setIfInBounds_toArray, List.set_cons_zero, List.set_cons_succ]
      refine wpAnyU_take 15 (v := ?vmt49x15) rfl (by kernel_rfl) (by kernel_rfl) (fun _ _ _ h => h) hS (Or.inl ⟨rfl, ?ymt49x15⟩) ?rmt49x15
      case ymt49x15 =>
        intro W hW
        obtain ⟨hW0, hW1⟩ := hW
        go_simp
        try with_reducible rfl
      try simp only [Act.put, List.getElem_toArray, List.getElem_cons_succ, List.getElem_cons_zero, List.setIfInBounds_toArray, List.set_cons_zero, List.set_cons_succ]
      refine wpAnyU_one 16 (by kernel_rfl) rfl (fun K hK => ?_)
      go_simp
      refine hK _ _ (fun h => absurd h (by decide)) ?_
      clear hK K hS
      try simp only [Act.put, List.getElem_toArray, List.getElem_cons_succ, List.getElem_cons_zero, List.setIfInBounds_toArray, List.set_cons_zero, List.set_cons_succ]
      refine wpAnyU_done (by kernel_rfl) ?_ _
      go_wp2
      go_ret2
      exact .inr ⟨hmb.out, _, rfl, hm4.tail.tail.tail⟩
theorem madeB_ok (w0 w : World) (L : List Chunk) (hm : Mem w0 w L) (A : Option Addr) (c : Nat) (KA : Option Addr) (kc : Nat) (items : List V2) (keys : List Int) (fn cap : Int) (sh : Bool) (hx : Fact (RdC w 2 (.slice A items.length c) (fV items))) (hi : items.length ≤ 1048576) (hkn : keys.length ≤ 1048576) (op : Bool) (hop : op = (cap == 0 && !sh)) :
    Calls Tryz.prog 70 #[.agg (obC 8 A items.length c KA keys.length kc fn cap sh).toArray] w fun e w' => MadeQ w0 L ⟨8, items, keys, fn, cap, sh⟩ e w' := by
  have hM : madeB ⟨8, items, keys, fn, cap, sh⟩ = ((keys.length == 0) && op) := by rw [hop]; rfl
  go_enter Tryz.func70, Tryz.ntmps70
  go_upto_region 1 with (fail)
  have hm1 := hm.alloc (.cells (obC 8 A items.length c KA keys.length kc fn cap sh).toArray 59)
  have hx1 := Fact.mk (hx.out.gr ((Gr.refl w).alloc (.cells (obC 8 A items.length c KA keys.length kc fn cap sh).toArray 59)))
  generalize hgb : w.heap.size = gb at hm1 ⊢
  generalize hw1 : w.alloc (.cells (obC 8 A items.length c KA keys.length kc fn cap sh).toArray 59) = w1 at hm1 hx1
  try refine wp_world hw1 ?_
  clear hw1 hgb hx
  have c0 := hm1.cell m0 0 rfl
  have c2 := hm1.cell m0 2 rfl
  have c4 := hm1.cell m0 4 rfl
  have c5 := hm1.cell m0 5 rfl
  go_upto_region 2 with (fail)
  go_cut [5] (fun s5 W => s5 = .bool op ∧ W = w1)
  case first =>
    by_cases qc : cap = 0
    · have qc' : (cap == 0) = true := beq_iff_eq.2 qc
      rw [qc', Bool.true_and] at hop
      clear qc
      subst hop
      go_wp2
      go_meet
      case rel => exact ⟨rfl, rfl⟩
    · have qc' : (cap == 0) = false := beq_eq_false_iff_ne.2 qc
      rw [qc', Bool.false_and] at hop
      clear qc
      subst hop
      go_wp2
      go_meet
      case rel => exact ⟨rfl, rfl⟩
  case rest =>
    obtain ⟨rfl, hwc⟩ := hcut
    rw [hwc]
    clear hwc c4 c5 c2
    by_cases qk : keys.length = 0
    · rw [beq_iff_eq.2 qk, Bool.true_and] at hM
      cases op with
      | false =>
        have hmb := Fact.mk hM
        clear hM hop
        have qk' : ((keys.length : Int) == 0) = true := beq_iff_eq.2 (by omega)
        rw [qk']
        clear qk'
        go_upto_region 7 with (fail)
        clear c0
        have hm2 := hm1.drew
        have hx2 := Fact.mk (hx1.out.gr (Gr.refl w1).drew)
        clear hm1 hx1
        have hS : w1.drew.cell? ⟨gb, 1, none⟩ = some (.slice A items.length c) ∧ w1.drew.cell? ⟨gb, 3, none⟩ = some (.int .i64 fn) := ⟨hm2.cell m0 1 rfl, hm2.cell m0 3 rfl⟩
        refine wp_region_until (S := fun W => W.cell? ⟨gb, 1, none⟩ = some (.slice A items.length c) ∧ W.cell? ⟨gb, 3, none⟩ = some (.int .i64 fn)) 13 (by kernel_rfl) ?_
        generalize w1.drew = w2 at hm2 hx2 hS ⊢
        refine wpAnyU_take 0 (v := ?vmt50x0) rfl (by kernel_rfl) (by kernel_rfl) (fun _ _ _ h => h) hS (Or.inl ⟨rfl, ?ymt50x0⟩) ?rmt50x0
        case ymt50x0 =>
          intro W hW
          obtain ⟨hW0, hW1⟩ := hW
          go_simp
          try with_reducible rfl
        try simp only [Act.put, List.getElem_toArray, List.getElem_cons_succ, List.getElem_cons_zero, List.setIfInBounds_toArray, List.set_cons_zero, List.set_cons_succ]
        refine wpAnyU_take 1 (v := ?vmt51x1) rfl (by kernel_rfl) (by kernel_rfl) (fun _ _ _ h => h) hS (Or.inl ⟨rfl, ?ymt51x1⟩) ?rmt51x1
        case ymt51x1 =>
          intro W hW
          obtain ⟨hW0, hW1⟩ := hW
          go_simp
          try with_reducible rfl
        try simp only [Act.put, List.getElem_toArray, List.getElem_cons_succ, List.getElem_cons_zero, List.setIfInBounds_toArray, List.set_cons_zero, List.set_cons_succ]
        refine wpAnyU_take 2 (v := ?vmt52x2) rfl (by kernel_rfl) (by kernel_rfl) (fun _ _ _ h => h) hS (Or.inl ⟨rfl, ?ymt52x2⟩) ?rmt52x2
        case ymt52x2 =>
          intro W hW
          obtain ⟨hW0, hW1⟩ := hW
          go_simp
          try with_reducible rfl
        try simp only [Act.put, List.getElem_toArray, List.getElem_cons_succ, List.getElem_cons_zero, List.setIfInBounds_toArray, List.set_cons_zero, List.set_cons_succ]
        refine wpAnyU_take 3 (v := ?vmt53x3) rfl (by kernel_rfl) (by kernel_rfl) (fun _ _ _ h => h) hS (Or.inl ⟨rfl, ?ymt53x3⟩) ?rmt53x3
        case ymt53x3 =>
          intro W hW
          obtain ⟨hW0, hW1⟩ := hW
          go_simp
          try with_reducible rfl
        try simp only [Act.put, List.getElem_toArray, List.getElem_cons_succ, List.getElem_cons_zero, List.setIfInBounds_toArray, List.set_cons_zero, List.set_cons_succ]
        refine wpAnyU_take 8 (v := ?vmt54x8) rfl (by kernel_rfl) (by kernel_rfl) (fun _ _ _ h => h) hS (Or.inl ⟨rfl, ?ymt54x8⟩) ?rmt54x8
        case ymt54x8 =>
          intro W hW
          obtain ⟨hW0, hW1⟩ := hW
          go_simp
          try with_reducible rfl
        try simp only [Act.put, List.getElem_toArray, List.getElem_cons_succ, List.getElem_cons_zero, List.setIfInBounds_toArray, List.set_cons_zero, List.set_cons_succ]
        refine wpAnyU_one 4 (by kernel_rfl) rfl (fun K hK => ?_)
        refine step_call rfl 82 Tryz.f82 Tryz.func82 (by kernel_rfl) (by kernel_rfl) _ _ rfl #[.slice A items.length c] (by simp [Act.eval]) ?_
        refine (clone_ok w0 w2 _ hm2 A items.length c items hx2 (by omega)).mono ?_
        rintro e w3 ⟨A3, c3, rfl, hm3⟩
        refine ⟨_, rfl, ?_⟩
        refine hK _ _ (fun _ => ⟨hm3.cell m1 1 rfl, hm3.cell m1 3 rfl⟩) ?_
        clear hK K hS hm2 hx2
        try simp only [Act.put, List.getElem_toArray, List.getElem_cons_succ, List.getElem_cons_zero, List.setIfInBounds_toArray, List.set_cons_zero, List.set_cons_succ]
        have hS : w3.cell? ⟨gb, 1, none⟩ = some (.slice A items.length c) ∧ w3.cell? ⟨gb, 3, none⟩ = some (.int .i64 fn) := ⟨hm3.cell m1 1 rfl, hm3.cell m1 3 rfl⟩
        refine wpAnyU_take 5 (v := ?vmt55x5) rfl (by kernel_rfl) (by kernel_rfl) (fun _ _ _ h => h) hS (Or.inl ⟨rfl, ?ymt55x5⟩) ?rmt55x5
        case ymt55x5 =>
          intro W hW
          obtain ⟨hW0, hW1⟩ := hW
          go_simp
          try with_reducible rfl
        try simp only [Act.put, List.getElem_toArray, List.getElem_cons_succ, List.getElem_cons_zero, List.setIfInBounds_toArray, List.set_cons_zero, List.set_cons_succ]
        refine wpAnyU_take 9 (v := ?vmt56x9) rfl (by kernel_rfl) (by kernel_rfl) (fun _ _ _ h => h) hS (Or.inl ⟨rfl, ?ymt56x9⟩) ?rmt56x9
        case ymt56x9 =>
          intro W hW
          obtain ⟨hW0, hW1⟩ := hW
          go_simp
          try with_reducible rfl
        try simp only [Act.put, List.getElem_toArray, List.getElem_cons_succ, List.getElem_cons_zero, List.setIfInBounds_toArray, List.set_cons_zero, List.set_cons_succ]
        refine wpAnyU_take 10 (v := ?vmt57x10) rfl (by kernel_rfl) (by kernel_rfl) (fun _ _ _ h => h) hS (Or.inl ⟨rfl, ?ymt57x10⟩) ?rmt57x10
        case ymt57x10 =>
          intro W hW
          obtain ⟨hW0, hW1⟩ := hW
          go_simp
          try with_reducible rfl
        try simp only [Act.put, List.getElem_toArray, List.getElem_cons_succ, List.getElem_cons_zero, List.setIfInBounds_toArray, List.set_cons_zero, List.set_cons_succ]
        refine wpAnyU_take 11 (v := ?vmt58x11) rfl (by kernel_rfl) (by kernel_rfl) (fun _ _ _ h => h) hS (Or.inl ⟨rfl, ?ymt58x11⟩) ?rmt58x11
        case ymt58x11 =>
          intro W hW
          obtain ⟨hW0, hW1⟩ := hW
          go_simp
          try with_reducible rfl
        try simp only [Act.put, List.getElem_toArray, List.getElem_cons_succ, List.getElem_cons_zero, List.setIfInBounds_toArray, List.set_cons_zero, List.set_cons_succ]
        refine wpAnyU_one 6 (by kernel_rfl) rfl (fun K hK => ?_)
        go_simp
        have hm4 := hm3.alloc (.cells [.int .i64 fn, .slice A3 items.length c3].toArray 148)
        generalize hg4 : w3.heap.size = g4 at hm4 ⊢
        generalize hw4 : w3.alloc (.cells [.int .i64 fn, .slice A3 items.length c3].toArray 148) = w4 at hm4 ⊢
        refine hK _ _ (fun _ => ⟨hm4.cell m2 1 rfl, hm4.cell m2 3 rfl⟩) ?_
        clear hK K hS hm3 hg4 hw4
        try simp only [Act.put, List.getElem_toArray, List.getElem_cons_succ, List.getElem_cons_zero, List.setIfInBounds_toArray, List.set_cons_zero, List.set_cons_succ]
        have hS : w4.cell? ⟨gb, 1, none⟩ = some (.slice A items.length c) ∧ w4.cell? ⟨gb, 3, none⟩ = some (.int .i64 fn) := ⟨hm4.cell m2 1 rfl, hm4.cell m2 3 rfl⟩
        refine wpAnyU_take 7 (v := ?vmt59x7) rfl (by kernel_rfl) (by kernel_rfl) (fun _ _ _ h => h) hS (Or.inl ⟨rfl, ?ymt59x7⟩) ?rmt59x7
        case ymt59x7 =>
          intro W hW
          obtain ⟨hW0, hW1⟩ := hW
          go_simp
          try with_reducible rfl
        try simp only [Act.put, List.getElem_toArray, List.getElem_cons_succ, List.getElem_cons_zero, List.setIfInBounds_toArray, List.set_cons_zero, List.set_cons_succ]
        refine wpAnyU_take 12 (v := ?vmt60x12) rfl (by kernel_rfl) (by kernel_rfl) (fun _ _ _ h => h) hS (Or.inl ⟨rfl, ?ymt60x12⟩) ?rmt60x12
        case ymt60x12 =>
          intro W hW
          obtain ⟨hW0, hW1⟩ := hW
          go_simp
          try with_reducible rfl
        try simp only [Act.put, List.getElem_toArray, List.getElem_cons_succ, List.getElem_cons_zero, List.setIfInBounds_toArray, List.set_cons_zero, List.set_cons_succ]
        refine wpAnyU_one 13 (by kernel_rfl) rfl (fun K hK => ?_)
        go_simp
        refine hK _ _ (fun h => absurd h (by decide)) ?_
        clear hK K hS
        try simp only [Act.put, List.getElem_toArray, List.getElem_cons_succ, List.getElem_cons_zero, List.setIfInBounds_toArray, List.set_cons_zero, List.set_cons_succ]
        refine wpAnyU_done (by kernel_rfl) ?_ _
        go_wp2
        go_ret2
        exact .inr ⟨hmb.out, _, rfl, hm4.tail.tail.tail⟩
      | true =>
        have hmb := Fact.mk hM
        have hob : Fact ((⟨8, items, keys, fn, cap, sh⟩ : Ob) = ⟨8, items, [], fn, 0, false⟩) := ⟨by
          have h := hop.symm
          simp only [Bool.and_eq_true, beq_iff_eq, Bool.not_eq_true'] at h
          rw [h.1, h.2, List.eq_nil_of_length_eq_zero qk]⟩
        clear hM hop
        have qk' : ((keys.length : Int) == 0) = true := beq_iff_eq.2 (by omega)
        rw [qk']
        clear qk'
        go_upto_region 7 with (fail)
        clear c0
        have hm2 := hm1.drew
        have hx2 := Fact.mk (hx1.out.gr (Gr.refl w1).drew)
        clear hm1 hx1
        have hS : w1.drew.cell? ⟨gb, 1, none⟩ = some (.slice A items.length c) ∧ w1.drew.cell? ⟨gb, 3, none⟩ = some (.int .i64 fn) := ⟨hm2.cell m0 1 rfl, hm2.cell m0 3 rfl⟩
        refine wp_region_until (S := fun W => W.cell? ⟨gb, 1, none⟩ = some (.slice A items.length c) ∧ W.cell? ⟨gb, 3, none⟩ = some (.int .i64 fn)) 13 (by kernel_rfl) ?_
        generalize w1.drew = w2 at hm2 hx2 hS ⊢
        refine wpAnyU_take 0 (v := ?vmt61x0) rfl (by kernel_rfl) (by kernel_rfl) (fun _ _ _ h => h) hS (Or.inl ⟨rfl, ?ymt61x0⟩) ?rmt61x0
        case ymt61x0 =>
          intro W hW
          obtain ⟨hW0, hW1⟩ := hW
          go_simp
          try with_reducible rfl
        try simp only [Act.put, List.getElem_toArray, List.getElem_cons_succ, List.getElem_cons_zero, List.setIfInBounds_toArray, List.set_cons_zero, List.set_cons_succ]
        refine wpAnyU_take 1 (v := ?vmt62x1) rfl (by kernel_rfl) (by kernel_rfl) (fun _ _ _ h => h) hS (Or.inl ⟨rfl, ?ymt62x1⟩) ?rmt62x1
        case ymt62x1 =>
          intro W hW
          obtain ⟨hW0, hW1⟩ := hW
          go_simp
          try with_reducible rfl
        try simp only [Act.put, List.getElem_toArray, List.getElem_cons_succ, List.getElem_cons_zero, List.setIfInBounds_toArray, List.set_cons_zero, List.set_cons_succ]
        refine wpAnyU_take 2 (v := ?vmt63x2) rfl (by kernel_rfl) (by kernel_rfl) (fun _ _ _ h => h) hS (Or.inl ⟨rfl, ?ymt63x2⟩) ?rmt63x2
        case ymt63x2 =>
          intro W hW
          obtain ⟨hW0, hW1⟩ := hW
          go_simp
          try with_reducible rfl
        try simp only [Act.put, List.getElem_toArray, List.getElem_cons_succ, List.getElem_cons_zero, List.setIfInBounds_toArray, List.set_cons_zero, List.set_cons_succ]
        refine wpAnyU_take 3 (v := ?vmt64x3) rfl (by kernel_rfl) (by kernel_rfl) (fun _ _ _ h => h) hS (Or.inl ⟨rfl, ?ymt64x3⟩) ?rmt64x3
        case ymt64x3 =>
          intro W hW
          obtain ⟨hW0, hW1⟩ := hW
          go_simp
          try with_reducible rfl
        try simp only [Act.put, List.getElem_toArray, List.getElem_cons_succ, List.getElem_cons_zero, List.setIfInBounds_toArray, List.set_cons_zero, List.set_cons_succ]
        refine wpAnyU_take 8 (v := ?vmt65x8) rfl (by kernel_rfl) (by kernel_rfl) (fun _ _ _ h => h) hS (Or.inl ⟨rfl, ?ymt65x8⟩) ?rmt65x8
        case ymt65x8 =>
          intro W hW
          obtain ⟨hW0, hW1⟩ := hW
          go_simp
          try with_reducible rfl
        try simp only [Act.put, List.getElem_toArray, List.getElem_cons_succ, List.getElem_cons_zero, List.setIfInBounds_toArray, List.set_cons_zero, List.set_cons_succ]
        refine wpAnyU_one 4 (by kernel_rfl) rfl (fun K hK => ?_)
        refine step_call rfl 82 Tryz.f82 Tryz.func82 (by kernel_rfl) (by kernel_rfl) _ _ rfl #[.slice A items.length c] (by simp [Act.eval]) ?_
        refine (clone_ok w0 w2 _ hm2 A items.length c items hx2 (by omega)).mono ?_
        rintro e w3 ⟨A3, c3, rfl, hm3⟩
        refine ⟨_, rfl, ?_⟩
        refine hK _ _ (fun _ => ⟨hm3.cell m1 1 rfl, hm3.cell m1 3 rfl⟩) ?_
        clear hK K hS hm2 hx2
        try simp only [Act.put, List.getElem_toArray, List.getElem_cons_succ, List.getElem_cons_zero, List.setIfInBounds_toArray, List.set_cons_zero, List.set_cons_succ]
        have hS : w3.cell? ⟨gb, 1, none⟩ = some (.slice A items.length c) ∧ w3.cell? ⟨gb, 3, none⟩ = some (.int .i64 fn) := ⟨hm3.cell m1 1 rfl, hm3.cell m1 3 rfl⟩
        refine wpAnyU_take 5 (v := ?vmt66x5) rfl (by kernel_rfl) (by kernel_rfl) (fun _ _ _ h => h) hS (Or.inl ⟨rfl, ?ymt66x5⟩) ?rmt66x5
        case ymt66x5 =>
          intro W hW
          obtain ⟨hW0, hW1⟩ := hW
          go_simp
          try with_reducible rfl
        try simp only [Act.put, List.getElem_toArray, List.getElem_cons_succ, List.getElem_cons_zero, List.setIfInBounds_toArray, List.set_cons_zero, List.set_cons_succ]
        refine wpAnyU_take 9 (v := ?vmt67x9) rfl (by kernel_rfl) (by kernel_rfl) (fun _ _ _ h => h) hS (Or.inl ⟨rfl, ?ymt67x9⟩) ?rmt67x9
        case ymt67x9 =>
          intro W hW
          obtain ⟨hW0, hW1⟩ := hW
          go_simp
          try with_reducible rfl
        try simp only [Act.put, List.getElem_toArray, List.getElem_cons_succ, List.getElem_cons_zero, List.setIfInBounds_toArray, List.set_cons_zero, List.set_cons_succ]
        refine wpAnyU_take 10 (v := ?vmt68x10) rfl (by kernel_rfl) (by kernel_rfl) (fun _ _ _ h => h) hS (Or.inl ⟨rfl, ?ymt68x10⟩) ?rmt68x10
        case ymt68x10 =>
          intro W hW
          obtain ⟨hW0, hW1⟩ := hW
          go_simp
          try with_reducible rfl
        try simp only [Act.put, List.getElem_toArray, List.getElem_cons_succ, List.getElem_cons_zero, List.setIfInBounds_toArray, List.set_cons_zero, List.set_cons_succ]
        refine wpAnyU_take 11 (v := ?vmt69x11) rfl (by kernel_rfl) (by kernel_rfl) (fun _ _ _ h => h) hS (Or.inl ⟨rfl, ?ymt69x11⟩) ?rmt69x11
        case ymt69x11 =>
          intro W hW
          obtain ⟨hW0, hW1⟩ := hW
          go_simp
          try with_reducible rfl
        try simp only [Act.put, List.getElem_toArray, List.getElem_cons_succ, List.getElem_cons_zero, List.setIfInBounds_toArray, List.set_cons_zero, List.set_cons_succ]
        refine wpAnyU_one 6 (by kernel_rfl) rfl (fun K hK => ?_)
        go_simp
        have hm4 := hm3.alloc (.cells [.int .i64 fn, .slice A3 items.length c3].toArray 148)
        generalize hg4 : w3.heap.size = g4 at hm4 ⊢
        generalize hw4 : w3.alloc (.cells [.int .i64 fn, .slice A3 items.length c3].toArray 148) = w4 at hm4 ⊢
        refine hK _ _ (fun _ => ⟨hm4.cell m2 1 rfl, hm4.cell m2 3 rfl⟩) ?_
        clear hK K hS hm3 hg4 hw4
        try simp only [Act.put, List.getElem_toArray, List.getElem_cons_succ, List.getElem_cons_zero, List.setIfInBounds_toArray, List.set_cons_zero, List.set_cons_succ]
        have hS : w4.cell? ⟨gb, 1, none⟩ = some (.slice A items.length c) ∧ w4.cell? ⟨gb, 3, none⟩ = some (.int .i64 fn) := ⟨hm4.cell m2 1 rfl, hm4.cell m2 3 rfl⟩
        refine wpAnyU_take 7 (v := ?vmt70x7) rfl (by kernel_rfl) (by kernel_rfl) (fun _ _ _ h => h) hS (Or.inl ⟨rfl, ?ymt70x7⟩) ?rmt70x7
        case ymt70x7 =>
          intro W hW
          obtain ⟨hW0, hW1⟩ := hW
          go_simp
          try with_reducible rfl
        try simp only [Act.put, List.getElem_toArray, List.getElem_cons_succ, List.getElem_cons_zero, List.setIfInBounds_toArray, List.set_cons_zero, List.set_cons_succ]
        refine wpAnyU_take 12 (v := ?vmt71x12) rfl (by kernel_rfl) (by kernel_rfl) (fun _ _ _ h => h) hS (Or.inl ⟨rfl, ?ymt71x12⟩) ?rmt71x12
        case ymt71x12 =>
          intro W hW
          obtain ⟨hW0, hW1⟩ := hW
          go_simp
          try with_reducible rfl
        try simp only [Act.put, List.getElem_toArray, List.getElem_cons_succ, List.getElem_cons_zero, List.setIfInBounds_toArray, List.set_cons_zero, List.set_cons_succ]
        refine wpAnyU_one 13 (by kernel_rfl) rfl (fun K hK => ?_)
        go_simp
        refine hK _ _ (fun h => absurd h (by decide)) ?_
        clear hK K hS
        try simp only [Act.put, List.getElem_toArray, List.getElem_cons_succ, List.getElem_cons_zero, List.setIfInBounds_toArray, List.set_cons_zero, List.set_cons_succ]
        refine wpAnyU_done (by kernel_rfl) ?_ _
        go_wp2
        go_ret2
        rw [hob.out]
        refine .inl ⟨by rw [← hob.out]; exact hmb.out, mkT g4 A3 items.length c3 8 items fn 0, rfl, mkT_ok _ _ _ _ (.inr (.inr (.inl rfl))) hi (fun h => absurd rfl h) (fun h => rfl), rfl, ?_⟩
        exact mkT_mem g4 A3 items.length c3 8 items fn 0 [.int .i64 fn, .slice A3 items.length c3] 148 rfl rfl (hm4.sub (List.Sublist.cons_cons _ (List.Sublist.cons_cons _ (List.sublist_cons_self _ _))))
    · rw [beq_eq_false_iff_ne.2 qk, Bool.false_and] at hM
      have hmb := Fact.mk hM
      clear hM hop
      have qk' : ((keys.length : Int) == 0) = false := beq_eq_false_iff_ne.2 (by omega)
      rw [qk']
      clear qk'
      go_upto_region 7 with (fail)
      clear c0
      have hm2 := hm1.drew
      have hx2 := Fact.mk (hx1.out.gr (Gr.refl w1).drew)
      clear hm1 hx1
      have hS : w1.drew.cell? ⟨gb, 1, none⟩ = some (.slice A items.length c) ∧ w1.drew.cell? ⟨gb, 3, none⟩ = some (.int .i64 fn) := ⟨hm2.cell m0 1 rfl, hm2.cell m0 3 rfl⟩
      refine wp_region_until (S := fun W => W.cell? ⟨gb, 1, none⟩ = some (.slice A items.length c) ∧ W.cell? ⟨gb, 3, none⟩ = some (.int .i64 fn)) 13 (by kernel_rfl) ?_
      generalize w1.drew = w2 at hm2 hx2 hS ⊢
      refine wpAnyU_take 0 (v := ?vmt72x0) rfl (by kernel_rfl) (by kernel_rfl) (fun _ _ _ h => h) hS (Or.inl ⟨rfl, ?ymt72x0⟩) ?rmt72x0
      case ymt72x0 =>
        intro W hW
        obtain ⟨hW0, hW1⟩ := hW
        go_simp
        try with_reducible rfl
      try simp only [Act.put, List.getElem_toArray, List.getElem_cons_succ, List.getElem_cons_zero, List.setIfInBounds_toArray, List.set_cons_zero, List.set_cons_succ]
      refine wpAnyU_take 1 (v := ?vmt73x1) rfl (by kernel_rfl) (by kernel_rfl) (fun _ _ _ h => h) hS (Or.inl ⟨rfl, ?ymt73x1⟩) ?rmt73x1
      case ymt73x1 =>
        intro W hW
        obtain ⟨hW0, hW1⟩ := hW
        go_simp
        try with_reducible rfl
      try simp only [Act.put, List.getElem_toArray, List.getElem_cons_succ, List.getElem_cons_zero, List.setIfInBounds_toArray, List.set_cons_zero, List.set_cons_succ]
      refine wpAnyU_take 2 (v := ?vmt74x2) rfl (by kernel_rfl) (by kernel_rfl) (fun _ _ _ h => h) hS (Or.inl ⟨rfl, ?ymt74x2⟩) ?rmt74x2
      case ymt74x2 =>
        intro W hW
        obtain ⟨hW0, hW1⟩ := hW
        go_simp
        try with_reducible rfl
      try simp only [Act.put, List.getElem_toArray, List.getElem_cons_succ, List.getElem_cons_zero, List.setIfInBounds_toArray, List.set_cons_zero, List.set_cons_succ]
      refine wpAnyU_take 3 (v := ?vmt75x3) rfl (by kernel_rfl) (by kernel_rfl) (fun _ _ _ h => h) hS (Or.inl ⟨rfl, ?ymt75x3⟩) ?rmt75x3
      case ymt75x3 =>
        intro W hW
        obtain ⟨hW0, hW1⟩ := hW
        go_simp
        try with_reducible rfl
      try simp only [Act.put, List.getElem_toArray, List.getElem_cons_succ, List.getElem_cons_zero, List.setIfInBounds_toArray, List.set_cons_zero, List.set_cons_succ]
      refine wpAnyU_take 8 (v := ?vmt76x8) rfl (by kernel_rfl) (by kernel_rfl) (fun _ _ _ h => h) hS (Or.inl ⟨rfl, ?ymt76x8⟩) ?rmt76x8
      case ymt76x8 =>
        intro W hW
        obtain ⟨hW0, hW1⟩ := hW
        go_simp
        try with_reducible rfl
      try simp only [Act.put, List.getElem_toArray, List.getElem_cons_succ, List.getElem_cons_zero, List.setIfInBounds_toArray, List.set_cons_zero, List.set_cons_succ]
      refine wpAnyU_one 4 (by kernel_rfl) rfl (fun K hK => ?_)
      refine step_call rfl 82 Tryz.f82 Tryz.func82 (by kernel_rfl) (by kernel_rfl) _ _ rfl #[.slice A items.length c] (by simp [Act.eval]) ?_
      refine (clone_ok w0 w2 _ hm2 A items.length c items hx2 (by omega)).mono ?_
      rintro e w3 ⟨A3, c3, rfl, hm3⟩
      refine ⟨_, rfl, ?_⟩
      refine hK _ _ (fun _ => ⟨hm3.cell m1 1 rfl, hm3.cell m1 3 rfl⟩) ?_
      clear hK K hS hm2 hx2
      try simp only [Act.put, List.getElem_toArray, List.getElem_cons_succ, List.getElem_cons_zero, List.setIfInBounds_toArray, List.set_cons_zero, List.set_cons_succ]
      have hS : w3.cell? ⟨gb, 1, none⟩ = some (.slice A items.length c) ∧ w3.cell? ⟨gb, 3, none⟩ = some (.int .i64 fn) := ⟨hm3.cell m1 1 rfl, hm3.cell m1 3 rfl⟩
      refine wpAnyU_take 5 (v := ?vmt77x5) rfl (by kernel_rfl) (by kernel_rfl) (fun _ _ _ h => h) hS (Or.inl ⟨rfl, ?ymt77x5⟩) ?rmt77x5
      case ymt77x5 =>
        intro W hW
        obtain ⟨hW0, hW1⟩ := hW
        go_simp
        try with_reducible rfl
      try simp only [Act.put, List.getElem_toArray, List.getElem_cons_succ, List.getElem_cons_zero, List.setIfInBounds_toArray, List.set_cons_zero, List.set_cons_succ]
      refine wpAnyU_take 9 (v := ?vmt78x9) rfl (by kernel_rfl) (by kernel_rfl) (fun _ _ _ h => h) hS (Or.inl ⟨rfl, ?ymt78x9⟩) ?rmt78x9
      case ymt78x9 =>
        intro W hW
        obtain ⟨hW0, hW1⟩ := hW
        go_simp
        try with_reducible rfl
      try simp only [Act.put, List.getElem_toArray, List.getElem_cons_succ, List.getElem_cons_zero, List.setIfInBounds_toArray, List.set_cons_zero, List.set_cons_succ]
      refine wpAnyU_take 10 (v := undef) rfl (by kernel_rfl) (by kernel_rfl) (fun _ _ _ h => h) hS (Or.inr ⟨rfl, rfl⟩) ?roff7810
      try simp only [Act.put, List.getElem_toArray, List.getElem_cons_succ, List.getElem_cons_zero, List.setIfInBounds_toArray, List.set_cons_zero, List.set_cons_succ]
      refine wpAnyU_take 11 (v := ?vmt79x11) rfl (by kernel_rfl) (by kernel_rfl) (fun _ _ _ h => h) hS (Or.inl ⟨rfl, ?ymt79x11⟩) ?rmt79x11
      case ymt79x11 =>
        intro W hW
        obtain ⟨hW0, hW1⟩ := hW
        go_simp
        try with_reducible rfl
      try simp only [Act.put, List.getElem_toArray, List.getElem_cons_succ, List.getElem_cons_zero, List.setIfInBounds_toArray, List.set_cons_zero, List.set_cons_succ]
      refine wpAnyU_one 6 (by kernel_rfl) rfl (fun K hK => ?_)
      go_simp
      have hm4 := hm3.alloc (.cells [.int .i64 fn, .slice A3 items.length c3].toArray 148)
      generalize hg4 : w3.heap.size = g4 at hm4 ⊢
      generalize hw4 : w3.alloc (.cells [.int .i64 fn, .slice A3 items.length c3].toArray 148) = w4 at hm4 ⊢
      refine hK _ _ (fun _ => ⟨hm4.cell m2 1 rfl, hm4.cell m2 3 rfl⟩) ?_
      clear hK K hS hm3 hg4 hw4
      try simp only [Act.put, List.getElem_toArray, List.getElem_cons_succ, List.getElem_cons_zero, List.setIfInBounds_toArray, List.set_cons_zero, List.set_cons_succ]
      have hS : w4.cell? ⟨gb, 1, none⟩ = some (.slice A items.length c) ∧ w4.cell? ⟨gb, 3, none⟩ = some (.int .i64 fn) := ⟨hm4.cell m2 1 rfl, hm4.cell m2 3 rfl⟩
      refine wpAnyU_take 7 (v := ?vmt80x7) rfl (by kernel_rfl) (by kernel_rfl) (fun _ _ _ h => h) hS (Or.inl ⟨rfl, ?ymt80x7⟩) ?rmt80x7
      case ymt80x7 =>
        intro W hW
        obtain ⟨hW0, hW1⟩ := hW
        go_simp
        try with_reducible rfl
      try simp only [Act.put, List.getElem_toArray, List.getElem_cons_succ, List.getElem_cons_zero, List.setIfInBounds_toArray, List.set_cons_zero, List.set_cons_succ]
      refine wpAnyU_take 12 (v := ?vmt81x12) rfl (by kernel_rfl) (by kernel_rfl) (fun _ _ _ h => h) hS (Or.inl ⟨rfl, ?ymt81x12⟩) ?rmt81x12
      case ymt81x12 =>
        intro W hW
        obtain ⟨hW0, hW1⟩ := hW
        go_simp
        try with_reducible rfl
      try simp only [Act.put, List.getElem_toArray, List.getElem_cons_succ, List.getElem_cons_zero, List.setIfInBounds_toArray, List.set_cons_zero, List.set_cons_succ]
      refine wpAnyU_one 13 (by kernel_rfl) rfl (fun K hK => ?_)
      go_simp
      refine hK _ _ (fun h => absurd h (by decide)) ?_
      clear hK K hS
      try simp only [Act.put, List.getElem_toArray, List.getElem_cons_succ, List.getElem_cons_zero, List.setIfInBounds_toArray, List.set_cons_zero, List.set_cons_succ]
      refine wpAnyU_done (by kernel_rfl) ?_ _
      go_wp2
      go_ret2
      exact .inr ⟨hmb.out, _, rfl, hm4.tail.tail.tail⟩
theorem chanT_mem {w0 w : World} {M : List Chunk} (g : Nat) (A : Option Addr) (n c : Nat) (items : List V2) (cap : Int) (sh : Bool)
    (hm : Mem w0 w (Blk g (.cells [.int .i64 cap, .slice A n c, .bool sh].toArray 151) :: Own 2 (.slice A n c) (fV items) :: M)) : Mem w0 w (ThC ⟨g, A, n, c, none, 0, 0, none, ⟨9, items, [], 0, cap, sh⟩⟩ :: M) := by
  have h1 := (Mem.mapnil hm).nil 1 none
  have h2 : Mem w0 w (Th.chunks ⟨g, A, n, c, none, 0, 0, none, ⟨9, items, [], 0, cap, sh⟩⟩ ++ M) := by
    refine h1.perm ?_
    exact (List.perm_append_comm (l₁ := [Own 1 (.slice none 0 0) (nums .i64 []), MapC none []]) (l₂ := [Blk g (.cells [.int .i64 cap, .slice A n c, .bool sh].toArray 151), Own 2 (.slice A n c) (fV items)])).append_right M
  exact Mem.sht _ h2
theorem madeC_ok (w0 w : World) (L : List Chunk) (hm : Mem w0 w L) (A : Option Addr) (c : Nat) (KA : Option Addr) (kc : Nat) (items : List V2) (keys : List Int) (fn cap : Int) (sh : Bool) (hx : Fact (RdC w 2 (.slice A items.length c) (fV items))) (hi : items.length ≤ 1048576) (hkn : keys.length ≤ 1048576) (op : Bool) (hop : op = (cap == 0 && !sh)) :
    Calls Tryz.prog 70 #[.agg (obC 9 A items.length c KA keys.length kc fn cap sh).toArray] w fun e w' => MadeQ w0 L ⟨9, items, keys, fn, cap, sh⟩ e w' := by
  have hM : madeB ⟨9, items, keys, fn, cap, sh⟩ = ((keys.length == 0) && (fn == 0)) := rfl
  go_enter Tryz.func70, Tryz.ntmps70
  go_upto_region 1 with (fail)
  have hm1 := hm.alloc (.cells (obC 9 A items.length c KA keys.length kc fn cap sh).toArray 59)
  have hx1 := Fact.mk (hx.out.gr ((Gr.refl w).alloc (.cells (obC 9 A items.length c KA keys.length kc fn cap sh).toArray 59)))
  generalize hgb : w.heap.size = gb at hm1 ⊢
  generalize hw1 : w.alloc (.cells (obC 9 A items.length c KA keys.length kc fn cap sh).toArray 59) = w1 at hm1 hx1
  try refine wp_world hw1 ?_
  clear hw1 hgb hx
  have c0 := hm1.cell m0 0 rfl
  have c2 := hm1.cell m0 2 rfl
  have c4 := hm1.cell m0 4 rfl
  have c5 := hm1.cell m0 5 rfl
  go_upto_region 2 with (fail)
  go_cut [5] (fun s5 W => s5 = .bool op ∧ W = w1)
  case first =>
    by_cases qc : cap = 0
    · have qc' : (cap == 0) = true := beq_iff_eq.2 qc
      rw [qc', Bool.true_and] at hop
      clear qc
      subst hop
      go_wp2
      go_meet
      case rel => exact ⟨rfl, rfl⟩
    · have qc' : (cap == 0) = false := beq_eq_false_iff_ne.2 qc
      rw [qc', Bool.false_and] at hop
      clear qc
      subst hop
      go_wp2
      go_meet
      case rel => exact ⟨rfl, rfl⟩
  case rest =>
    obtain ⟨rfl, hwc⟩ := hcut
    rw [hwc]
    clear hwc c4 c5 c2
    clear hop
    by_cases qk : keys.length = 0
    · rw [beq_iff_eq.2 qk, Bool.true_and] at hM
      by_cases qf : fn = 0
      · rw [beq_iff_eq.2 qf] at hM
        have hmb := Fact.mk hM
        have hob : Fact ((⟨9, items, keys, fn, cap, sh⟩ : Ob) = ⟨9, items, [], 0, cap, sh⟩) := ⟨by rw [qf, List.eq_nil_of_length_eq_zero qk]⟩
        have qf' : (fn == 0) = true := beq_iff_eq.2 qf
        clear qf hM
        have qk' : ((keys.length : Int) == 0) = true := beq_iff_eq.2 (by omega)
        rw [qk']
        clear qk'
        go_upto_region 9 with (fail)
        clear c0
        have hm2 := hm1.drew
        have hx2 := Fact.mk (hx1.out.gr (Gr.refl w1).drew)
        clear hm1 hx1
        have hS : w1.drew.cell? ⟨gb, 1, none⟩ = some (.slice A items.length c) ∧ w1.drew.cell? ⟨gb, 3, none⟩ = some (.int .i64 fn) ∧ w1.drew.cell? ⟨gb, 4, none⟩ = some (.int .i64 cap) ∧ w1.drew.cell? ⟨gb, 5, none⟩ = some (.bool sh) := ⟨hm2.cell m0 1 rfl, hm2.cell m0 3 rfl, hm2.cell m0 4 rfl, hm2.cell m0 5 rfl⟩
        refine wp_region_until (S := fun W => W.cell? ⟨gb, 1, none⟩ = some (.slice A items.length c) ∧ W.cell? ⟨gb, 3, none⟩ = some (.int .i64 fn) ∧ W.cell? ⟨gb, 4, none⟩ = some (.int .i64 cap) ∧ W.cell? ⟨gb, 5, none⟩ = some (.bool sh)) 17 (by kernel_rfl) ?_
        generalize w1.drew = w2 at hm2 hx2 hS ⊢
        refine wpAnyU_take 0 (v := ?vmt82x0) rfl (by kernel_rfl) (by kernel_rfl) (fun _ _ _ h => h) hS (Or.inl ⟨rfl, ?ymt82x0⟩) ?rmt82x0
        case ymt82x0 =>
          intro W hW
          obtain ⟨hW0, hW1, hW2, hW3⟩ := hW
          go_simp
          try with_reducible rfl
        try simp only [Act.put, List.getElem_toArray, List.getElem_cons_succ, List.getElem_cons_zero, List.setIfInBounds_toArray, List.set_cons_zero, List.set_cons_succ]
        refine wpAnyU_take 1 (v := ?vmt83x1) rfl (by kernel_rfl) (by kernel_rfl) (fun _ _ _ h => h) hS (Or.inl ⟨rfl, ?ymt83x1⟩) ?rmt83x1
        case ymt83x1 =>
          intro W hW
          obtain ⟨hW0, hW1, hW2, hW3⟩ := hW
          go_simp
          try with_reducible rfl
        try simp only [Act.put, List.getElem_toArray, List.getElem_cons_succ, List.getElem_cons_zero, List.setIfInBounds_toArray, List.set_cons_zero, List.set_cons_succ]
        refine wpAnyU_take 2 (v := ?vmt84x2) rfl (by kernel_rfl) (by kernel_rfl) (fun _ _ _ h => h) hS (Or.inl ⟨rfl, ?ymt84x2⟩) ?rmt84x2
        case ymt84x2 =>
          intro W hW
          obtain ⟨hW0, hW1, hW2, hW3⟩ := hW
          go_simp
          try with_reducible rfl
        try simp only [Act.put, List.getElem_toArray, List.getElem_cons_succ, List.getElem_cons_zero, List.setIfInBounds_toArray, List.set_cons_zero, List.set_cons_succ]
        refine wpAnyU_take 3 (v := ?vmt85x3) rfl (by kernel_rfl) (by kernel_rfl) (fun _ _ _ h => h) hS (Or.inl ⟨rfl, ?ymt85x3⟩) ?rmt85x3
        case ymt85x3 =>
          intro W hW
          obtain ⟨hW0, hW1, hW2, hW3⟩ := hW
          go_simp
          try with_reducible rfl
        try simp only [Act.put, List.getElem_toArray, List.getElem_cons_succ, List.getElem_cons_zero, List.setIfInBounds_toArray, List.set_cons_zero, List.set_cons_succ]
        refine wpAnyU_take 5 (v := ?vmt86x5) rfl (by kernel_rfl) (by kernel_rfl) (fun _ _ _ h => h) hS (Or.inl ⟨rfl, ?ymt86x5⟩) ?rmt86x5
        case ymt86x5 =>
          intro W hW
          obtain ⟨hW0, hW1, hW2, hW3⟩ := hW
          go_simp
          try with_reducible rfl
        try simp only [Act.put, List.getElem_toArray, List.getElem_cons_succ, List.getElem_cons_zero, List.setIfInBounds_toArray, List.set_cons_zero, List.set_cons_succ]
        refine wpAnyU_take 6 (v := ?vmt87x6) rfl (by kernel_rfl) (by kernel_rfl) (fun _ _ _ h => h) hS (Or.inl ⟨rfl, ?ymt87x6⟩) ?rmt87x6
        case ymt87x6 =>
          intro W hW
          obtain ⟨hW0, hW1, hW2, hW3⟩ := hW
          go_simp
          try with_reducible rfl
        try simp only [Act.put, List.getElem_toArray, List.getElem_cons_succ, List.getElem_cons_zero, List.setIfInBounds_toArray, List.set_cons_zero, List.set_cons_succ]
        refine wpAnyU_take 10 (v := ?vmt88x10) rfl (by kernel_rfl) (by kernel_rfl) (fun _ _ _ h => h) hS (Or.inl ⟨rfl, ?ymt88x10⟩) ?rmt88x10
        case ymt88x10 =>
          intro W hW
          obtain ⟨hW0, hW1, hW2, hW3⟩ := hW
          go_simp
          try with_reducible rfl
        try simp only [Act.put, List.getElem_toArray, List.getElem_cons_succ, List.getElem_cons_zero, List.setIfInBounds_toArray, List.set_cons_zero, List.set_cons_succ]
        refine wpAnyU_one 4 (by kernel_rfl) rfl (fun K hK => ?_)
        refine step_call rfl 82 Tryz.f82 Tryz.func82 (by kernel_rfl) (by kernel_rfl) _ _ rfl #[.slice A items.length c] (by simp [Act.eval]) ?_
        refine (clone_ok w0 w2 _ hm2 A items.length c items hx2 (by omega)).mono ?_
        rintro e w3 ⟨A3, c3, rfl, hm3⟩
        refine ⟨_, rfl, ?_⟩
        refine hK _ _ (fun _ => ⟨hm3.cell m1 1 rfl, hm3.cell m1 3 rfl, hm3.cell m1 4 rfl, hm3.cell m1 5 rfl⟩) ?_
        clear hK K hS hm2 hx2
        try simp only [Act.put, List.getElem_toArray, List.getElem_cons_succ, List.getElem_cons_zero, List.setIfInBounds_toArray, List.set_cons_zero, List.set_cons_succ]
        have hS : w3.cell? ⟨gb, 1, none⟩ = some (.slice A items.length c) ∧ w3.cell? ⟨gb, 3, none⟩ = some (.int .i64 fn) ∧ w3.cell? ⟨gb, 4, none⟩ = some (.int .i64 cap) ∧ w3.cell? ⟨gb, 5, none⟩ = some (.bool sh) := ⟨hm3.cell m1 1 rfl, hm3.cell m1 3 rfl, hm3.cell m1 4 rfl, hm3.cell m1 5 rfl⟩
        refine wpAnyU_take 7 (v := ?vmt89x7) rfl (by kernel_rfl) (by kernel_rfl) (fun _ _ _ h => h) hS (Or.inl ⟨rfl, ?ymt89x7⟩) ?rmt89x7
        case ymt89x7 =>
          intro W hW
          obtain ⟨hW0, hW1, hW2, hW3⟩ := hW
          go_simp
          try with_reducible rfl
        try simp only [Act.put, List.getElem_toArray, List.getElem_cons_succ, List.getElem_cons_zero, List.setIfInBounds_toArray, List.set_cons_zero, List.set_cons_succ]
        refine wpAnyU_take 11 (v := ?vmt90x11) rfl (by kernel_rfl) (by kernel_rfl) (fun _ _ _ h => h) hS (Or.inl ⟨rfl, ?ymt90x11⟩) ?rmt90x11
        case ymt90x11 =>
          intro W hW
          obtain ⟨hW0, hW1, hW2, hW3⟩ := hW
          go_simp
          try with_reducible rfl
        try simp only [Act.put, List.getElem_toArray, List.getElem_cons_succ, List.getElem_cons_zero, List.setIfInBounds_toArray, List.set_cons_zero, List.set_cons_succ]
        refine wpAnyU_take 12 (v := ?vmt91x12) rfl (by kernel_rfl) (by kernel_rfl) (fun _ _ _ h => h) hS (Or.inl ⟨rfl, ?ymt91x12⟩) ?rmt91x12
        case ymt91x12 =>
          intro W hW
          obtain ⟨hW0, hW1, hW2, hW3⟩ := hW
          go_simp
          try with_reducible rfl
        try simp only [Act.put, List.getElem_toArray, List.getElem_cons_succ, List.getElem_cons_zero, List.setIfInBounds_toArray, List.set_cons_zero, List.set_cons_succ]
        refine wpAnyU_take 13 (v := ?vmt92x13) rfl (by kernel_rfl) (by kernel_rfl) (fun _ _ _ h => h) hS (Or.inl ⟨rfl, ?ymt92x13⟩) ?rmt92x13
        case ymt92x13 =>
          intro W hW
          obtain ⟨hW0, hW1, hW2, hW3⟩ := hW
          go_simp
          try with_reducible rfl
        try simp only [Act.put, List.getElem_toArray, List.getElem_cons_succ, List.getElem_cons_zero, List.setIfInBounds_toArray, List.set_cons_zero, List.set_cons_succ]
        refine wpAnyU_take 14 (v := ?vmt93x14) rfl (by kernel_rfl) (by kernel_rfl) (fun _ _ _ h => h) hS (Or.inl ⟨rfl, ?ymt93x14⟩) ?rmt93x14
        case ymt93x14 =>
          intro W hW
          obtain ⟨hW0, hW1, hW2, hW3⟩ := hW
          go_simp
          try with_reducible rfl
        try simp only [Act.put, List.getElem_toArray, List.getElem_cons_succ, List.getElem_cons_zero, List.setIfInBounds_toArray, List.set_cons_zero, List.set_cons_succ]
        refine wpAnyU_take 15 (v := ?vmt94x15) rfl (by kernel_rfl) (by kernel_rfl) (fun _ _ _ h => h) hS (Or.inl ⟨rfl, ?ymt94x15⟩) ?rmt94x15
        case ymt94x15 =>
          intro W hW
          obtain ⟨hW0, hW1, hW2, hW3⟩ := hW
          go_simp
          try with_reducible rfl
        try simp only [Act.put, List.getElem_toArray, List.getElem_cons_succ, List.getElem_cons_zero, List.setIfInBounds_toArray, List.set_cons_zero, List.set_cons_succ]
        refine wpAnyU_one 8 (by kernel_rfl) rfl (fun K hK => ?_)
        go_simp
        have hm4 := hm3.alloc (.cells [.int .i64 cap, .slice A3 items.length c3, .bool sh].toArray 151)
        generalize hg4 : w3.heap.size = g4 at hm4 ⊢
        generalize hw4 : w3.alloc (.cells [.int .i64 cap, .slice A3 items.length c3, .bool sh].toArray 151) = w4 at hm4 ⊢
        refine hK _ _ (fun _ => ⟨hm4.cell m2 1 rfl, hm4.cell m2 3 rfl, hm4.cell m2 4 rfl, hm4.cell m2 5 rfl⟩) ?_
        clear hK K hS hm3 hg4 hw4
        try simp only [Act.put, List.getElem_toArray, List.getElem_cons_succ, List.getElem_cons_zero, List.setIfInBounds_toArray, List.set_cons_zero, List.set_cons_succ]
        have hS : w4.cell? ⟨gb, 1, none⟩ = some (.slice A items.length c) ∧ w4.cell? ⟨gb, 3, none⟩ = some (.int .i64 fn) ∧ w4.cell? ⟨gb, 4, none⟩ = some (.int .i64 cap) ∧ w4.cell? ⟨gb, 5, none⟩ = some (.bool sh) := ⟨hm4.cell m2 1 rfl, hm4.cell m2 3 rfl, hm4.cell m2 4 rfl, hm4.cell m2 5 rfl⟩
        refine wpAnyU_take 9 (v := ?vmt95x9) rfl (by kernel_rfl) (by kernel_rfl) (fun _ _ _ h => h) hS (Or.inl ⟨rfl, ?ymt95x9⟩) ?rmt95x9
        case ymt95x9 =>
          intro W hW
          obtain ⟨hW0, hW1, hW2, hW3⟩ := hW
          go_simp
          try with_reducible rfl
        try simp only [Act.put, List.getElem_toArray, List.getElem_cons_succ, List.getElem_cons_zero, List.setIfInBounds_toArray, List.set_cons_zero, List.set_cons_succ]
        refine wpAnyU_take 16 (v := ?vmt96x16) rfl (by kernel_rfl) (by kernel_rfl) (fun _ _ _ h => h) hS (Or.inl ⟨rfl, ?ymt96x16⟩) ?rmt96x16
        case ymt96x16 =>
          intro W hW
          obtain ⟨hW0, hW1, hW2, hW3⟩ := hW
          go_simp
          try with_reducible rfl
        try simp only [Act.put, List.getElem_toArray, List.getElem_cons_succ, List.getElem_cons_zero, List.setIfInBounds_toArray, List.set_cons_zero, List.set_cons_succ]
        refine wpAnyU_one 17 (by kernel_rfl) rfl (fun K hK => ?_)
        go_simp
        refine hK _ _ (fun h => absurd h (by decide)) ?_
        clear hK K hS
        try simp only [Act.put, List.getElem_toArray, List.getElem_cons_succ, List.getElem_cons_zero, List.setIfInBounds_toArray, List.set_cons_zero, List.set_cons_succ]
        refine wpAnyU_done (by kernel_rfl) ?_ _
        go_wp2
        go_ret2
        rw [hob.out]
        refine .inl ⟨by rw [← hob.out]; exact hmb.out, ⟨g4, A3, items.length, c3, none, 0, 0, none, ⟨9, items, [], 0, cap, sh⟩⟩, rfl, ⟨.inr (.inr (.inr rfl)), hi, fun h => absurd (show (9 : Int) = 7 from h) (by decide), fun _ => rfl, List.nodup_nil, fun k hk => (nomatch hk), fun _ => rfl, fun h => absurd rfl h⟩, rfl, ?_⟩
        exact chanT_mem g4 A3 items.length c3 items cap sh (hm4.sub (List.Sublist.cons_cons _ (List.Sublist.cons_cons _ (List.sublist_cons_self _ _))))
      · rw [beq_eq_false_iff_ne.2 qf] at hM
        have hmb := Fact.mk hM
        have qf' : (fn == 0) = false := beq_eq_false_iff_ne.2 qf
        clear qf hM
        have qk' : ((keys.length : Int) == 0) = true := beq_iff_eq.2 (by omega)
        rw [qk']
        clear qk'
        go_upto_region 9 with (fail)
        clear c0
        have hm2 := hm1.drew
        have hx2 := Fact.mk (hx1.out.gr (Gr.refl w1).drew)
        clear hm1 hx1
        have hS : w1.drew.cell? ⟨gb, 1, none⟩ = some (.slice A items.length c) ∧ w1.drew.cell? ⟨gb, 3, none⟩ = some (.int .i64 fn) ∧ w1.drew.cell? ⟨gb, 4, none⟩ = some (.int .i64 cap) ∧ w1.drew.cell? ⟨gb, 5, none⟩ = some (.bool sh) := ⟨hm2.cell m0 1 rfl, hm2.cell m0 3 rfl, hm2.cell m0 4 rfl, hm2.cell m0 5 rfl⟩
        refine wp_region_until (S := fun W => W.cell? ⟨gb, 1, none⟩ = some (.slice A items.length c) ∧ W.cell? ⟨gb, 3, none⟩ = some (.int .i64 fn) ∧ W.cell? ⟨gb, 4, none⟩ = some (.int .i64 cap) ∧ W.cell? ⟨gb, 5, none⟩ = some (.bool sh)) 17 (by kernel_rfl) ?_
        generalize w1.drew = w2 at hm2 hx2 hS ⊢
        refine wpAnyU_take 0 (v := ?vmt97x0) rfl (by kernel_rfl) (by kernel_rfl) (fun _ _ _ h => h) hS (Or.inl ⟨rfl, ?ymt97x0⟩) ?rmt97x0
        case ymt97x0 =>
          intro W hW
          obtain ⟨hW0, hW1, hW2, hW3⟩ := hW
          go_simp
          try with_reducible rfl
        try simp only [Act.put, List.getElem_toArray, List.getElem_cons_succ, List.getElem_cons_zero, List.setIfInBounds_toArray, List.set_cons_zero, List.set_cons_succ]
        refine wpAnyU_take 1 (v := ?vmt98x1) rfl (by kernel_rfl) (by kernel_rfl) (fun _ _ _ h => h) hS (Or.inl ⟨rfl, ?ymt98x1⟩) ?rmt98x1
        case ymt98x1 =>
          intro W hW
          obtain ⟨hW0, hW1, hW2, hW3⟩ := hW
          go_simp
          try with_reducible rfl
        try simp only [Act.put, List.getElem_toArray, List.getElem_cons_succ, List.getElem_cons_zero, List.setIfInBounds_toArray, List.set_cons_zero, List.set_cons_succ]
        refine wpAnyU_take 2 (v := ?vmt99x2) rfl (by kernel_rfl) (by kernel_rfl) (fun _ _ _ h => h) hS (Or.inl ⟨rfl, ?ymt99x2⟩) ?rmt99x2
        case ymt99x2 =>
          intro W hW
          obtain ⟨hW0, hW1, hW2, hW3⟩ := hW
          go_simp
          try with_reducible rfl
        try simp only [Act.put, List.getElem_toArray, List.getElem_cons_succ, List.getElem_cons_zero, List.setIfInBounds_toArray, List.set_cons_zero, List.set_cons_succ]
        refine wpAnyU_take 3 (v := ?vmt100x3) rfl (by kernel_rfl) (by kernel_rfl) (fun _ _ _ h => h) hS (Or.inl ⟨rfl, ?ymt100x3⟩) ?rmt100x3
        case ymt100x3 =>
          intro W hW
          obtain ⟨hW0, hW1, hW2, hW3⟩ := hW
          go_simp
          try with_reducible rfl
        try simp only [Act.put, List.getElem_toArray, List.getElem_cons_succ, List.getElem_cons_zero, List.setIfInBounds_toArray, List.set_cons_zero, List.set_cons_succ]
        refine wpAnyU_take 5 (v := ?vmt101x5) rfl (by kernel_rfl) (by kernel_rfl) (fun _ _ _ h => h) hS (Or.inl ⟨rfl, ?ymt101x5⟩) ?rmt101x5
        case ymt101x5 =>
          intro W hW
          obtain ⟨hW0, hW1, hW2, hW3⟩ := hW
          go_simp
          try with_reducible rfl
        try simp only [Act.put, List.getElem_toArray, List.getElem_cons_succ, List.getElem_cons_zero, List.setIfInBounds_toArray, List.set_cons_zero, List.set_cons_succ]
        refine wpAnyU_take 6 (v := ?vmt102x6) rfl (by kernel_rfl) (by kernel_rfl) (fun _ _ _ h => h) hS (Or.inl ⟨rfl, ?ymt102x6⟩) ?rmt102x6
        case ymt102x6 =>
          intro W hW
          obtain ⟨hW0, hW1, hW2, hW3⟩ := hW
          go_simp
          try with_reducible rfl
        try simp only [Act.put, List.getElem_toArray, List.getElem_cons_succ, List.getElem_cons_zero, List.setIfInBounds_toArray, List.set_cons_zero, List.set_cons_succ]
        refine wpAnyU_take 10 (v := ?vmt103x10) rfl (by kernel_rfl) (by kernel_rfl) (fun _ _ _ h => h) hS (Or.inl ⟨rfl, ?ymt103x10⟩) ?rmt103x10
        case ymt103x10 =>
          intro W hW
          obtain ⟨hW0, hW1, hW2, hW3⟩ := hW
          go_simp
          try with_reducible rfl
        try simp only [Act.put, List.getElem_toArray, List.getElem_cons_succ, List.getElem_cons_zero, List.setIfInBounds_toArray, List.set_cons_zero, List.set_cons_succ]
        refine wpAnyU_one 4 (by kernel_rfl) rfl (fun K hK => ?_)
        refine step_call rfl 82 Tryz.f82 Tryz.func82 (by kernel_rfl) (by kernel_rfl) _ _ rfl #[.slice A items.length c] (by simp [Act.eval]) ?_
        refine (clone_ok w0 w2 _ hm2 A items.length c items hx2 (by omega)).mono ?_
        rintro e w3 ⟨A3, c3, rfl, hm3⟩
        refine ⟨_, rfl, ?_⟩
        refine hK _ _ (fun _ => ⟨hm3.cell m1 1 rfl, hm3.cell m1 3 rfl, hm3.cell m1 4 rfl, hm3.cell m1 5 rfl⟩) ?_
        clear hK K hS hm2 hx2
        try simp only [Act.put, List.getElem_toArray, List.getElem_cons_succ, List.getElem_cons_zero, List.setIfInBounds_toArray, List.set_cons_zero, List.set_cons_succ]
        have hS : w3.cell? ⟨gb, 1, none⟩ = some (.slice A items.length c) ∧ w3.cell? ⟨gb, 3, none⟩ = some (.int .i64 fn) ∧ w3.cell? ⟨gb, 4, none⟩ = some (.int .i64 cap) ∧ w3.cell? ⟨gb, 5, none⟩ = some (.bool sh) := ⟨hm3.cell m1 1 rfl, hm3.cell m1 3 rfl, hm3.cell m1 4 rfl, hm3.cell m1 5 rfl⟩
        refine wpAnyU_take 7 (v := ?vmt104x7) rfl (by kernel_rfl) (by kernel_rfl) (fun _ _ _ h => h) hS (Or.inl ⟨rfl, ?ymt104x7⟩) ?rmt104x7
        case ymt104x7 =>
          intro W hW
          obtain ⟨hW0, hW1, hW2, hW3⟩ := hW
          go_simp
          try with_reducible rfl
        try simp only [Act.put, List.getElem_toArray, List.getElem_cons_succ, List.getElem_cons_zero, List.setIfInBounds_toArray, List.set_cons_zero, List.set_cons_succ]
        refine wpAnyU_take 11 (v := ?vmt105x11) rfl (by kernel_rfl) (by kernel_rfl) (fun _ _ _ h => h) hS (Or.inl ⟨rfl, ?ymt105x11⟩) ?rmt105x11
        case ymt105x11 =>
          intro W hW
          obtain ⟨hW0, hW1, hW2, hW3⟩ := hW
          go_simp
          try with_reducible rfl
        try simp only [Act.put, List.getElem_toArray, List.getElem_cons_succ, List.getElem_cons_zero, List.setIfInBounds_toArray, List.set_cons_zero, List.set_cons_succ]
        refine wpAnyU_take 12 (v := ?vmt106x12) rfl (by kernel_rfl) (by kernel_rfl) (fun _ _ _ h => h) hS (Or.inl ⟨rfl, ?ymt106x12⟩) ?rmt106x12
        case ymt106x12 =>
          intro W hW
          obtain ⟨hW0, hW1, hW2, hW3⟩ := hW
          go_simp
          try with_reducible rfl
        try simp only [Act.put, List.getElem_toArray, List.getElem_cons_succ, List.getElem_cons_zero, List.setIfInBounds_toArray, List.set_cons_zero, List.set_cons_succ]
        refine wpAnyU_take 13 (v := ?vmt107x13) rfl (by kernel_rfl) (by kernel_rfl) (fun _ _ _ h => h) hS (Or.inl ⟨rfl, ?ymt107x13⟩) ?rmt107x13
        case ymt107x13 =>
          intro W hW
          obtain ⟨hW0, hW1, hW2, hW3⟩ := hW
          go_simp
          try with_reducible rfl
        try simp only [Act.put, List.getElem_toArray, List.getElem_cons_succ, List.getElem_cons_zero, List.setIfInBounds_toArray, List.set_cons_zero, List.set_cons_succ]
        refine wpAnyU_take 14 (v := ?vmt108x14) rfl (by kernel_rfl) (by kernel_rfl) (fun _ _ _ h => h) hS (Or.inl ⟨rfl, ?ymt108x14⟩) ?rmt108x14
        case ymt108x14 =>
          intro W hW
          obtain ⟨hW0, hW1, hW2, hW3⟩ := hW
          go_simp
          try with_reducible rfl
        try simp only [Act.put, List.getElem_toArray, List.getElem_cons_succ, List.getElem_cons_zero, List.setIfInBounds_toArray, List.set_cons_zero, List.set_cons_succ]
        refine wpAnyU_take 15 (v := ?vmt109x15) rfl (by kernel_rfl) (by kernel_rfl) (fun _ _ _ h => h) hS (Or.inl ⟨rfl, ?ymt109x15⟩) ?rmt109x15
        case ymt109x15 =>
          intro W hW
          obtain ⟨hW0, hW1, hW2, hW3⟩ := hW
          go_simp
          try with_reducible rfl
        try simp only [Act.put, List.getElem_toArray, List.getElem_cons_succ, List.getElem_cons_zero, List.setIfInBounds_toArray, List.set_cons_zero, List.set_cons_succ]
        refine wpAnyU_one 8 (by kernel_rfl) rfl (fun K hK => ?_)
        go_simp
        have hm4 := hm3.alloc (.cells [.int .i64 cap, .slice A3 items.length c3, .bool sh].toArray 151)
        generalize hg4 : w3.heap.size = g4 at hm4 ⊢
        generalize hw4 : w3.alloc (.cells [.int .i64 cap, .slice A3 items.length c3, .bool sh].toArray 151) = w4 at hm4 ⊢
        refine hK _ _ (fun _ => ⟨hm4.cell m2 1 rfl, hm4.cell m2 3 rfl, hm4.cell m2 4 rfl, hm4.cell m2 5 rfl⟩) ?_
        clear hK K hS hm3 hg4 hw4
        try simp only [Act.put, List.getElem_toArray, List.getElem_cons_succ, List.getElem_cons_zero, List.setIfInBounds_toArray, List.set_cons_zero, List.set_cons_succ]
        have hS : w4.cell? ⟨gb, 1, none⟩ = some (.slice A items.length c) ∧ w4.cell? ⟨gb, 3, none⟩ = some (.int .i64 fn) ∧ w4.cell? ⟨gb, 4, none⟩ = some (.int .i64 cap) ∧ w4.cell? ⟨gb, 5, none⟩ = some (.bool sh) := ⟨hm4.cell m2 1 rfl, hm4.cell m2 3 rfl, hm4.cell m2 4 rfl, hm4.cell m2 5 rfl⟩
        refine wpAnyU_take 9 (v := ?vmt110x9) rfl (by kernel_rfl) (by kernel_rfl) (fun _ _ _ h => h) hS (Or.inl ⟨rfl, ?ymt110x9⟩) ?rmt110x9
        case ymt110x9 =>
          intro W hW
          obtain ⟨hW0, hW1, hW2, hW3⟩ := hW
          go_simp
          try with_reducible rfl
        try simp only [Act.put, List.getElem_toArray, List.getElem_cons_succ, List.getElem_cons_zero, List.setIfInBounds_toArray, List.set_cons_zero, List.set_cons_succ]
        refine wpAnyU_take 16 (v := ?vmt111x16) rfl (by kernel_rfl) (by kernel_rfl) (fun _ _ _ h => h) hS (Or.inl ⟨rfl, ?ymt111x16⟩) ?rmt111x16
        case ymt111x16 =>
          intro W hW
          obtain ⟨hW0, hW1, hW2, hW3⟩ := hW
          go_simp
          try with_reducible rfl
        try simp only [Act.put, List.getElem_toArray, List.getElem_cons_succ, List.getElem_cons_zero, List.setIfInBounds_toArray, List.set_cons_zero, List.set_cons_succ]
        refine wpAnyU_one 17 (by kernel_rfl) rfl (fun K hK => ?_)
        go_simp
        refine hK _ _ (fun h => absurd h (by decide)) ?_
        clear hK K hS
        try simp only [Act.put, List.getElem_toArray, List.getElem_cons_succ, List.getElem_cons_zero, List.setIfInBounds_toArray, List.set_cons_zero, List.set_cons_succ]
        refine wpAnyU_done (by kernel_rfl) ?_ _
        go_wp2
        go_ret2
        exact .inr ⟨hmb.out, _, rfl, hm4.tail.tail.tail⟩
    · rw [beq_eq_false_iff_ne.2 qk, Bool.false_and] at hM
      have hmb := Fact.mk hM
      clear hM
      have qk' : ((keys.length : Int) == 0) = false := beq_eq_false_iff_ne.2 (by omega)
      rw [qk']
      clear qk'
      go_upto_region 9 with (fail)
      clear c0
      have hm2 := hm1.drew
      have hx2 := Fact.mk (hx1.out.gr (Gr.refl w1).drew)
      clear hm1 hx1
      have hS : w1.drew.cell? ⟨gb, 1, none⟩ = some (.slice A items.length c) ∧ w1.drew.cell? ⟨gb, 3, none⟩ = some (.int .i64 fn) ∧ w1.drew.cell? ⟨gb, 4, none⟩ = some (.int .i64 cap) ∧ w1.drew.cell? ⟨gb, 5, none⟩ = some (.bool sh) := ⟨hm2.cell m0 1 rfl, hm2.cell m0 3 rfl, hm2.cell m0 4 rfl, hm2.cell m0 5 rfl⟩
      refine wp_region_until (S := fun W => W.cell? ⟨gb, 1, none⟩ = some (.slice A items.length c) ∧ W.cell? ⟨gb, 3, none⟩ = some (.int .i64 fn) ∧ W.cell? ⟨gb, 4, none⟩ = some (.int .i64 cap) ∧ W.cell? ⟨gb, 5, none⟩ = some (.bool sh)) 17 (by kernel_rfl) ?_
      generalize w1.drew = w2 at hm2 hx2 hS ⊢
      refine wpAnyU_take 0 (v := ?vmt112x0) rfl (by kernel_rfl) (by kernel_rfl) (fun _ _ _ h => h) hS (Or.inl ⟨rfl, ?ymt112x0⟩) ?rmt112x0
      case ymt112x0 =>
        intro W hW
        obtain ⟨hW0, hW1, hW2, hW3⟩ := hW
        go_simp
        try with_reducible rfl
      try simp only [Act.put, List.getElem_toArray, List.getElem_cons_succ, List.getElem_cons_zero, List.setIfInBounds_toArray, List.set_cons_zero, List.set_cons_succ]
      refine wpAnyU_take 1 (v := ?vmt113x1) rfl (by kernel_rfl) (by kernel_rfl) (fun _ _ _ h => h) hS (Or.inl ⟨rfl, ?ymt113x1⟩) ?rmt113x1
      case ymt113x1 =>
        intro W hW
        obtain ⟨hW0, hW1, hW2, hW3⟩ := hW
        go_simp
        try with_reducible rfl
      try simp only [Act.put, List.getElem_toArray, List.getElem_cons_succ, List.getElem_cons_zero, List.setIfInBounds_toArray, List.set_cons_zero, List.set_cons_succ]
      refine wpAnyU_take 2 (v := ?vmt114x2) rfl (by kernel_rfl) (by kernel_rfl) (fun _ _ _ h => h) hS (Or.inl ⟨rfl, ?ymt114x2⟩) ?rmt114x2
      case ymt114x2 =>
        intro W hW
        obtain ⟨hW0, hW1, hW2, hW3⟩ := hW
        go_simp
        try with_reducible rfl
      try simp only [Act.put, List.getElem_toArray, List.getElem_cons_succ, List.getElem_cons_zero, List.setIfInBounds_toArray, List.set_cons_zero, List.set_cons_succ]
      refine wpAnyU_take 3 (v := ?vmt115x3) rfl (by kernel_rfl) (by kernel_rfl) (fun _ _ _ h => h) hS (Or.inl ⟨rfl, ?ymt115x3⟩) ?rmt115x3
      case ymt115x3 =>
        intro W hW
        obtain ⟨hW0, hW1, hW2, hW3⟩ := hW
        go_simp
        try with_reducible rfl
      try simp only [Act.put, List.getElem_toArray, List.getElem_cons_succ, List.getElem_cons_zero, List.setIfInBounds_toArray, List.set_cons_zero, List.set_cons_succ]
      refine wpAnyU_take 5 (v := ?vmt116x5) rfl (by kernel_rfl) (by kernel_rfl) (fun _ _ _ h => h) hS (Or.inl ⟨rfl, ?ymt116x5⟩) ?rmt116x5
      case ymt116x5 =>
        intro W hW
        obtain ⟨hW0, hW1, hW2, hW3⟩ := hW
        go_simp
        try with_reducible rfl
      try simp only [Act.put, List.getElem_toArray, List.getElem_cons_succ, List.getElem_cons_zero, List.setIfInBounds_toArray, List.set_cons_zero, List.set_cons_succ]
      refine wpAnyU_take 6 (v := ?vmt117x6) rfl (by kernel_rfl) (by kernel_rfl) (fun _ _ _ h => h) hS (Or.inl ⟨rfl, ?ymt117x6⟩) ?rmt117x6
      case ymt117x6 =>
        intro W hW
        obtain ⟨hW0, hW1, hW2, hW3⟩ := hW
        go_simp
        try with_reducible rfl
      try simp only [Act.put, List.getElem_toArray, List.getElem_cons_succ, List.getElem_cons_zero, List.setIfInBounds_toArray, List.set_cons_zero, List.set_cons_succ]
      refine wpAnyU_take 10 (v := ?vmt118x10) rfl (by kernel_rfl) (by kernel_rfl) (fun _ _ _ h => h) hS (Or.inl ⟨rfl, ?ymt118x10⟩) ?rmt118x10
      case ymt118x10 =>
        intro W hW
        obtain ⟨hW0, hW1, hW2, hW3⟩ := hW
        go_simp
        try with_reducible rfl
      try simp only [Act.put, List.getElem_toArray, List.getElem_cons_succ, List.getElem_cons_zero, List.setIfInBounds_toArray, List.set_cons_zero, List.set_cons_succ]
      refine wpAnyU_one 4 (by kernel_rfl) rfl (fun K hK => ?_)
      refine step_call rfl 82 Tryz.f82 Tryz.func82 (by kernel_rfl) (by kernel_rfl) _ _ rfl #[.slice A items.length c] (by simp [Act.eval]) ?_
      refine (clone_ok w0 w2 _ hm2 A items.length c items hx2 (by omega)).mono ?_
      rintro e w3 ⟨A3, c3, rfl, hm3⟩
      refine ⟨_, rfl, ?_⟩
      refine hK _ _ (fun _ => ⟨hm3.cell m1 1 rfl, hm3.cell m1 3 rfl, hm3.cell m1 4 rfl, hm3.cell m1 5 rfl⟩) ?_
      clear hK K hS hm2 hx2
      try simp only [Act.put, List.getElem_toArray, List.getElem_cons_succ, List.getElem_cons_zero, List.setIfInBounds_toArray, List.set_cons_zero, List.set_cons_succ]
      have hS : w3.cell? ⟨gb, 1, none⟩ = some (.slice A items.length c) ∧ w3.cell? ⟨gb, 3, none⟩ = some (.int .i64 fn) ∧ w3.cell? ⟨gb, 4, none⟩ = some (.int .i64 cap) ∧ w3.cell? ⟨gb, 5, none⟩ = some (.bool sh) := ⟨hm3.cell m1 1 rfl, hm3.cell m1 3 rfl, hm3.cell m1 4 rfl, hm3.cell m1 5 rfl⟩
      refine wpAnyU_take 7 (v := ?vmt119x7) rfl (by kernel_rfl) (by kernel_rfl) (fun _ _ _ h => h) hS (Or.inl ⟨rfl, ?ymt119x7⟩) ?rmt119x7
      case ymt119x7 =>
        intro W hW
        obtain ⟨hW0, hW1, hW2, hW3⟩ := hW
        go_simp
        try with_reducible rfl
      try simp only [Act.put, List.getElem_toArray, List.getElem_cons_succ, List.getElem_cons_zero, List.setIfInBounds_toArray, List.set_cons_zero, List.set_cons_succ]
      refine wpAnyU_take 11 (v := ?vmt120x11) rfl (by kernel_rfl) (by kernel_rfl) (fun _ _ _ h => h) hS (Or.inl ⟨rfl, ?ymt120x11⟩) ?rmt120x11
      case ymt120x11 =>
        intro W hW
        obtain ⟨hW0, hW1, hW2, hW3⟩ := hW
        go_simp
        try with_reducible rfl
      try simp only [Act.put, List.getElem_toArray, List.getElem_cons_succ, List.getElem_cons_zero, List.setIfInBounds_toArray, List.set_cons_zero, List.set_cons_succ]
      refine wpAnyU_take 12 (v := undef) rfl (by kernel_rfl) (by kernel_rfl) (fun _ _ _ h => h) hS (Or.inr ⟨rfl, rfl⟩) ?roff12012
      try simp only [Act.put, List.getElem_toArray, List.getElem_cons_succ, List.getElem_cons_zero, List.setIfInBounds_toArray, List.set_cons_zero, List.set_cons_succ]
      refine wpAnyU_take 13 (v := undef) rfl (by kernel_rfl) (by kernel_rfl) (fun _ _ _ h => h) hS (Or.inr ⟨rfl, rfl⟩) ?roff12013
      try simp only [Act.put, List.getElem_toArray, List.getElem_cons_succ, List.getElem_cons_zero, List.setIfInBounds_toArray, List.set_cons_zero, List.set_cons_succ]
      refine wpAnyU_take 14 (v := undef) rfl (by kernel_rfl) (by kernel_rfl) (fun _ _ _ h => h) hS (Or.inr ⟨rfl, rfl⟩) ?roff12014
      try simp only [Act.put, List.getElem_toArray, List.getElem_cons_succ, List.getElem_cons_zero, List.setIfInBounds_toArray, List.set_cons_zero, List.set_cons_succ]
      refine wpAnyU_take 15 (v := ?vmt121x15) rfl (by kernel_rfl) (by kernel_rfl) (fun _ _ _ h => h) hS (Or.inl ⟨rfl, ?ymt121x15⟩) ?rmt121x15
      case ymt121x15 =>
        intro W hW
        obtain ⟨hW0, hW1, hW2, hW3⟩ := hW
        go_simp
        try with_reducible rfl
      try simp only [Act.put, List.getElem_toArray, List.getElem_cons_succ, List.getElem_cons_zero, List.setIfInBounds_toArray, List.set_cons_zero, List.set_cons_succ]
      refine wpAnyU_one 8 (by kernel_rfl) rfl (fun K hK => ?_)
      go_simp
      have hm4 := hm3.alloc (.cells [.int .i64 cap, .slice A3 items.length c3, .bool sh].toArray 151)
      generalize hg4 : w3.heap.size = g4 at hm4 ⊢
      generalize hw4 : w3.alloc (.cells [.int .i64 cap, .slice A3 items.length c3, .bool sh].toArray 151) = w4 at hm4 ⊢
      refine hK _ _ (fun _ => ⟨hm4.cell m2 1 rfl, hm4.cell m2 3 rfl, hm4.cell m2 4 rfl, hm4.cell m2 5 rfl⟩) ?_
      clear hK K hS hm3 hg4 hw4
      try simp only [Act.put, List.getElem_toArray, List.getElem_cons_succ, List.getElem_cons_zero, List.setIfInBounds_toArray, List.set_cons_zero, List.set_cons_succ]
      have hS : w4.cell? ⟨gb, 1, none⟩ = some (.slice A items.length c) ∧ w4.cell? ⟨gb, 3, none⟩ = some (.int .i64 fn) ∧ w4.cell? ⟨gb, 4, none⟩ = some (.int .i64 cap) ∧ w4.cell? ⟨gb, 5, none⟩ = some (.bool sh) := ⟨hm4.cell m2 1 rfl, hm4.cell m2 3 rfl, hm4.cell m2 4 rfl, hm4.cell m2 5 rfl⟩
      refine wpAnyU_take 9 (v := ?vmt122x9) rfl (by kernel_rfl) (by kernel_rfl) (fun _ _ _ h => h) hS (Or.inl ⟨rfl, ?ymt122x9⟩) ?rmt122x9
      case ymt122x9 =>
        intro W hW
        obtain ⟨hW0, hW1, hW2, hW3⟩ := hW
        go_simp
        try with_reducible rfl
      try simp only [Act.put, List.getElem_toArray, List.getElem_cons_succ, List.getElem_cons_zero, List.setIfInBounds_toArray, List.set_cons_zero, List.set_cons_succ]
      refine wpAnyU_take 16 (v := ?vmt123x16) rfl (by kernel_rfl) (by kernel_rfl) (fun _ _ _ h => h) hS (Or.inl ⟨rfl, ?ymt123x16⟩) ?rmt123x16
      case ymt123x16 =>
        intro W hW
        obtain ⟨hW0, hW1, hW2, hW3⟩ := hW
        go_simp
        try with_reducible rfl
      try simp only [Act.put, List.getElem_toArray, List.getElem_cons_succ, List.getElem_cons_zero, List.setIfInBounds_toArray, List.set_cons_zero, List.set_cons_succ]
      refine wpAnyU_one 17 (by kernel_rfl) rfl (fun K hK => ?_)
      go_simp
      refine hK _ _ (fun h => absurd h (by decide)) ?_
      clear hK K hS
      try simp only [Act.put, List.getElem_toArray, List.getElem_cons_succ, List.getElem_cons_zero, List.setIfInBounds_toArray, List.set_cons_zero, List.set_cons_succ]
      refine wpAnyU_done (by kernel_rfl) ?_ _
      go_wp2
      go_ret2
      exact .inr ⟨hmb.out, _, rfl, hm4.tail.tail.tail⟩
end Go.Proofs.YtgflfpepfpekhaaGreat
namespace Go.Proofs.YtgflfpepfpekhaaGreat
open Go.RowKit Go.Mm
set_option maxHeartbeats 4000000
set_option maxRecDepth 100000
set_option linter.unusedSimpArgs false
theorem all_ge {ks : List Int} : (ks.all (fun k => decide (0 ≤ k)) = true) ↔ ∀ x, x ∈ ks → 0 ≤ x := by simp [List.all_eq_true]
theorem idx_mem {ks : List Int} {k : Int} (h : (ks.idxOf? k).isSome = true) : k ∈ ks := by
  cases e : ks.idxOf? k with
  | none => rw [e] at h; cases h
  | some i =>
    obtain ⟨h, e, _⟩ := List.idxOf?_eq_some_iff.1 e
    rw [← e]
    exact List.getElem_mem h
theorem idx_nomem {ks : List Int} {k : Int} (h : ks.idxOf? k = none) : k ∉ ks := by simpa using h
theorem madeR_ok (w0 w : World) (L : List Chunk) (hm : Mem w0 w L) (A : Option Addr) (c : Nat) (KA : Option Addr) (kc : Nat) (items : List V2) (keys : List Int) (fn cap : Int) (sh : Bool) (hx : Fact (RdC w 2 (.slice A items.length c) (fV items))) (hi : items.length ≤ 1048576) (hkn : keys.length ≤ 1048576) (hkx : Fact (RdC w 1 (.slice KA keys.length kc) (nums .i64 keys))) (hwf : ∀ k, k ∈ keys → (Lit.int .i64 k).wf = true) (op : Bool) (hop : op = (cap == 0 && !sh)) :
    Calls Tryz.prog 70 #[.agg (obC 7 A items.length c KA keys.length kc fn cap sh).toArray] w fun e w' => MadeQ w0 L ⟨7, items, keys, fn, cap, sh⟩ e w' := by
  have hM : madeB ⟨7, items, keys, fn, cap, sh⟩ = (op && (fn == 0) && (keys.length == items.length) && keys.all (fun k => decide (0 ≤ k)) && decide keys.Nodup) := by rw [hop]; rfl
  go_enter Tryz.func70, Tryz.ntmps70
  go_upto_region 1 with (fail)
  have hm1 := (Mem.start w).alloc (.cells (obC 7 A items.length c KA keys.length kc fn cap sh).toArray 59)
  generalize hgb : w.heap.size = gb at hm1 ⊢
  generalize hw1 : w.alloc (.cells (obC 7 A items.length c KA keys.length kc fn cap sh).toArray 59) = w1 at hm1
  try refine wp_world hw1 ?_
  clear hw1 hgb
  have c0 := hm1.cell m0 0 rfl
  have c2 := hm1.cell m0 2 rfl
  have c4 := hm1.cell m0 4 rfl
  have c5 := hm1.cell m0 5 rfl
  go_upto_region 2 with (fail)
  go_cut [5] (fun s5 W => s5 = .bool op ∧ W = w1)
  case first =>
    by_cases qc : cap = 0
    · have qc' : (cap == 0) = true := beq_iff_eq.2 qc
      rw [qc', Bool.true_and] at hop
      clear qc
      subst hop
      go_wp2
      go_meet
      case rel => exact ⟨rfl, rfl⟩
    · have qc' : (cap == 0) = false := beq_eq_false_iff_ne.2 qc
      rw [qc', Bool.false_and] at hop
      clear qc
      subst hop
      go_wp2
      go_meet
      case rel => exact ⟨rfl, rfl⟩
  case rest =>
    obtain ⟨rfl, hwc⟩ := hcut
    rw [hwc]
    clear hwc c4 c5 c2
    have hm2 := hm1.alloc (.cells (recC none 0 0 none 0 0 none).toArray 155)
    go_upto_region 12 with (fail)
    generalize hg2 : w1.heap.size = g at hm2 ⊢
    replace hm2 : Mem w (w1.alloc (.cells #[.slice none 0 0, .slice none 0 0, .map none] 155)) [Blk g (.cells (recC none 0 0 none 0 0 none).toArray 155), Blk gb (.cells (obC 7 A items.length c KA keys.length kc fn cap sh).toArray 59)] := hm2
    generalize hw2 : w1.alloc (.cells #[.slice none 0 0, .slice none 0 0, .map none] 155) = w2 at hm2 ⊢
    try refine wp_world hw2 ?_
    clear hw2 hg2 hm1 c0
    have c3 := hm2.cell m1 3 rfl
    have c1 := hm2.cell m1 1 rfl
    have c2 := hm2.cell m1 2 rfl
    cases op with
    | false =>
      rw [Bool.false_and, Bool.false_and, Bool.false_and, Bool.false_and] at hM
      have hmb := Fact.mk hM
      clear hM hop
      go_wp2
      go_ret2
      exact .inr ⟨hmb.out, _, rfl, (hm.join hm2).tail.tail⟩
    | true =>
      rw [Bool.true_and] at hM
      by_cases qf : fn = 0
      · skip
        by_cases ql : keys.length = items.length
        · skip
          rw [beq_iff_eq.2 qf, beq_iff_eq.2 ql, Bool.true_and, Bool.true_and] at hM
          have qf' : (fn == 0) = true := beq_iff_eq.2 qf
          have qf2 : (fn != 0) = false := by rw [qf]; rfl
          have ql' : ((keys.length : Int) == items.length) = true := beq_iff_eq.2 (by omega)
          have ql2 : ((keys.length : Int) != items.length) = false := by simp [ql]
          have hcs : cap = 0 ∧ sh = false := by
            have h := hop.symm
            simp only [Bool.and_eq_true, beq_iff_eq, Bool.not_eq_true'] at h
            exact h
          replace hM := Fact.mk hM
          replace qf := Fact.mk qf
          replace ql := Fact.mk ql
          replace hcs := Fact.mk hcs
          replace hwf := Fact.mk hwf
          clear hop
          have hm3 : Mem w w2 (Blk g (.cells (recC none 0 0 none 0 0 none).toArray 155) :: Own 2 (.slice none 0 0) (fV (items.take 0)) :: Own 1 (.slice none 0 0) (nums .i64 (keys.take 0)) :: MapC none (keys.take 0) :: Blk gb (.cells (obC 7 A items.length c KA keys.length kc fn cap sh).toArray 59) :: []) := (Mem.nil (Mem.nil (Mem.mapnil hm2) 1 none) 2 none).pull3
          clear hm2
          go_wp2
          clear c1 c2 c3 qf' qf2 ql' ql2
          go_loopw [97] (fun s97 W => ∃ (k : Nat) (A1 : Option Addr) (c1 : Nat) (K1 : Option Addr) (kc1 : Nat) (mp : Option Nat), s97 = .int .i64 k ∧ k ≤ keys.length ∧ Fact ((∀ x, x ∈ keys.take k → 0 ≤ x) ∧ (keys.take k).Nodup) ∧ Mem w W (Blk g (.cells (recC A1 k c1 K1 k kc1 mp).toArray 155) :: Own 2 (.slice A1 k c1) (fV (items.take k)) :: Own 1 (.slice K1 k kc1) (nums .i64 (keys.take k)) :: MapC mp (keys.take k) :: Blk gb (.cells (obC 7 A items.length c KA keys.length kc fn cap sh).toArray 59) :: [])) (fun s97 _ => keys.length - (intOf s97).toNat)
          case atStart => exact ⟨0, none, 0, none, 0, none, rfl, by omega, ⟨by simp, by simp⟩, hm3⟩
          case round =>
            obtain ⟨k, A1, c1, K1, kc1, mp, rfl, hk, hgd, hmr⟩ := hrel
            clear hm3
            by_cases hlt : k < keys.length
            · skip
              have hki : k < items.length := by have := ql.out; omega
              obtain ⟨b2, o2, hKA, gk, _⟩ := (hkx.out.gr hmr.below).num k hlt
              obtain ⟨b3, o3, hIA, g1, g2, _, _⟩ := rdV_at (hx.out.gr hmr.below) k hki
              have hsk := take_snoc' keys k hlt
              have hsi : items.take (k + 1) = items.take k ++ [items.getD k (0, 0)] := by rw [List.take_succ_eq_append_getElem hki]; simp [hki]
              have hxm : keys.getD k 0 ∈ keys := by rw [List.getD_eq_getElem?_getD, List.getElem?_eq_getElem hlt]; exact List.getElem_mem _
              generalize keys.getD k 0 = x at gk hsk hxm
              generalize items.getD k (0, 0) = y at g1 g2 hsi
              have z1 := hmr.cell m4 1 rfl
              rw [hIA] at z1
              rw [hKA]
              replace hKA := Fact.mk hKA
              replace hIA := Fact.mk hIA
              have lk : (keys.take k).length = k := by rw [List.length_take]; omega
              have li : (items.take k).length = k := by rw [List.length_take]; omega
              by_cases qx : x < 0
              · have hmb : Fact (madeB ⟨7, items, keys, fn, cap, sh⟩ = false) := ⟨by
                  rw [hM.out, Bool.and_eq_false_iff]
                  exact .inl (by rw [List.all_eq_false]; exact ⟨x, hxm, by simp; omega⟩)⟩
                go_wp2
                go_ret2
                exact .inr ⟨hmb.out, _, rfl, (hm.join hmr).tail.tail.tail.tail.tail⟩
              have qx' : (x < 0) = False := eq_false qx
              replace qx := Fact.mk qx
              have hxw := hwf.out x hxm
              cases hidx : (keys.take k).idxOf? x with
              | some i =>
                have hmb : Fact (madeB ⟨7, items, keys, fn, cap, sh⟩ = false) := ⟨by
                  have hin : x ∈ keys.take k := idx_mem (by rw [hidx]; rfl)
                  have hnd : ¬ keys.Nodup := fun hd => by
                    have h1 : (keys.take (k + 1)).Nodup := hd.sublist (List.take_sublist _ _)
                    rw [hsk, List.nodup_append] at h1
                    exact h1.2.2 x hin x (by simp) rfl
                  rw [hM.out, decide_eq_false hnd, Bool.and_false]⟩
                have hput := rputNo_ok w wr _ g A1 k c1 K1 k kc1 mp (keys.take k) (hmr.perm (((List.Perm.refl _).trans (perm_front (Blk g (.cells (recC A1 k c1 K1 k kc1 mp).toArray 155) :: Own 2 (.slice A1 k c1) (fV (items.take k)) :: Own 1 (.slice K1 k kc1) (nums .i64 (keys.take k)) :: MapC mp (keys.take k) :: Blk gb (.cells (obC 7 A items.length c KA keys.length kc fn cap sh).toArray 59) :: []) 3 (by simp))))) x hxw (by rw [hidx]; rfl) y.1 y.2
                replace hput := Fact.mk hput
                replace hidx := Fact.mk hidx
                clear lk li hsk hsi
                go_wp2_with (refine wp_rng rfl 36 _ rfl b3 (o3 + k * 2) rfl (cV y) (rng2 g1 g2) row_VH sz_V ?_)
                refine hput.out.mono ?_
                rintro e w6 ⟨rfl, hm6⟩
                go_wp2
                go_ret2
                exact .inr ⟨hmb.out, _, rfl, (hm.join hm6).tail.tail.tail.tail.tail⟩
              | none =>
                have hput := rputYes_ok w wr [Blk gb (.cells (obC 7 A items.length c KA keys.length kc fn cap sh).toArray 59)] g A1 c1 K1 kc1 mp (keys.take k) (items.take k) (by rw [lk, li]; exact hmr) x hxw ⟨hidx⟩ y.1 y.2 (by omega) (by omega)
                rw [lk, li, ← hsi, ← hsk] at hput
                replace hput := Fact.mk hput
                have hgd2 : Fact ((∀ z, z ∈ keys.take (k + 1) → 0 ≤ z) ∧ (keys.take (k + 1)).Nodup) := ⟨by
                  rw [hsk]
                  refine ⟨fun z hz => ?_, ?_⟩
                  · rcases List.mem_append.1 hz with hz | hz
                    · exact hgd.out.1 z hz
                    · simp at hz; have := qx.out; omega
                  · rw [List.nodup_append]
                    exact ⟨hgd.out.2, by simp, fun a ha b hb => by simp at hb; subst hb; exact fun e => idx_nomem hidx (by rw [← e]; exact ha)⟩⟩
                clear lk li hsk hsi hidx
                go_wp2_with (refine wp_rng rfl 36 _ rfl b3 (o3 + k * 2) rfl (cV y) (rng2 g1 g2) row_VH sz_V ?_)
                refine hput.out.mono ?_
                rintro e w6 ⟨rfl, A2, c2, K2, kc2, mp2, hm6⟩
                go_wp2
                go_roundw
                case rel => exact ⟨k + 1, A2, c2, K2, kc2, mp2, by go_num, by omega, hgd2, by rw [← hKA.out]; exact hm6⟩
                case measure => exact measP_lt hlt
            · obtain rfl : k = keys.length := by omega
              rw [List.take_of_length_le (Nat.le_refl _)] at hmr hgd
              rw [List.take_of_length_le (by have := ql.out; omega)] at hmr
              go_wp2
              go_ret2
              have hmb : madeB ⟨7, items, keys, fn, cap, sh⟩ = true := by rw [hM.out, decide_eq_true hgd.out.2, Bool.and_true, all_ge]; exact hgd.out.1
              refine .inl ⟨hmb, ⟨g, A1, keys.length, c1, K1, keys.length, kc1, mp, ⟨7, items, keys, fn, cap, sh⟩⟩, rfl, ⟨.inr (.inl rfl), hi, fun _ => ql.out, fun h => absurd rfl h, hgd.out.2, hwf.out, fun _ => qf.out, fun _ => hcs.out⟩, rfl, ?_⟩
              have hz := (hm.join hmr)
              refine Mem.sht (Th.chunks ⟨g, A1, keys.length, c1, K1, keys.length, kc1, mp, ⟨7, items, keys, fn, cap, sh⟩⟩) ?_
              exact hz.sub (List.Sublist.cons_cons _ (List.Sublist.cons_cons _ (List.Sublist.cons_cons _ (List.Sublist.cons_cons _ (List.sublist_cons_self _ _)))))
        · have hmb : Fact (madeB ⟨7, items, keys, fn, cap, sh⟩ = false) := ⟨by rw [hM, beq_eq_false_iff_ne.2 ql, Bool.and_false, Bool.false_and, Bool.false_and]⟩
          have qf' : (fn == 0) = true := beq_iff_eq.2 qf
          have qf2 : (fn != 0) = false := by rw [qf]; rfl
          have ql' : ((keys.length : Int) == items.length) = false := beq_eq_false_iff_ne.2 (by omega)
          have ql2 : ((keys.length : Int) != items.length) = true := by simp; omega
          clear qf ql hM hop
          go_wp2
          go_ret2
          exact .inr ⟨hmb.out, _, rfl, (hm.join hm2).tail.tail⟩
      · have hmb : Fact (madeB ⟨7, items, keys, fn, cap, sh⟩ = false) := ⟨by rw [hM, beq_eq_false_iff_ne.2 qf, Bool.false_and, Bool.false_and, Bool.false_and]⟩
        have qf' : (fn == 0) = false := beq_eq_false_iff_ne.2 qf
        have qf2 : (fn != 0) = true := by simp [qf]
        clear qf hM hop
        go_wp2
        go_ret2
        exact .inr ⟨hmb.out, _, rfl, (hm.join hm2).tail.tail⟩
end Go.Proofs.YtgflfpepfpekhaaGreat
namespace Go.Proofs.YtgflfpepfpekhaaGreat
open Go.RowKit Go.Mm
set_option maxHeartbeats 4000000
set_option maxRecDepth 100000
set_option linter.unusedSimpArgs false
theorem made_ok (w0 w : World) (L : List Chunk) (hm : Mem w0 w L) (x : RO) (hx : Fact (x.reads w)) (hi : x.ob.items.length ≤ 1048576) (hkn : x.ob.keys.length ≤ 1048576) (hwf : ∀ k, k ∈ x.ob.keys → (Lit.int .i64 k).wf = true) :
    Calls Tryz.prog 70 #[.agg (cRO x).toArray] w fun e w' => MadeQ w0 L x.ob e w' := by
  obtain ⟨A, c, KA, kc, ⟨k, items, keys, fn, cap, sh⟩⟩ := x
  by_cases q6 : k = 6
  · subst q6
    exact madeA_ok w0 w L hm A c KA kc items keys fn cap sh ⟨hx.out.1⟩ hi hkn _ rfl
  by_cases q8 : k = 8
  · subst q8
    exact madeB_ok w0 w L hm A c KA kc items keys fn cap sh ⟨hx.out.1⟩ hi hkn _ rfl
  by_cases q9 : k = 9
  · subst q9
    exact madeC_ok w0 w L hm A c KA kc items keys fn cap sh ⟨hx.out.1⟩ hi hkn _ rfl
  by_cases q7 : k = 7
  · subst q7
    exact madeR_ok w0 w L hm A c KA kc items keys fn cap sh ⟨hx.out.1⟩ hi hkn ⟨hx.out.2⟩ hwf _ rfl
  have hmb : Fact (madeB ⟨k, items, keys, fn, cap, sh⟩ = false) := ⟨by unfold madeB; rw [if_neg q6, if_neg q8, if_neg q9, if_neg q7]⟩
  replace q6 : (k == 6) = false := beq_eq_false_iff_ne.2 q6
  replace q7 : (k == 7) = false := beq_eq_false_iff_ne.2 q7
  replace q8 : (k == 8) = false := beq_eq_false_iff_ne.2 q8
  replace q9 : (k == 9) = false := beq_eq_false_iff_ne.2 q9
  unfold cRO
  by_cases qc : cap = 0
  all_goals
    first | (replace qc : (cap == 0) = true := beq_iff_eq.2 qc) | (replace qc : (cap == 0) = false := beq_eq_false_iff_ne.2 qc)
    go_enter Tryz.func70, Tryz.ntmps70
    go_upto_region 1 with (fail)
    have hm1 := hm.alloc (.cells (obC k A items.length c KA keys.length kc fn cap sh).toArray 59)
    generalize hgb : w.heap.size = gb at hm1 ⊢
    generalize hw1 : w.alloc (.cells (obC k A items.length c KA keys.length kc fn cap sh).toArray 59) = w1 at hm1
    try refine wp_world hw1 ?_
    clear hw1 hgb
    have c0 := hm1.cell m0 0 rfl
    have c2 := hm1.cell m0 2 rfl
    have c4 := hm1.cell m0 4 rfl
    have c5 := hm1.cell m0 5 rfl
    go_wp2
    go_ret2
    exact .inr ⟨hmb.out, _, rfl, hm1.tail⟩
/-- Whether objects make a heap, as the program asks it. -/
def loadP (l : List Ob) : Bool := l.all madeB && l.all (fun o => limB o && o.items.all (rightP l))
def Hp.more (h : Hp) (A : Option Addr) (c : Nat) (t : Th) : Hp := { h with A := A, c := c, ths := h.ths ++ [t] }
theorem Hp.more_abs (h : Hp) (A : Option Addr) (c : Nat) (t : Th) : (h.more A c t).abs = ⟨h.budget, h.spent, h.objs ++ [t.ob]⟩ := by simp [Hp.more, Hp.abs, Hp.objs]
theorem Hp.more_ok {h : Hp} (hok : h.Ok) (A : Option Addr) (c : Nat) (t : Th) (ht : t.Ok) (hl : h.ths.length < 16777216) : (h.more A c t).Ok := by
  refine ⟨fun u hu => ?_, by simp only [Hp.more, List.length_append, List.length_cons, List.length_nil]; omega, hok.b0, hok.b1, hok.s0, hok.s1⟩
  simp only [Hp.more, List.mem_append, List.mem_cons, List.not_mem_nil, or_false] at hu
  rcases hu with hu | rfl
  · exact hok.each u hu
  · exact ht
def LoadQ (w0 : World) (L : List Chunk) (b s : Int) (l : List Ob) (e : Ending) (w : World) : Prop :=
  (loadP l = true ∧ ∃ h : Hp, h.abs = ⟨b, s, l⟩ ∧ h.Ok ∧ e = .returned (.tuple #[.pointer (some ⟨h.g, 0, none⟩), .bool true]) ∧ Mem w0 w (HpC h :: L)) ∨ (loadP l = false ∧ e = .returned (.tuple #[.pointer none, .bool false]) ∧ Mem w0 w L)
theorem load_ok (w0 w : World) (L : List Chunk) (hm : Mem w0 w L) (b s : Int) (hb : b ≤ 9223372036854775807) (hs : s ≤ 9223372036854775807) (A : Option Addr) (n c : Nat) (xs : List RO) (hx : Fact (ObsR w A n c xs)) (hn : n ≤ 2097152)
    (hsz : ∀ x, x ∈ xs → x.ob.items.length ≤ 1048576 ∧ x.ob.keys.length ≤ 1048576) (hwf : ∀ x, x ∈ xs → ∀ k, k ∈ x.ob.keys → (Lit.int .i64 k).wf = true) :
    Calls Tryz.prog 34 #[.int .i64 b, .int .i64 s, .slice A n c] w fun e w' => LoadQ w0 L (max b 0) (max s 0) (xs.map (·.ob)) e w' := by
  obtain ⟨iT, hi, hz0, hz1, hz2⟩ := info_parts inf_T
  have hmf : ∀ (fn : Go.Fn) (first cap : Array Value) (w : World), (Instr.makeFunc fn first cap).run Tryz.prog w = .ok (.func fn first cap) w := fun _ _ _ _ => rfl
  have hl := Fact.mk hx.out.len
  replace hsz := Fact.mk hsz
  replace hwf := Fact.mk hwf
  obtain ⟨obs, hobs⟩ : ∃ obs, xs.map (·.ob) = obs := ⟨_, rfl⟩
  rw [hobs]
  have hol : Fact (obs.length = n) := ⟨by rw [← hobs, List.length_map]; exact hl.out⟩
  have hoa : Fact (∀ k, k < n → obs.getD k ob0 = (xs.getD k ro0).ob) := ⟨fun k hk => by rw [← hobs]; simp [show k < xs.length by rw [hl.out]; exact hk]⟩
  clear hobs
  go_enter Tryz.func34, Tryz.ntmps34
  go_wp2_with fail
  refine (heapNew_ok w w [] (Mem.start w) b s).mono ?_
  rintro e w1 ⟨g, rfl, hm1⟩
  go_wp2
  go_loopw [20] (fun s20 W => ∃ (k : Nat) (h : Hp), s20 = .int .i64 k ∧ k ≤ n ∧ h.g = g ∧ Fact (h.abs = ⟨max b 0, max s 0, obs.take k⟩) ∧ Fact h.Ok ∧ Fact ((obs.take k).all madeB = true) ∧ Mem w W (HpC h :: [])) (fun s20 _ => n - (intOf s20).toNat)
  case atStart => exact ⟨0, ⟨g, max b 0, max s 0, none, 0, []⟩, rfl, by omega, rfl, ⟨rfl⟩, ⟨⟨by simp, by simp, by show (0 : Int) ≤ max b 0; omega, by show max b 0 ≤ _; omega, by show (0 : Int) ≤ max s 0; omega, by show max s 0 ≤ _; omega⟩⟩, ⟨rfl⟩, hm1⟩
  case round =>
    obtain ⟨k, h, rfl, hk, rfl, habs, hok, hall, hmr⟩ := hrel
    clear hm1
    have hthl : h.ths.length = k := by rw [← h.abs_len', habs.out]; simp only [List.length_take]; have := hol.out; omega
    replace hthl := Fact.mk hthl
    by_cases hlt : k < n
    · obtain ⟨bb, o, rfl, hc, hkl, hrd⟩ := (hx.out.gr hmr.below).at k hlt
      have hxm : xs.getD k ro0 ∈ xs := by rw [List.getD_eq_getElem?_getD, List.getElem?_eq_getElem hkl]; exact List.getElem_mem _
      have hox := hoa.out k hlt
      have htk : obs.take (k + 1) = obs.take k ++ [obs.getD k ob0] := by rw [List.take_succ_eq_append_getElem (by rw [hol.out]; exact hlt)]; simp [show k < obs.length by rw [hol.out]; exact hlt]
      have hall2 := take_all madeB obs k ob0 (by rw [hol.out]; exact hlt)
      have hno := take_all_no (p := madeB) (xs := obs) (k := k) (d := ob0) (by rw [hol.out]; exact hlt)
      have hszx := hsz.out _ hxm
      have hwfx := hwf.out _ hxm
      rw [hox] at htk hall2 hno
      rw [hall.out, Bool.true_and] at hall2
      generalize xs.getD k ro0 = x at hc hrd hszx hwfx htk hall2 hno
      replace hc := Fact.mk hc
      replace htk := Fact.mk htk
      replace hall2 := Fact.mk hall2
      replace hno := Fact.mk hno
      replace hrd := Fact.mk hrd
      clear hxm hox
      go_upto_region 5 with (first | (refine wp_rng rfl 59 _ rfl bb (o + k * 6) rfl (cRO x) hc.out row_O sz_O ?_) | (refine wp_setrow rfl 59 _ _ rfl wr.heap.size rfl 59 _ (cRO x) rfl ((Mem.start wr).alloc (.cells (obC 0 none 0 0 none 0 0 0 0 false).toArray 59)) sz_O rfl (cRO_one x) ?_; intro w5 hm5))
      generalize wr.heap.size = g5 at hm5 ⊢
      have hmade := made_ok w w5 _ (hmr.join hm5) x ⟨hrd.out.gr hm5.below⟩ hszx.1 hszx.2 hwfx
      have hrg := rng_blk hm5 m0
      clear hm5 hmr
      replace hmade := Fact.mk hmade
      go_wp2_with (refine wp_rng rfl 59 _ rfl g5 0 rfl (cRO x) hrg row_O sz_O ?_)
      refine hmade.out.mono ?_
      clear hmade hrg
      rintro e w6 (⟨hmb, t, hto, htok, rfl, hm6⟩ | ⟨hmb, v, rfl, hm6⟩)
      · replace hmb := Fact.mk hmb
        replace hto := Fact.mk hto
        replace htok := Fact.mk htok
        have hm7 : Mem w w6 (Blk h.g (.cells h.cells.toArray 122) :: Own 1 (.slice h.A h.ths.length h.c) (h.ths.map Th.val) :: (h.ths.map ThC ++ (ThC t :: Blk g5 (.cells (cRO x).toArray 59) :: []))) := Mem.opn hm6.pull2
        clear hm6
        have c2 := hm7.cell m0 2 rfl
        have hvl : t.val.cells = #[t.val] := rfl
        have hsl := hok.out.size
        have hv : t.val = .iface (thTy t.ob.kind) (.pointer (some ⟨t.g, 0, none⟩)) := rfl
        obtain ⟨T, hT⟩ : ∃ T, thTy t.ob.kind = T := ⟨_, rfl⟩
        rw [hT] at hv
        rw [hv]
        clear hvl
        go_wp2_with (first | (at_builtin; refine wp_app rfl _ _ _ rfl 117 iT _ 1 16 ty_Ts hi hz0 hz1 hz2 rfl h.A h.ths.length h.c _ rfl (hm7.alloc _).pull2 _ 1 1 [.iface T (.pointer (some ⟨t.g, 0, none⟩))] rfl (RdC.lit _ _ _ _ _ rfl (by simp [maxLen]) (fun u hu => by simp at hu; subst hu; rfl)) (by unfold maxLen; omega) (by omega) ?_; intro A1 c1 w7 HM1) | (refine wp_setat rfl 120 _ _ rfl h.g 2 rfl 122 _ [.slice A1 (h.ths.length + 1) c1] [.int .i64 h.budget, .int .i64 h.spent, .slice A1 (h.ths.length + 1) c1] (.slice A1 (h.ths.length + 1) c1) rfl rfl HM1.drop2.swap (by kernel_rfl) (by simp [Hp.cells]) (one_one rfl) rfl ?_; intro w8 hm8))
        have e1 : h.ths.map Th.val ++ [.iface T (.pointer (some ⟨t.g, 0, none⟩))] = (h.ths ++ [t]).map Th.val := by rw [← hv]; simp
        rw [e1] at hm8
        have hz : Mem w w8 (HpC (h.more A1 c1 t) :: []) := by
          have h9 : Mem w w8 (Blk h.g (.cells (h.more A1 c1 t).cells.toArray 122) :: Own 1 (.slice A1 (h.ths ++ [t]).length c1) ((h.ths ++ [t]).map Th.val) :: (h.ths.map ThC ++ (ThC t :: Blk g5 (.cells (cRO x).toArray 59) :: []))) := by simpa [Hp.more, Hp.cells] using hm8
          have h10 : (h.ths.map ThC ++ (ThC t :: Blk g5 (.cells (cRO x).toArray 59) :: [])) = (h.ths ++ [t]).map ThC ++ (Blk g5 (.cells (cRO x).toArray 59) :: []) := by simp
          rw [h10] at h9
          exact (Mem.sht (h.more A1 c1 t).chunks h9).sub (List.Sublist.cons_cons _ (List.nil_sublist _))
        clear hm8 HM1 hm7 c2
        go_roundw
        case rel => exact ⟨k + 1, h.more A1 c1 t, by go_num, by omega, rfl, ⟨by rw [Hp.more_abs, htk.out, hto.out]; have := habs.out; unfold Hp.abs at this; simp only [Hs.mk.injEq] at this; rw [this.1, this.2.1, this.2.2]⟩, ⟨Hp.more_ok hok.out A1 c1 t htok.out (by have := hthl.out; omega)⟩, ⟨by rw [hall2.out]; exact hmb.out⟩, hz⟩
        case measure => exact measP_lt hlt
      · have hfin : Fact (loadP obs = false) := ⟨by unfold loadP; rw [hno.out hmb, Bool.false_and]⟩
        go_wp2
        go_ret2
        exact .inr ⟨hfin.out, rfl, (hm.join hm6).tail.tail⟩
    · obtain rfl : k = n := by omega
      rw [List.take_of_length_le (by rw [hol.out]; exact Nat.le_refl _)] at habs hall
      have hob : h.objs = obs := by have := habs.out; unfold Hp.abs at this; simp only [Hs.mk.injEq] at this; exact this.2.2
      replace hob := Fact.mk hob
      obtain ⟨_, _, c2, _⟩ := Hp.read hmr m0
      rw [hthl.out] at c2
      go_wp2
      clear c2
      go_loopw [47] (fun s47 W => ∃ j : Nat, s47 = .int .i64 j ∧ j ≤ k ∧ Fact ((obs.take j).all (fun o => limB o && o.items.all (rightP obs)) = true) ∧ Mem w W (HpC h :: [])) (fun s47 _ => k - (intOf s47).toNat)
      case atStart => exact ⟨0, rfl, by omega, ⟨rfl⟩, hmr⟩
      case round =>
        obtain ⟨j, rfl, hj, hal, hmq⟩ := hrel
        clear hmr
        by_cases hjt : j < k
        · obtain ⟨_, _, _, _, _, hat⟩ := Hp.read hmq m0
          obtain ⟨b3, o3, hA, r1, hcs⟩ := hat j (by have := hthl.out; omega)
          have htj := th_ok hok.out (i := j) (by have := hthl.out; omega)
          have hri := rightI_ok w wr _ h hmq m0 hok _ htj hcs
          have hob2 : obs.getD j ob0 = (h.ths.getD j th0).ob := by rw [← hob.out]; exact ob_at (by have := hthl.out; omega)
          have hal2 := take_all (fun o => limB o && o.items.all (rightP obs)) obs j ob0 (by rw [hol.out]; exact hjt)
          have hno2 := take_all_no (p := (fun o => limB o && o.items.all (rightP obs))) (xs := obs) (k := j) (d := ob0) (by rw [hol.out]; exact hjt)
          rw [hob2] at hal2 hno2
          rw [hal.out, Bool.true_and] at hal2
          rw [hob.out] at hri
          generalize h.ths.getD j th0 = t at r1 hri hal2 hno2
          have hv : ∃ T p, t.val = .iface T (.pointer (some ⟨p, 0, none⟩)) := ⟨_, _, rfl⟩
          obtain ⟨T, p, hv⟩ := hv
          rw [hv] at r1 hri
          rw [hA]
          clear hv hat hcs htj hob2
          try simp only at hal2
          try simp only at hno2
          generalize (limB t.ob && t.ob.items.all (rightP obs)) = rr at hri hal2 hno2
          unfold rightF at hri
          cases rr with
          | false =>
            have hfin : Fact (loadP obs = false) := ⟨by unfold loadP; rw [hno2 rfl, Bool.and_false]⟩
            replace hri := Fact.mk hri
            clear hno2 hal2
            go_wp2_with (refine wp_inv rfl _ _ _ _ (by rfl) (.iface T (.pointer (some ⟨p, 0, none⟩))) (by rfl) [.func (.func 71) #[.pointer (some ⟨h.g, 0, none⟩)] #[]] (by rfl) (hri.out.mono ?_); rintro e w9 ⟨rfl, hg9⟩; refine ⟨_, rfl, ?_⟩)
            go_ret2
            exact .inr ⟨hfin.out, rfl, (hm.join hmq).tail.gr hg9⟩
          | true =>
            replace hri := Fact.mk hri
            replace hal2 := Fact.mk hal2
            clear hno2
            go_wp2_with (refine wp_inv rfl _ _ _ _ (by rfl) (.iface T (.pointer (some ⟨p, 0, none⟩))) (by rfl) [.func (.func 71) #[.pointer (some ⟨h.g, 0, none⟩)] #[]] (by rfl) (hri.out.mono ?_); rintro e w9 ⟨rfl, hg9⟩; refine ⟨_, rfl, ?_⟩)
            go_roundw
            case rel => exact ⟨j + 1, by go_num, by omega, ⟨hal2.out⟩, hmq.gr hg9⟩
            case measure => exact measP_lt hjt
        · obtain rfl : j = k := by omega
          rw [List.take_of_length_le (by rw [hol.out]; exact Nat.le_refl _)] at hal
          have hfin : Fact (loadP obs = true) := ⟨by unfold loadP; rw [hall.out, hal.out]; rfl⟩
          go_wp2
          go_ret2
          exact .inl ⟨hfin.out, h, habs.out, hok.out, rfl, hm.join hmq⟩
end Go.Proofs.YtgflfpepfpekhaaGreat
namespace Go.Proofs.YtgflfpepfpekhaaGreat
open Go.RowKit Go.Mm
set_option maxHeartbeats 4000000
set_option maxRecDepth 100000
set_option linter.unusedSimpArgs false
def rightKeysB (ks : List Int) : Bool := decide (ks.length ≤ 256) && ks.all (fun k => decide (0 ≤ k)) && decide ks.Nodup
theorem rightKeys_ok (w : World) (A : Option Addr) (n c : Nat) (ks : List Int) (hx : Fact (RdC w 1 (.slice A n c) (nums .i64 ks))) (hn : n ≤ 1048576) :
    Calls Tryz.prog 86 #[.slice A n c] w fun e w' => e = .returned (.bool (rightKeysB ks)) ∧ Gr w w' := by
  have hl := Fact.mk hx.out.nlen
  by_cases q : 256 < n
  · have q' : decide ((n : Int) > 256) = true := decide_eq_true (by omega)
    have hb : Fact (rightKeysB ks = false) := ⟨by unfold rightKeysB; rw [hl.out, decide_eq_false (by omega), Bool.false_and, Bool.false_and]⟩
    go_enter Tryz.func86, Tryz.ntmps86
    go_wp2
    go_ret
    exact ⟨by rw [hb.out]; rfl, Gr.refl w⟩
  have q' : decide ((n : Int) > 256) = false := decide_eq_false (by omega)
  go_enter Tryz.func86, Tryz.ntmps86
  go_wp2
  go_loopw [3] (fun s3 W => ∃ k : Nat, s3 = .int .i64 k ∧ k ≤ n ∧ Fact ((∀ x, x ∈ ks.take k → 0 ≤ x) ∧ (ks.take k).Nodup) ∧ Gr w W) (fun s3 _ => n - (intOf s3).toNat)
  case atStart => exact ⟨0, rfl, by omega, ⟨by simp, by simp⟩, Gr.refl w⟩
  case round =>
    obtain ⟨k, rfl, hk, hgd, hgr⟩ := hrel
    by_cases hlt : k < n
    · obtain ⟨b, o, rfl, gk, _⟩ := (hx.out.gr hgr).num k hlt
      have hkl : k < ks.length := by rw [hl.out]; exact hlt
      have hsk := take_snoc' ks k hkl
      have hxm : ks.getD k 0 ∈ ks := by rw [List.getD_eq_getElem?_getD, List.getElem?_eq_getElem hkl]; exact List.getElem_mem _
      have hcap : n ≤ c := by obtain ⟨_, _, _, e, _, h2, _⟩ := hx.out; cases e; exact h2
      have hpre : ∀ W, Gr w W → RdC W 1 (.slice (some ⟨b, o, none⟩) k c) (nums .i64 (ks.take k)) := fun W hW => by
        have := (hx.out.gr hW).pre k (by omega)
        rwa [Nat.mul_one, show (nums .i64 ks).take k = nums .i64 (ks.take k) by simp [nums, List.map_take]] at this
      generalize ks.getD k 0 = x at gk hsk hxm
      by_cases qx : x < 0
      · have hb : Fact (rightKeysB ks = false) := ⟨by
          unfold rightKeysB
          have : ks.all (fun k => decide (0 ≤ k)) = false := by rw [List.all_eq_false]; exact ⟨x, hxm, by simp; omega⟩
          rw [this, Bool.and_false, Bool.false_and]⟩
        go_upto_region 6 with (fail)
        go_quiet (fail)
        go_wp2
        go_ret
        exact ⟨by rw [hb.out]; rfl, hgr.drewN _⟩
      have qx' : (x < 0) = False := eq_false qx
      have hfind := fun (m : Nat) => find_ok (wr.drewN m) (some ⟨b, o, none⟩) k c (ks.take k) ⟨hpre _ (hgr.drewN m)⟩ (by omega) x
      cases hidx : (ks.take k).idxOf? x with
      | some i =>
        have hb : Fact (rightKeysB ks = false) := ⟨by
          unfold rightKeysB
          have hin : x ∈ ks.take k := idx_mem (by rw [hidx]; rfl)
          have hnd : ¬ ks.Nodup := fun hd => by
            have h1 : (ks.take (k + 1)).Nodup := hd.sublist (List.take_sublist _ _)
            rw [hsk, List.nodup_append] at h1
            exact h1.2.2 x hin x (by simp) rfl
          rw [decide_eq_false hnd, Bool.and_false]⟩
        have hfi : findI (ks.take k) x = (i : Nat) := by unfold findI; rw [hidx]
        rw [hfi] at hfind
        replace hfind := Fact.mk hfind
        have hge : decide ((i : Int) ≥ 0) = true := decide_eq_true (by omega)
        replace qx := Fact.mk qx
        clear hidx hfi hsk hpre
        go_upto_region 6 with (fail)
        go_quiet (exact Calls.quiet_of_same (hfind.out _))
        go_wp2
        go_ret
        exact ⟨by rw [hb.out]; rfl, hgr.drewN _⟩
      | none =>
        have hfi : findI (ks.take k) x = -1 := by unfold findI; rw [hidx]
        rw [hfi] at hfind
        replace hfind := Fact.mk hfind
        have hgd2 : Fact ((∀ z, z ∈ ks.take (k + 1) → 0 ≤ z) ∧ (ks.take (k + 1)).Nodup) := ⟨by
          rw [hsk]
          refine ⟨fun z hz => ?_, ?_⟩
          · rcases List.mem_append.1 hz with hz | hz
            · exact hgd.out.1 z hz
            · simp at hz; omega
          · rw [List.nodup_append]
            exact ⟨hgd.out.2, by simp, fun a ha b hb => by simp at hb; subst hb; exact fun e => idx_nomem hidx (by rw [← e]; exact ha)⟩⟩
        replace qx := Fact.mk qx
        clear hidx hfi hsk hpre
        go_upto_region 6 with (fail)
        go_quiet (exact Calls.quiet_of_same (hfind.out _))
        go_wp2
        go_roundw
        case rel => exact ⟨k + 1, by go_num, by omega, hgd2, hgr.drewN _⟩
        case measure => exact measP_lt hlt
    · obtain rfl : k = n := by omega
      rw [List.take_of_length_le (by rw [hl.out]; exact Nat.le_refl _)] at hgd
      have hb : Fact (rightKeysB ks = true) := ⟨by unfold rightKeysB; rw [hl.out, decide_eq_true (by omega), decide_eq_true hgd.out.2, all_ge.2 hgd.out.1]; rfl⟩
      go_wp2
      go_ret
      exact ⟨by rw [hb.out]; rfl, hgr⟩
end Go.Proofs.YtgflfpepfpekhaaGreat
namespace Go.Proofs.YtgflfpepfpekhaaGreat
open Go.RowKit Go.Mm
set_option maxHeartbeats 4000000
set_option maxRecDepth 100000
set_option linter.unusedSimpArgs false
def tabB (o : Ob) : Bool :=
  if o.kind = 6 then decide ((o.items.length : Int) ≤ 4096) && ((o.keys.length : Int) == 0) && (o.cap == 0 && !o.shut) && (o.fn == 0)
  else if o.kind = 8 then decide ((o.items.length : Int) ≤ 4096) && ((o.keys.length : Int) == 0) && (o.cap == 0 && !o.shut) && decide (0 ≤ o.fn)
  else if o.kind = 9 then decide (1 ≤ o.cap) && decide (o.cap ≤ 64) && decide ((o.items.length : Int) ≤ o.cap) && ((o.keys.length : Int) == 0) && (o.fn == 0)
  else if o.kind = 7 then rightKeysB o.keys && ((o.keys.length : Int) == o.items.length) && (o.cap == 0 && !o.shut) && (o.fn == 0)
  else false
/-- P6.9's table, as the document says it. -/
def refB (l : List Ob) (o : Ob) : Bool := o.items.all (rightV l) && tabB o
theorem refRightO_ok (w : World) (A : Option Addr) (n c : Nat) (xs : List RO) (hx : Fact (ObsR w A n c xs)) (hn : n ≤ 2097152) (x : RO) (hr : Fact (x.reads w)) (hi : x.ob.items.length ≤ 1048576) (hkn : x.ob.keys.length ≤ 1048576)
    (hwf : ∀ v, v ∈ x.ob.items → -9223372036854775808 ≤ v.2 ∧ v.2 ≤ 9223372036854775807) :
    Calls Tryz.prog 73 #[.slice A n c, .agg (cRO x).toArray] w fun e w' => e = .returned (.bool (refB (xs.map (·.ob)) x.ob)) ∧ Gr w w' := by
  obtain ⟨I, ci, KA, kc, ⟨kd, items, keys, fn, cap, sh⟩⟩ := x
  simp only at hi hkn hwf
  obtain ⟨hri, hrk⟩ := hr.out
  simp only at hri hrk
  replace hri := Fact.mk hri
  replace hrk := Fact.mk hrk
  replace hwf := Fact.mk hwf
  clear hr
  have hright := fun (W : World) (hg : Gr w W) (v : V2) (hv : v ∈ items) => refRight_ok w W [] ((Mem.start w).gr hg) A n c xs ⟨hx.out.gr hg⟩ (by omega) v.1 v.2 (hwf.out v hv).1 (hwf.out v hv).2
  generalize xs.map (·.ob) = obs at hright ⊢
  replace hright := Fact.mk hright
  unfold cRO
  go_enter Tryz.func73, Tryz.ntmps73
  go_upto_region 1 with (fail)
  have hm1 := (Mem.start w).alloc (.cells (obC kd I items.length ci KA keys.length kc fn cap sh).toArray 59)
  generalize hgb : w.heap.size = gb at hm1 ⊢
  generalize hw1 : w.alloc (.cells (obC kd I items.length ci KA keys.length kc fn cap sh).toArray 59) = w1 at hm1
  try refine wp_world hw1 ?_
  clear hw1 hgb
  go_wp2
  go_loopw [5] (fun s5 W => ∃ k : Nat, s5 = .int .i64 k ∧ k ≤ items.length ∧ Fact ((items.take k).all (rightV obs) = true) ∧ Mem w W [Blk gb (.cells (obC kd I items.length ci KA keys.length kc fn cap sh).toArray 59)]) (fun s5 _ => items.length - (intOf s5).toNat)
  case atStart => exact ⟨0, rfl, by omega, ⟨rfl⟩, hm1⟩
  case round =>
    obtain ⟨k, rfl, hk, hall, hmr⟩ := hrel
    clear hm1
    have c1 := hmr.cell m0 1 rfl
    by_cases hlt : k < items.length
    · obtain ⟨b, o, hI, g1, g2, _, hkl⟩ := rdV_at (hri.out.gr hmr.below) k hlt
      have hsn := take_all (rightV obs) items k (0, 0) hlt
      have hno := take_all_no (p := rightV obs) (xs := items) (k := k) (d := (0, 0)) hlt
      have hxm : items.getD k (0, 0) ∈ items := by rw [List.getD_eq_getElem?_getD, List.getElem?_eq_getElem hlt]; exact List.getElem_mem _
      have hc := hright.out wr hmr.below _ hxm
      generalize items.getD k (0, 0) = y at g1 g2 hsn hno hc
      rw [hI] at c1
      replace hI := Fact.mk hI
      clear hxm
      cases hr : rightV obs y with
      | false =>
        have hfin : Fact (refB obs ⟨kd, items, keys, fn, cap, sh⟩ = false) := ⟨by unfold refB; rw [hno hr, Bool.false_and]⟩
        rw [show ((y.1, y.2) : V2) = y from rfl, hr] at hc
        replace hc := Fact.mk hc
        clear hno hsn hr
        go_wp2_with (refine wp_rng rfl 36 _ rfl b (o + k * 2) rfl (cV y) (rng2 g1 g2) row_VH sz_V ?_)
        refine hc.out.mono ?_
        rintro e w6 ⟨rfl, hg6⟩
        go_wp2
        go_ret
        exact ⟨by rw [hfin.out]; rfl, Gr.trans hmr.below hg6⟩
      | true =>
        rw [show ((y.1, y.2) : V2) = y from rfl, hr] at hc
        rw [hr, hall.out] at hsn
        replace hc := Fact.mk hc
        replace hsn := Fact.mk hsn
        clear hno hr
        go_wp2_with (refine wp_rng rfl 36 _ rfl b (o + k * 2) rfl (cV y) (rng2 g1 g2) row_VH sz_V ?_)
        refine hc.out.mono ?_
        rintro e w6 ⟨rfl, hg6⟩
        go_wp2
        go_roundw
        case rel => exact ⟨k + 1, by go_num, by omega, ⟨hsn.out⟩, hmr.gr hg6⟩
        case measure => exact measP_lt hlt
    · obtain rfl : k = items.length := by omega
      rw [List.take_of_length_le (Nat.le_refl _)] at hall
      have hrf : Fact (refB obs ⟨kd, items, keys, fn, cap, sh⟩ = tabB ⟨kd, items, keys, fn, cap, sh⟩) := ⟨by unfold refB; rw [hall.out, Bool.true_and]⟩
      have c0 := hmr.cell m0 0 rfl
      have c2 := hmr.cell m0 2 rfl
      have c3 := hmr.cell m0 3 rfl
      have c4 := hmr.cell m0 4 rfl
      have c5 := hmr.cell m0 5 rfl
      obtain ⟨op, hop⟩ : ∃ op : Bool, op = (cap == 0 && !sh) := ⟨_, rfl⟩
      go_upto_region 7 with (fail)
      go_cut [7] (fun s7 W => s7 = .bool op ∧ W = wr)
      case first =>
        by_cases qc : cap = 0
        · have qc' : (cap == 0) = true := beq_iff_eq.2 qc
          rw [qc', Bool.true_and] at hop
          clear qc
          subst hop
          go_wp2
          go_meet
          case rel => exact ⟨rfl, rfl⟩
        · have qc' : (cap == 0) = false := beq_eq_false_iff_ne.2 qc
          rw [qc', Bool.false_and] at hop
          clear qc
          subst hop
          go_wp2
          go_meet
          case rel => exact ⟨rfl, rfl⟩
      case rest =>
        obtain ⟨rfl, hwc⟩ := hcut
        rw [hwc]
        clear hwc wc
        have hrf2 : refB obs ⟨kd, items, keys, fn, cap, sh⟩ = _ := hrf.out
        unfold tabB at hrf2
        simp only [← hop] at hrf2
        have hrk2 := rightKeys_ok wr KA keys.length kc keys ⟨hrk.out.gr hmr.below⟩ hkn
        clear hop hrf
        by_cases q6 : kd = 6
        · subst q6
          rw [if_pos rfl] at hrf2
          replace hrf2 := Fact.mk hrf2
          clear hrk2
          go_wp2
          all_goals
            go_ret
            exact ⟨by rw [hrf2.out]; simp [*] <;> (intros; omega), hmr.below⟩
        rw [if_neg q6] at hrf2
        by_cases q8 : kd = 8
        · subst q8
          rw [if_pos rfl] at hrf2
          replace hrf2 := Fact.mk hrf2
          clear hrk2
          go_wp2
          all_goals
            go_ret
            exact ⟨by rw [hrf2.out]; simp [*] <;> (intros; omega), hmr.below⟩
        rw [if_neg q8] at hrf2
        by_cases q9 : kd = 9
        · subst q9
          rw [if_pos rfl] at hrf2
          replace hrf2 := Fact.mk hrf2
          clear hrk2
          go_wp2
          all_goals
            go_ret
            exact ⟨by rw [hrf2.out]; simp [*] <;> (intros; omega), hmr.below⟩
        rw [if_neg q9] at hrf2
        by_cases q7 : kd = 7
        · subst q7
          rw [if_pos rfl] at hrf2
          replace hrf2 := Fact.mk hrf2
          replace hrk2 := Fact.mk hrk2
          go_wp2_with fail
          refine hrk2.out.mono ?_
          rintro e w6 ⟨rfl, hg6⟩
          have hm6 := hmr.gr hg6
          have c2 := hm6.cell m0 2 rfl
          have c3 := hm6.cell m0 3 rfl
          have c1 := hm6.cell m0 1 rfl
          cases hb : rightKeysB keys with
          | false =>
            go_wp2
            all_goals
              go_ret
              exact ⟨by rw [hrf2.out, hb]; simp [*], hm6.below⟩
          | true =>
            go_wp2
            all_goals
              go_ret
              exact ⟨by rw [hrf2.out, hb]; simp [*] <;> (intros; omega), hm6.below⟩
        rw [if_neg q7] at hrf2
        replace hrf2 := Fact.mk hrf2
        replace q6 : (kd == 6) = false := beq_eq_false_iff_ne.2 q6
        replace q7 : (kd == 7) = false := beq_eq_false_iff_ne.2 q7
        replace q8 : (kd == 8) = false := beq_eq_false_iff_ne.2 q8
        replace q9 : (kd == 9) = false := beq_eq_false_iff_ne.2 q9
        go_wp2
        go_ret
        exact ⟨by rw [hrf2.out]; rfl, hmr.below⟩
end Go.Proofs.YtgflfpepfpekhaaGreat
namespace Go.Proofs.YtgflfpepfpekhaaGreat
open Go.RowKit Go.Mm
set_option maxHeartbeats 4000000
set_option maxRecDepth 100000
set_option linter.unusedSimpArgs false
theorem getD_mem {α : Type} (xs : List α) (k : Nat) (d : α) (hk : k < xs.length) : xs.getD k d ∈ xs := by
  rw [List.getD_eq_getElem?_getD, List.getElem?_eq_getElem hk]
  exact List.getElem_mem _
theorem copyObjects_ok (w0 w : World) (L : List Chunk) (hm : Mem w0 w L) (A : Option Addr) (n c : Nat) (xs : List RO) (hx : Fact (ObsR w A n c xs)) (hn : n ≤ 2097152) (hsz : ∀ x, x ∈ xs → x.ob.items.length ≤ 1048576 ∧ x.ob.keys.length ≤ 1048576) :
    Calls Tryz.prog 35 #[.slice A n c] w fun e w' => ∃ (A' : Option Addr) (c' : Nat) (ys : List RO), e = .returned (.slice A' n c') ∧ ys.map (·.ob) = xs.map (·.ob) ∧ Mem w0 w' (Own 6 (.slice A' n c') (ys.flatMap cRO) :: (ys.map RoC ++ L)) := by
  obtain ⟨iO, hiO, hz0, hz1, hz2⟩ := info_parts inf_O
  have hl := Fact.mk hx.out.len
  replace hsz := Fact.mk hsz
  go_enter Tryz.func35, Tryz.ntmps35
  go_wp2
  go_loopw [3, 4] (fun s3 s4 W => ∃ (k : Nat) (B : Option Addr) (d : Nat) (ys : List RO), s4 = .int .i64 k ∧ k ≤ n ∧ s3 = .slice B k d ∧ Fact (ys.map (·.ob) = (xs.take k).map (·.ob)) ∧ Mem w W (Own 6 (.slice B k d) (ys.flatMap cRO) :: (ys.map RoC ++ []))) (fun _ s4 _ => n - (intOf s4).toNat)
  case atStart => exact ⟨0, none, 0, [], rfl, by omega, rfl, ⟨rfl⟩, (Mem.start w).nil 6 none⟩
  case round =>
    obtain ⟨k, B, d, ys, rfl, hk, rfl, hys, hmr⟩ := hrel
    by_cases hlt : k < n
    · obtain ⟨bb, o, rfl, hc, hkl, hrd⟩ := (hx.out.gr hmr.below).at k hlt
      have hszx := hsz.out _ (getD_mem xs k ro0 hkl)
      have htk : xs.take (k + 1) = xs.take k ++ [xs.getD k ro0] := by rw [List.take_succ_eq_append_getElem hkl]; simp [hkl]
      generalize xs.getD k ro0 = x at hc hrd hszx htk
      have hcp := copyObject_ok w wr _ hmr x ⟨hrd⟩ hszx.1 hszx.2
      replace hcp := Fact.mk hcp
      replace hc := Fact.mk hc
      replace htk := Fact.mk htk
      go_wp2_with (refine wp_rng rfl 59 _ rfl bb (o + k * 6) rfl (cRO x) hc.out row_O sz_O ?_)
      refine hcp.out.mono ?_
      rintro e w2 ⟨y, rfl, hyo, hm3⟩
      clear hmr hcp
      replace hyo := Fact.mk hyo
      go_wp2_with (first | (refine wp_setrow rfl 59 _ _ rfl w2.heap.size rfl 59 _ (cRO y) rfl (hm3.alloc (.cells (obC 0 none 0 0 none 0 0 0 0 false).toArray 59)) sz_O rfl (cRO_one y) ?_; intro w4 hm4) | (refine wp_rng rfl 59 _ rfl w2.heap.size 0 rfl [.int .i64 y.ob.kind, .slice y.A y.ob.items.length y.c, .slice y.KA y.ob.keys.length y.kc, .int .i64 y.ob.fn, .int .i64 y.ob.cap, .bool y.ob.shut] (rng_blk hm4 m0) row_O sz_O ?_) | (at_builtin; refine wp_app rfl _ _ _ rfl 59 iO _ 6 80 ty_Os hiO hz0 hz1 hz2 rfl B k d _ rfl (hm4.alloc _).pull3 _ 1 1 [.int .i64 y.ob.kind, .slice y.A y.ob.items.length y.c, .slice y.KA y.ob.keys.length y.kc, .int .i64 y.ob.fn, .int .i64 y.ob.cap, .bool y.ob.shut] rfl (RdC.lit _ _ _ _ _ rfl (by simp [maxLen]) (cRO_one y)) (by unfold maxLen; omega) (by omega) ?_; intro A5 c5 w5 hm5))
      have hz : Mem w w5 (Own 6 (.slice A5 (k + 1) c5) ((ys ++ [y]).flatMap cRO) :: ((ys ++ [y]).map RoC ++ [])) := by
        have h1 := hm5.sub (List.Sublist.cons_cons _ ((List.sublist_cons_self _ _).trans (List.sublist_cons_self _ _)))
        have e1 : (ys ++ [y]).flatMap cRO = ys.flatMap cRO ++ cRO y := by simp
        have e2 : (ys ++ [y]).map RoC ++ [] = ys.map RoC ++ RoC y :: [] := by simp
        rw [e1, e2]
        exact h1.perm (List.perm_middle.symm.cons _)
      go_roundw
      case rel => exact ⟨k + 1, A5, c5, ys ++ [y], by go_num, by omega, rfl, ⟨by rw [htk.out, List.map_append, List.map_append, hys.out]; simp [hyo.out]⟩, hz⟩
      case measure => exact measP_lt hlt
    · obtain rfl : k = n := by omega
      rw [List.take_of_length_le (by rw [hl.out]; exact Nat.le_refl _)] at hys
      go_wp2
      go_ret
      refine ⟨B, d, rfl, ys, hys.out, ?_⟩
      have := hm.join hmr
      simpa using this
/-- Whether objects make a heap, as the document says it. -/
def loadB (l : List Ob) : Bool := l.all (refB l)
theorem refB_eq (l : List Ob) (o : Ob) : refB l o = (madeB o && (limB o && o.items.all (rightV l))) := by
  unfold refB tabB madeB limB rightKeysB
  by_cases h6 : o.kind = 6
  · simp only [h6, if_true]
    rw [show decide ((o.items.length : Int) ≤ 4096) = decide (o.items.length ≤ 4096) from decide_eq_decide.2 (by omega)]
    have e : (((o.keys.length : Int) == 0) : Bool) = (o.keys.length == 0) := by rw [Bool.eq_iff_iff]; simp
    rw [e]
    cases o.items.all (rightV l) <;> cases decide (o.items.length ≤ 4096) <;> cases (o.keys.length == 0) <;> cases (o.cap == 0 && !o.shut) <;> cases (o.fn == 0) <;> rfl
  by_cases h8 : o.kind = 8
  · simp only [h8, if_true]
    rw [show decide ((o.items.length : Int) ≤ 4096) = decide (o.items.length ≤ 4096) from decide_eq_decide.2 (by omega)]
    have e : (((o.keys.length : Int) == 0) : Bool) = (o.keys.length == 0) := by rw [Bool.eq_iff_iff]; simp
    rw [e, if_neg (by decide), if_neg (by decide), if_neg (by decide), if_neg (by decide)]
    cases o.items.all (rightV l) <;> cases decide (o.items.length ≤ 4096) <;> cases (o.keys.length == 0) <;> cases (o.cap == 0 && !o.shut) <;> cases decide (0 ≤ o.fn) <;> rfl
  by_cases h9 : o.kind = 9
  · simp only [h9]
    have e : (((o.keys.length : Int) == 0) : Bool) = (o.keys.length == 0) := by rw [Bool.eq_iff_iff]; simp
    rw [e]
    simp only [show ¬ (9 : Int) = 6 by decide, show ¬ (9 : Int) = 7 by decide, show ¬ (9 : Int) = 8 by decide, if_false, if_true]
    cases o.items.all (rightV l) <;> cases decide ((o.items.length : Int) ≤ o.cap) <;> cases (o.keys.length == 0) <;> cases decide (1 ≤ o.cap) <;> cases decide (o.cap ≤ 64) <;> cases (o.fn == 0) <;> rfl
  by_cases h7 : o.kind = 7
  · simp only [h7]
    have e : (((o.keys.length : Int) == o.items.length) : Bool) = (o.keys.length == o.items.length) := by rw [Bool.eq_iff_iff]; simp; omega
    rw [e]
    simp only [show ¬ (7 : Int) = 6 by decide, show ¬ (7 : Int) = 9 by decide, show ¬ (7 : Int) = 8 by decide, if_false, if_true]
    cases o.items.all (rightV l) <;> cases decide (o.keys.length ≤ 256) <;> cases (o.keys.length == o.items.length) <;> cases o.keys.all (fun k => decide (0 ≤ k)) <;> cases decide o.keys.Nodup <;> cases (o.cap == 0 && !o.shut) <;> cases (o.fn == 0) <;> rfl
  · simp [h6, h7, h8, h9]
theorem madeB_kind {o : Ob} (h : madeB o = true) : o.kind = 6 ∨ o.kind = 7 ∨ o.kind = 8 ∨ o.kind = 9 := by
  unfold madeB at h
  by_cases h6 : o.kind = 6
  · exact .inl h6
  by_cases h8 : o.kind = 8
  · exact .inr (.inr (.inl h8))
  by_cases h9 : o.kind = 9
  · exact .inr (.inr (.inr h9))
  by_cases h7 : o.kind = 7
  · exact .inr (.inl h7)
  rw [if_neg h6, if_neg h8, if_neg h9, if_neg h7] at h
  cases h
theorem load_eq (l : List Ob) : loadP l = loadB l := by
  unfold loadP loadB
  cases hm : l.all madeB with
  | false =>
    rw [Bool.false_and]
    symm
    rw [List.all_eq_false] at hm ⊢
    obtain ⟨o, ho, hn⟩ := hm
    refine ⟨o, ho, ?_⟩
    rw [refB_eq]
    simp only [Bool.not_eq_true] at hn
    rw [hn, Bool.false_and]
    decide
  | true =>
    rw [Bool.true_and]
    have hk : ∀ o, o ∈ l → o.kind = 6 ∨ o.kind = 7 ∨ o.kind = 8 ∨ o.kind = 9 := fun o ho => madeB_kind (List.all_eq_true.1 hm o ho)
    have hp : rightP l = rightV l := funext fun v => rightP_eq hk v
    rw [hp, Bool.eq_iff_iff, List.all_eq_true, List.all_eq_true]
    constructor
    · intro h o ho
      rw [refB_eq, List.all_eq_true.1 hm o ho, Bool.true_and]
      exact h o ho
    · intro h o ho
      have := h o ho
      rw [refB_eq, Bool.and_eq_true] at this
      exact this.2
def RLoadQ (w0 : World) (L : List Chunk) (b s : Int) (l : List Ob) (e : Ending) (w : World) : Prop :=
  (loadB l = true ∧ ∃ r : Rf, r.abs = ⟨b, s, l⟩ ∧ r.Ok ∧ e = .returned (.tuple #[.pointer (some ⟨r.g, 0, none⟩), .bool true]) ∧ Mem w0 w (RfC r :: L)) ∨ (loadB l = false ∧ e = .returned (.tuple #[.pointer none, .bool false]) ∧ Mem w0 w L)
theorem refLoad_ok (w0 w : World) (L : List Chunk) (hm : Mem w0 w L) (b s : Int) (hb : b ≤ 9223372036854775807) (hs : s ≤ 9223372036854775807) (A : Option Addr) (n c : Nat) (xs : List RO) (hx : Fact (ObsR w A n c xs)) (hn : n ≤ 2097152)
    (hsz : ∀ x, x ∈ xs → x.ob.items.length ≤ 1048576 ∧ x.ob.keys.length ≤ 1048576) (hwf : ∀ x, x ∈ xs → ∀ v, v ∈ x.ob.items → -9223372036854775808 ≤ v.2 ∧ v.2 ≤ 9223372036854775807) :
    Calls Tryz.prog 36 #[.int .i64 b, .int .i64 s, .slice A n c] w fun e w' => RLoadQ w0 L (max b 0) (max s 0) (xs.map (·.ob)) e w' := by
  have hl := Fact.mk hx.out.len
  replace hsz := Fact.mk hsz
  replace hwf := Fact.mk hwf
  obtain ⟨obs, hobs⟩ : ∃ obs, xs.map (·.ob) = obs := ⟨_, rfl⟩
  have hol : Fact (obs.length = n) := ⟨by rw [← hobs, List.length_map]; exact hl.out⟩
  have hoa : Fact (∀ k, k < n → obs.getD k ob0 = (xs.getD k ro0).ob) := ⟨fun k hk => by rw [← hobs]; simp [show k < xs.length by rw [hl.out]; exact hk]⟩
  have hright := fun (W : World) (hg : Gr w W) (k : Nat) (hk : k < n) => refRightO_ok W A n c xs ⟨hx.out.gr hg⟩ hn (xs.getD k ro0) ⟨hx.out.gr hg |>.at k hk |>.choose_spec.choose_spec.2.2.2⟩ (hsz.out _ (getD_mem xs k ro0 (by rw [hl.out]; exact hk))).1 (hsz.out _ (getD_mem xs k ro0 (by rw [hl.out]; exact hk))).2 (hwf.out _ (getD_mem xs k ro0 (by rw [hl.out]; exact hk)))
  rw [hobs] at hright ⊢
  replace hobs := Fact.mk hobs
  replace hright := Fact.mk hright
  go_enter Tryz.func36, Tryz.ntmps36
  go_wp2
  go_loopw [8] (fun s8 W => ∃ k : Nat, s8 = .int .i64 k ∧ k ≤ n ∧ Fact ((obs.take k).all (refB obs) = true) ∧ Gr w W) (fun s8 _ => n - (intOf s8).toNat)
  case atStart => exact ⟨0, rfl, by omega, ⟨rfl⟩, Gr.refl w⟩
  case round =>
    obtain ⟨k, rfl, hk, hall, hgr⟩ := hrel
    by_cases hlt : k < n
    · have hr := hright.out wr hgr k hlt
      obtain ⟨bb, o, rfl, hc, hkl, hrd⟩ := (hx.out.gr hgr).at k hlt
      have hsn := take_all (refB obs) obs k ob0 (by rw [hol.out]; exact hlt)
      have hno := take_all_no (p := refB obs) (xs := obs) (k := k) (d := ob0) (by rw [hol.out]; exact hlt)
      rw [hoa.out k hlt] at hsn hno
      generalize xs.getD k ro0 = x at hr hc hrd hsn hno
      replace hc := Fact.mk hc
      cases hv : refB obs x.ob with
      | false =>
        have hfin : Fact (loadB obs = false) := ⟨hno hv⟩
        rw [hv] at hr
        replace hr := Fact.mk hr
        clear hno hsn hv
        go_wp2_with (refine wp_rng rfl 59 _ rfl bb (o + k * 6) rfl (cRO x) hc.out row_O sz_O ?_)
        refine hr.out.mono ?_
        rintro e w2 ⟨rfl, hg2⟩
        go_wp2
        go_ret2
        exact .inr ⟨hfin.out, rfl, hm.gr (Gr.trans hgr hg2)⟩
      | true =>
        rw [hv, hall.out] at hsn
        rw [hv] at hr
        replace hr := Fact.mk hr
        replace hsn := Fact.mk hsn
        clear hno hv
        go_wp2_with (refine wp_rng rfl 59 _ rfl bb (o + k * 6) rfl (cRO x) hc.out row_O sz_O ?_)
        refine hr.out.mono ?_
        rintro e w2 ⟨rfl, hg2⟩
        go_wp2
        go_roundw
        case rel => exact ⟨k + 1, by go_num, by omega, ⟨hsn.out⟩, Gr.trans hgr hg2⟩
        case measure => exact measP_lt hlt
    · obtain rfl : k = n := by omega
      rw [List.take_of_length_le (by rw [hol.out]; exact Nat.le_refl _)] at hall
      have hfin : Fact (loadB obs = true) := ⟨hall.out⟩
      go_wp2_with fail
      refine (refNew_ok wr wr [] (Mem.start wr) b s).mono ?_
      rintro e w3 ⟨g, rfl, hm3⟩
      have hcp := copyObjects_ok wr w3 _ hm3 A k c xs ⟨hx.out.gr (Gr.trans hgr hm3.below)⟩ hn hsz.out
      replace hcp := Fact.mk hcp
      go_wp2_with fail
      refine hcp.out.mono ?_
      rintro e w4 ⟨A4, c4, ys, rfl, hys, hm4⟩
      clear hcp hm3
      rw [hobs.out] at hys
      have hyl : ys.length = k := by rw [← hol.out, ← hys, List.length_map]
      replace hys := Fact.mk hys
      replace hyl := Fact.mk hyl
      have hm5 : Mem wr w4 (Blk g (.cells [.int .i64 (max b 0), .int .i64 (max s 0), .slice none 0 0].toArray 129) :: Own 6 (.slice none 0 0) [] :: Own 6 (.slice A4 k c4) (ys.flatMap cRO) :: (ys.map RoC ++ [])) := by
        have h1 : Mem wr w4 (RfC ⟨g, max b 0, max s 0, none, 0, []⟩ :: (Own 6 (.slice A4 k c4) (ys.flatMap cRO) :: ys.map RoC ++ [])) := Mem.mid (A := Own 6 (.slice A4 k c4) (ys.flatMap cRO) :: ys.map RoC) hm4
        exact Mem.opn h1
      clear hm4
      go_wp2_with (refine wp_setat rfl 60 _ _ rfl g 2 rfl 129 _ [.slice A4 k c4] [.int .i64 (max b 0), .int .i64 (max s 0), .slice A4 k c4] (.slice A4 k c4) rfl rfl hm5 sz_Os (by simp) (one_one rfl) rfl ?_; intro w6 hm6)
      go_ret2
      have hz : Mem wr w6 (RfC ⟨g, max b 0, max s 0, A4, c4, ys⟩ :: []) := by
        have h1 := hm6.drop2
        refine Mem.sht (Rf.chunks ⟨g, max b 0, max s 0, A4, c4, ys⟩) ?_
        unfold Rf.chunks Rf.cells
        simp only [hyl.out]
        exact h1
      refine .inl ⟨hfin.out, ⟨g, max b 0, max s 0, A4, c4, ys⟩, by unfold Rf.abs; rw [hys.out], ⟨fun x hxm => ?_, by simp only [hyl.out]; omega, by show (0 : Int) ≤ max b 0; omega, by show max b 0 ≤ _; omega, by show (0 : Int) ≤ max s 0; omega, by show max s 0 ≤ _; omega⟩, rfl, (hm.gr hgr).join hz⟩
      have h1 : x.ob ∈ obs := by rw [← hys.out]; exact List.mem_map_of_mem hxm
      rw [← hobs.out] at h1
      obtain ⟨z, hz1, hz2⟩ := List.mem_map.1 h1
      rw [← hz2]
      exact hsz.out z hz1
end Go.Proofs.YtgflfpepfpekhaaGreat
namespace Go.Proofs.YtgflfpepfpekhaaGreat
open Go.RowKit Go.Mm
set_option maxHeartbeats 8000000
set_option maxRecDepth 100000
set_option linter.unusedSimpArgs false
/-- A list lent: marks behind it. -/
def roomV (y : RO) : Value := .slice y.A (y.ob.items.length + 64) y.c
def LentC (y : RO) : Chunk := Chunk.all [Own 2 (roomV y) (fV (y.ob.items ++ marksV 64)), Own 1 (.slice y.KA y.ob.keys.length y.kc) (nums .i64 y.ob.keys)]
theorem LentC.room {y : RO} {w : World} (h : (LentC y).ok w) : RdC w 2 (.slice y.A (y.ob.items.length + 64) y.c) (fV (y.ob.items ++ marksV 64)) := (h.1 _ (.head _) : OwnAt _ _ _ w).rd
theorem LentC.reads {y : RO} {w : World} (h : (LentC y).ok w) : y.reads w := ⟨rd_pre cV_len (LentC.room h) rfl, (h.1 _ (.tail _ (.head _)) : OwnAt _ _ _ w).rd⟩
end Go.Proofs.YtgflfpepfpekhaaGreat
namespace Go.Proofs.YtgflfpepfpekhaaGreat
open Go.RowKit Go.Mm Go.WideShapes Go.ChangeShapes
set_option maxHeartbeats 1000000
set_option maxRecDepth 100000
section
variable {H : Type} {enc : TypeId × Value → H} {w : World}
end
end Go.Proofs.YtgflfpepfpekhaaGreat
namespace Go.Proofs.YtgflfpepfpekhaaGreat
open Go.RowKit Go.Mm
set_option maxHeartbeats 1000000
set_option maxRecDepth 100000
/-- The function's number and the values bound, whatever the program. -/
def calleeF (objs : List Ob) (v1 v2 : Int) : Option (Int × List V2) :=
  if v1 = 5 then some (v2, [])
  else if v1 = 8 ∧ 0 ≤ v2 ∧ v2 < objs.length ∧ (objs.getD v2.toNat ob0).kind = 8 then some ((objs.getD v2.toNat ob0).fn, (objs.getD v2.toNat ob0).items)
  else none
/-- Of a function and the values bound: number, values bound, trap. -/
def calleeG (G : Option Fn) (fn : Int) (l : List V2) (n : Int) : Int × List V2 × Int :=
  match G with
  | none => (0, [], 1)
  | some g => if n < 0 ∨ g.params < l.length ∨ wrap64 (g.params - l.length) ≠ n then (0, [], 5) else (fn, l, 0)
def calleeD (p : Pg) (objs : List Ob) (v1 v2 n : Int) : Int × List V2 × Int :=
  match calleeF objs v1 v2 with
  | none => (0, [], 1)
  | some x => calleeG (fnAt p x.1) x.1 x.2 n
/-- Handed out: number, list, trap. -/
def CalQ (w0 : World) (L : List Chunk) (D : Int × List V2 × Int) (e : Ending) (w : World) : Prop :=
  ∃ A c, e = .returned (.tuple #[.int .i64 D.1, .slice A D.2.1.length c, .int .i64 D.2.2]) ∧ Mem w0 w (Own 2 (.slice A D.2.1.length c) (fV D.2.1) :: L)
theorem CalQ.no {w0 w : World} {L : List Chunk} {t : Int} (h : Mem w0 w L) : CalQ w0 L (0, [], t) (.returned (.tuple #[.int .i64 0, .slice none 0 0, .int .i64 t])) w := ⟨none, 0, rfl, h.nil 2 none⟩
theorem calleeG_lent {w : World} {p : Pg} {KA : Option Addr} {kc : Nat} {FA : Option Addr} {fc : Nat} {hs : List Fn} (h : LentOk w p KA kc FA fc hs) (hp : PgOk w p) (fn : Int) (l : List V2) (n : Int) :
    calleeG (fnAt (lentP p KA kc FA fc hs) fn) fn l n = calleeG (fnAt p fn) fn l n := by
  have hfl : p.fns.length = p.fn := rd_len cF_len (by omega) hp.fns
  have hl := h.len
  unfold fnAt lentP
  by_cases hi : 0 ≤ fn ∧ fn < p.fn
  · simp only [if_pos hi]
    have e : (List.zipWith lentF p.fns hs).getD fn.toNat fn0 = lentF (p.fns.getD fn.toNat fn0) (hs.getD fn.toNat fn0) := by
      have h1 := getD_some p.fns fn0 fn.toNat (by omega)
      have h2 := getD_some hs fn0 fn.toNat (by omega)
      rw [List.getD_eq_getElem?_getD, List.getElem?_zipWith, h1, h2]
      rfl
    rw [e]
    rfl
  · simp only [if_neg hi]
theorem calleeD_lent {w : World} {p : Pg} {KA : Option Addr} {kc : Nat} {FA : Option Addr} {fc : Nat} {hs : List Fn} (h : LentOk w p KA kc FA fc hs) (hp : PgOk w p) (objs : List Ob) (v1 v2 n : Int) :
    calleeD (lentP p KA kc FA fc hs) objs v1 v2 n = calleeD p objs v1 v2 n := by
  unfold calleeD
  cases calleeF objs v1 v2 with
  | none => rfl
  | some x => exact calleeG_lent h hp x.1 x.2 n
end Go.Proofs.YtgflfpepfpekhaaGreat
namespace Go.Proofs.YtgflfpepfpekhaaGreat
open Go.RowKit Go.Mm
set_option maxHeartbeats 4000000
set_option maxRecDepth 100000
theorem Mem.solo {w : World} {c : Chunk} (h : c.ok w) (hf : ∀ k, c.foot k → k < w.heap.size) : Mem { w with heap := #[] } w [c] :=
  ⟨⟨rfl, rfl, rfl, by simp, fun k hk => by simp at hk⟩, by simpa using h, fun d hd k hk => by simp at hd; subst hd; exact ⟨by simp, hf k hk⟩, by simp⟩
/-- A heap lies there. -/
structure HpR (w : World) (h : Hp) : Prop where
  ok : (HpC h).ok w
  low : ∀ k, (HpC h).foot k → k < w.heap.size
theorem HpR.gr {w w' : World} {h : Hp} (hr : HpR w h) (hg : Gr w w') : HpR w' h :=
  ⟨(HpC h).loc w w' (fun k hk => hg.block k (hr.low k hk)) hr.ok, fun k hk => Nat.lt_of_lt_of_le (hr.low k hk) hg.size⟩
theorem Mem.hpR {w0 w : World} {L : List Chunk} {h : Hp} (hm : Mem w0 w L) (hh : HpC h ∈ L) : HpR w h := ⟨hm.ok _ hh, fun k hk => (hm.rng _ hh k hk).2⟩
theorem heapLenR_ok (w : World) (h : Hp) (hr : HpR w h) :
    Calls Tryz.prog 40 #[.pointer (some ⟨h.g, 0, none⟩)] w fun e w' => e = .returned (.int .i64 h.objs.length) ∧ w' = w := by
  have := heapLen_ok _ w _ h (Mem.solo hr.ok hr.low) (.head _)
  rwa [← h.abs_len] at this
theorem objectR_ok (w : World) (h : Hp) (hr : Fact (HpR w h)) (hok : Fact h.Ok) (k : Nat) (hk : k < h.objs.length) :
    Calls Tryz.prog 41 #[.pointer (some ⟨h.g, 0, none⟩), .int .i64 k] w fun e w' => ∃ v, e = .returned (.tuple #[v, .bool true]) ∧ ObQ w [] (h.objs.getD k ob0) v w' := by
  have hlen : h.objs.length = h.ths.length := h.abs_len
  have hk : k < h.ths.length := by omega
  have q0' : decide ((k : Int) < 0) = false := decide_eq_false (by omega)
  have q1' : decide ((k : Int) ≥ h.ths.length) = false := decide_eq_false (by omega)
  have hat : h.objs.getD k ob0 = (h.ths.getD k th0).ob := by
    simp [Hp.objs, hk]
  obtain ⟨t, ht⟩ : ∃ t, h.ths.getD k th0 = t := ⟨_, rfl⟩
  rw [hat, ht]
  clear hat hlen
  replace ht := Fact.mk ht
  have hm0 := (Mem.start w).alloc (.cells (obC 0 none 0 0 none 0 0 0 0 false).toArray 59)
  go_enter Tryz.func41, Tryz.ntmps41
  go_upto_region 1 with (fail)
  generalize hgb : w.heap.size = gb at hm0 ⊢
  generalize hw1 : w.alloc (.cells (obC 0 none 0 0 none 0 0 0 0 false).toArray 59) = w1 at hm0
  try refine wp_world hw1 ?_
  clear hw1 hgb
  have hr1 := hr.out.gr hm0.below
  obtain ⟨_, _, c2, _, _, hat⟩ := Hp.read (Mem.solo hr1.ok hr1.low) (.head _)
  obtain ⟨b, o, hA, r1, hcs⟩ := hat k hk
  have htk : (h.ths.getD k th0).Ok := by
    have := hok.out.each _ (List.getElem_mem hk)
    simpa [hk] using this
  clear hat hr1
  rw [ht.out] at r1 hcs htk
  rw [hA] at c2
  have hI := Fact.mk (objI_ok w w1 _ hm0 t htk hcs)
  have htk := Fact.mk htk
  clear hcs
  have hv : ∃ T p, t.val = .iface T (.pointer (some ⟨p, 0, none⟩)) := ⟨_, _, rfl⟩
  obtain ⟨T, p, hv⟩ := hv
  rw [hv] at r1 hI
  clear hv
  go_wp2_with (first | (refine wp_inv rfl _ _ _ _ (by rfl) (.iface T (.pointer (some ⟨p, 0, none⟩))) (by rfl) [] (by rfl) (hI.out.mono ?_); rintro e w2 ⟨v, rfl, A2, d2, K2, k2, rfl, hm2⟩; refine ⟨_, rfl, ?_⟩) | (refine wp_setrow rfl 59 _ _ rfl gb rfl 59 _ (obC t.ob.kind A2 t.ob.items.length d2 K2 t.ob.keys.length k2 t.ob.fn t.ob.cap t.ob.shut) rfl (hm2.perm ((List.Perm.swap _ _ _).cons _ |>.trans (List.Perm.swap _ _ _))) sz_O rfl (obC_one _ _ _ _ _ _ _ _ _ _) ?_; intro w3 hm3))
  exact bodyPost_ret (Mm.res_cell_tmp rfl _ gb 59 (obC t.ob.kind A2 t.ob.items.length d2 K2 t.ob.keys.length k2 t.ob.fn t.ob.cap t.ob.shut) (0, 0) rfl hm3 m0 row_O sz_O) rfl ⟨_, rfl, A2, d2, K2, k2, rfl, hm3.tail⟩
end Go.Proofs.YtgflfpepfpekhaaGreat
namespace Go.Proofs.YtgflfpepfpekhaaGreat
open Go.RowKit Go.Mm
set_option maxHeartbeats 4000000
set_option maxRecDepth 100000
set_option linter.unusedSimpArgs false
theorem callee_ok (w : World) (h : Hp) (hr : Fact (HpR w h)) (hok : Fact h.Ok) (p : Pg) (hp : Fact (PgOk w p)) (v1 v2 n : Int) :
    Calls Tryz.prog 39 #[vP p, .pointer (some ⟨h.g, 0, none⟩), .agg #[.int .i64 v1, .int .i64 v2], .int .i64 n] w (CalQ w [] (calleeD p h.objs v1 v2 n)) := by
  have hf := fun (w1 : World) (hg : Gr w w1) (i : Int) => function_ok w1 p ⟨hp.out.gr hg⟩ i
  obtain ⟨PP, hPP⟩ : ∃ q, q = p := ⟨_, rfl⟩
  have hDD : Fact (calleeD p h.objs v1 v2 n = calleeD PP h.objs v1 v2 n) := ⟨by rw [hPP]⟩
  rw [hDD.out]
  clear hDD
  have hf : ∀ (w1 : World), Gr w w1 → ∀ i : Int, Calls Tryz.prog 17 #[vP p, .int .i64 i] w1 fun e w' => e = .returned (.tuple #[.agg (cF ((fnAt PP i).getD fn0)).toArray, .bool (fnAt PP i).isSome]) ∧ Gr w1 w' := by rw [hPP]; exact hf
  clear hPP hp
  obtain ⟨kA, kn, kc, consts, fA, fnn, fc, fns⟩ := p
  simp only [vP] at hf ⊢
  by_cases q5 : v1 = 5
  · subst q5
    have hD : Fact (calleeD PP h.objs 5 v2 n = calleeG (fnAt PP v2) v2 [] n) := ⟨by simp [calleeD, calleeF]⟩
    go_enter Tryz.func39, Tryz.ntmps39
    go_upto_region 1 with (fail)
    have hm1 := (((Mem.start w).alloc (.cells [.slice kA kn kc, .slice fA fnn fc].toArray 26)).alloc (.cells [.int .i64 5, .int .i64 v2].toArray 36))
    simp only [World.size_alloc] at hm1
    generalize hgX : w.heap.size = g at hm1 ⊢
    generalize hwX : ((w.alloc (.cells [.slice kA kn kc, .slice fA fnn fc].toArray 26)).alloc (.cells [.int .i64 5, .int .i64 v2].toArray 36)) = w1 at hm1
    try refine wp_world hwX ?_
    clear hwX hgX
    have c0 := hm1.cell m0 0 rfl
    have c1 := hm1.cell m0 1 rfl
    have p0 := hm1.cell m1 0 rfl
    have p1 := hm1.cell m1 1 rfl
    go_wp2_with fail
    refine (hf w1 hm1.below v2).mono ?_
    rintro e wf ⟨rfl, hgf⟩
    have hmf := hm1.gr hgf
    clear hgf
    generalize fnAt PP v2 = G at hD ⊢
    cases G with
    | none =>
      simp only [calleeG] at hD
      simp only [Option.getD_none, Option.isSome_none]
      go_wp2_with (refine wp_setrow rfl 47 _ _ rfl _ rfl 47 _ (cF fn0) rfl (hmf.alloc _) szF rfl (cF_one fn0) ?_; intro wh hmh)
      go_ret3
      exact hD.out ▸ CalQ.no (hmh.sub (List.nil_sublist _))
    | some x =>
      obtain ⟨name, params, locals, cA, cn, cc, code, hA, hhn, hhc, hands⟩ := x
      simp only [calleeG] at hD
      simp only [Option.getD_some, Option.isSome_some, cF]
      go_upto_region 16 with (refine wp_setrow rfl 47 _ _ rfl _ rfl 47 _ [.string name, .int .i64 params, .int .i64 locals, .slice cA cn cc, .slice hA hhn hhc] rfl (hmf.alloc _) szF rfl (cF_one ⟨name, params, locals, cA, cn, cc, code, hA, hhn, hhc, hands⟩) ?_; intro wh hmh)
      generalize wf.heap.size = gf at hmh ⊢
      have c1 := hmh.cell m0 1 rfl
      by_cases h1 : n < 0
      · have hD := Fact.mk (hD.out.trans (if_pos (.inl h1)))
        have d1 : decide (n < 0) = true := decide_eq_true h1
        go_wp2
        go_ret3
        exact hD.out ▸ CalQ.no (hmh.sub (List.nil_sublist _))
      · have d1 : decide (n < 0) = false := decide_eq_false h1
        by_cases h2 : params < (0 : Int)
        · have hD := Fact.mk (hD.out.trans (if_pos (.inr (.inl h2))))
          have d2 : decide (params < (0 : Int)) = true := decide_eq_true h2
          go_wp2
          go_ret3
          exact hD.out ▸ CalQ.no (hmh.sub (List.nil_sublist _))
        · have d2 : decide (params < (0 : Int)) = false := decide_eq_false h2
          by_cases h3 : wrap64 (params - (0 : Int)) = n
          · have hD := Fact.mk (hD.out.trans (if_neg (by intro hc; rcases hc with hc | hc | hc; exact h1 hc; exact h2 hc; exact hc h3)))
            have d3 : (wrap64 params != n) = false := by simpa using h3
            go_wp2
            go_ret3
            exact hD.out ▸ ⟨none, 0, rfl, (hmh.nil 2 none).sub (.cons_cons _ (List.nil_sublist _))⟩
          · have hD := Fact.mk (hD.out.trans (if_pos (.inr (.inr h3))))
            have d3 : (wrap64 params != n) = true := by simpa using h3
            go_wp2
            go_ret3
            exact hD.out ▸ CalQ.no (hmh.sub (List.nil_sublist _))
  · by_cases q8 : v1 = 8
    · subst q8
      go_enter Tryz.func39, Tryz.ntmps39
      go_upto_region 1 with (fail)
      have hm1 := (((Mem.start w).alloc (.cells [.slice kA kn kc, .slice fA fnn fc].toArray 26)).alloc (.cells [.int .i64 8, .int .i64 v2].toArray 36))
      simp only [World.size_alloc] at hm1
      generalize hgX : w.heap.size = g at hm1 ⊢
      generalize hwX : ((w.alloc (.cells [.slice kA kn kc, .slice fA fnn fc].toArray 26)).alloc (.cells [.int .i64 8, .int .i64 v2].toArray 36)) = w1 at hm1
      try refine wp_world hwX ?_
      clear hwX hgX
      have c0 := hm1.cell m0 0 rfl
      have c1 := hm1.cell m0 1 rfl
      have hcl := fun m => heapLenR_ok (w1.drewN m) h (hr.out.gr (hm1.drewN m).below)
      by_cases r0 : v2 < 0
      · have d0 : decide (v2 < 0) = true := decide_eq_true r0
        have hD : Fact (calleeD PP h.objs 8 v2 n = (0, [], 1)) := ⟨by have e : calleeF h.objs 8 v2 = none := by { unfold calleeF; rw [if_neg (by omega), if_neg (by omega)] }; unfold calleeD; rw [e]⟩
        go_upto_region 7 with (fail)
        go_quiet (exact Calls.quiet_of_same (hcl _))
        have hm2 := hm1.drewN nq
        generalize w1.drewN nq = wq at hm2 ⊢
        go_wp2
        go_ret3
        exact hD.out ▸ CalQ.no (hm2.sub (List.nil_sublist _))
      · have d0 : decide (v2 < 0) = false := decide_eq_false r0
        by_cases r1 : v2 < (h.objs.length : Int)
        · have d1 : decide (v2 ≥ (h.objs.length : Int)) = false := decide_eq_false (by omega)
          obtain ⟨k, rfl⟩ := Int.eq_ofNat_of_zero_le (Int.not_lt.1 r0)
          have hk : k < h.objs.length := by omega
          go_upto_region 7 with (fail)
          go_quiet (exact Calls.quiet_of_same (hcl _))
          have hm2 := hm1.drewN nq
          generalize w1.drewN nq = wq at hm2 ⊢
          clear c0 c1 hcl
          have c1 := hm2.cell m0 1 rfl
          have hD8 : Fact ((h.objs.getD k ob0).kind = 8 → calleeD PP h.objs 8 k n = calleeG (fnAt PP (h.objs.getD k ob0).fn) (h.objs.getD k ob0).fn (h.objs.getD k ob0).items n) := ⟨fun e => by
            have e1 : calleeF h.objs 8 k = some ((h.objs.getD k ob0).fn, (h.objs.getD k ob0).items) := by
              unfold calleeF
              rw [if_neg (by omega), Int.toNat_natCast, if_pos ⟨rfl, by omega, by omega, e⟩]
            unfold calleeD
            rw [e1]⟩
          have hD9 : Fact (¬ (h.objs.getD k ob0).kind = 8 → calleeD PP h.objs 8 k n = (0, [], 1)) := ⟨fun e => by
            have e1 : calleeF h.objs 8 k = none := by
              unfold calleeF
              rw [if_neg (by omega), Int.toNat_natCast, if_neg (fun hc => e hc.2.2.2)]
            unfold calleeD
            rw [e1]⟩
          have hob := objectR_ok wq h ⟨hr.out.gr hm2.below⟩ hok k hk
          generalize h.objs.getD k ob0 = o at hob hD8 hD9
          obtain ⟨ok, oi, oks, ofn, ocap, osh⟩ := o
          have hob := Fact.mk hob
          simp only at hD8 hD9
          go_wp2_with fail
          refine hob.out.mono ?_
          rintro e w3 ⟨v, rfl, A, c, K, kk, rfl, hm3⟩
          have hm4 := hm2.join hm3
          clear hm3 hm2 hob c1
          go_upto_region 10 with (refine wp_setrow rfl 59 _ _ rfl _ rfl 59 _ (obC ok A oi.length c K oks.length kk ofn ocap osh) rfl (hm4.alloc _) sz_O rfl (obC_one _ _ _ _ _ _ _ _ _ _) ?_; intro w5 hm5)
          generalize w3.heap.size = go at hm5 ⊢
          clear hm4
          have o0 := hm5.cell m0 0 rfl
          have o1 := hm5.cell m0 1 rfl
          have o3 := hm5.cell m0 3 rfl
          by_cases e8 : ok = 8
          · subst e8
            have hD : Fact (calleeD PP h.objs 8 k n = calleeG (fnAt PP ofn) ofn oi n) := ⟨hD8.out rfl⟩
            clear hD8 hD9
            go_upto_region 12 with (fail)
            go_quiet (fail)
            have hm6 := hm5.drewN nq
            generalize w5.drewN nq = w6 at hm6 ⊢
            clear hm5 o0 o1 o3
            have p0 := hm6.cell (.tail _ (.tail _ (.tail _ m1))) 0 rfl
            have p1 := hm6.cell (.tail _ (.tail _ (.tail _ m1))) 1 rfl
            go_wp2_with fail
            refine (hf w6 hm6.below ofn).mono ?_
            rintro e wf ⟨rfl, hgf⟩
            have hmf := hm6.gr hgf
            clear hgf
            generalize fnAt PP ofn = G at hD ⊢
            cases G with
            | none =>
              simp only [calleeG] at hD
              simp only [Option.getD_none, Option.isSome_none]
              go_wp2_with (refine wp_setrow rfl 47 _ _ rfl _ rfl 47 _ (cF fn0) rfl (hmf.alloc _) szF rfl (cF_one fn0) ?_; intro wh hmh)
              go_ret3
              exact hD.out ▸ CalQ.no (hmh.sub (List.nil_sublist _))
            | some x =>
              obtain ⟨name, params, locals, cA, cn, cc, code, hA, hhn, hhc, hands⟩ := x
              simp only [calleeG] at hD
              simp only [Option.getD_some, Option.isSome_some, cF]
              go_upto_region 16 with (refine wp_setrow rfl 47 _ _ rfl _ rfl 47 _ [.string name, .int .i64 params, .int .i64 locals, .slice cA cn cc, .slice hA hhn hhc] rfl (hmf.alloc _) szF rfl (cF_one ⟨name, params, locals, cA, cn, cc, code, hA, hhn, hhc, hands⟩) ?_; intro wh hmh)
              generalize wf.heap.size = gf at hmh ⊢
              have c1 := hmh.cell m0 1 rfl
              by_cases h1 : n < 0
              · have hD := Fact.mk (hD.out.trans (if_pos (.inl h1)))
                have d1 : decide (n < 0) = true := decide_eq_true h1
                go_wp2
                go_ret3
                exact hD.out ▸ CalQ.no (hmh.sub (List.nil_sublist _))
              · have d1 : decide (n < 0) = false := decide_eq_false h1
                by_cases h2 : params < (oi.length : Int)
                · have hD := Fact.mk (hD.out.trans (if_pos (.inr (.inl h2))))
                  have d2 : decide (params < (oi.length : Int)) = true := decide_eq_true h2
                  go_wp2
                  go_ret3
                  exact hD.out ▸ CalQ.no (hmh.sub (List.nil_sublist _))
                · have d2 : decide (params < (oi.length : Int)) = false := decide_eq_false h2
                  by_cases h3 : wrap64 (params - (oi.length : Int)) = n
                  · have hD := Fact.mk (hD.out.trans (if_neg (by intro hc; rcases hc with hc | hc | hc; exact h1 hc; exact h2 hc; exact hc h3)))
                    have d3 : (wrap64 (params - (oi.length : Int)) != n) = false := by simpa using h3
                    go_wp2
                    go_ret3
                    exact hD.out ▸ ⟨A, c, rfl, hmh.sub (.cons _ (.cons _ (.cons_cons _ (List.nil_sublist _))))⟩
                  · have hD := Fact.mk (hD.out.trans (if_pos (.inr (.inr h3))))
                    have d3 : (wrap64 (params - (oi.length : Int)) != n) = true := by simpa using h3
                    go_wp2
                    go_ret3
                    exact hD.out ▸ CalQ.no (hmh.sub (List.nil_sublist _))
          · have hD : Fact (calleeD PP h.objs 8 k n = (0, [], 1)) := ⟨hD9.out e8⟩
            have e8' : (ok != 8) = true := by simpa using e8
            go_wp2
            go_ret3
            exact hD.out ▸ CalQ.no (hm5.sub (List.nil_sublist _))
        · have d1 : decide (v2 ≥ (h.objs.length : Int)) = true := decide_eq_true (by omega)
          have hD : Fact (calleeD PP h.objs 8 v2 n = (0, [], 1)) := ⟨by have e : calleeF h.objs 8 v2 = none := by { unfold calleeF; rw [if_neg (by omega), if_neg (by omega)] }; unfold calleeD; rw [e]⟩
          go_upto_region 7 with (fail)
          go_quiet (exact Calls.quiet_of_same (hcl _))
          have hm2 := hm1.drewN nq
          generalize w1.drewN nq = wq at hm2 ⊢
          go_wp2
          go_ret3
          exact hD.out ▸ CalQ.no (hm2.sub (List.nil_sublist _))
    · have hD : Fact (calleeD PP h.objs v1 v2 n = (0, [], 1)) := ⟨by have e : calleeF h.objs v1 v2 = none := by { unfold calleeF; rw [if_neg (by omega), if_neg (by omega)] }; unfold calleeD; rw [e]⟩
      have e5 : (v1 == 5) = false := by simpa using q5
      have e8 : (v1 == 8) = false := by simpa using q8
      go_enter Tryz.func39, Tryz.ntmps39
      go_upto_region 1 with (fail)
      have hm1 := (((Mem.start w).alloc (.cells [.slice kA kn kc, .slice fA fnn fc].toArray 26)).alloc (.cells [.int .i64 v1, .int .i64 v2].toArray 36))
      simp only [World.size_alloc] at hm1
      generalize hgX : w.heap.size = g at hm1 ⊢
      generalize hwX : ((w.alloc (.cells [.slice kA kn kc, .slice fA fnn fc].toArray 26)).alloc (.cells [.int .i64 v1, .int .i64 v2].toArray 36)) = w1 at hm1
      try refine wp_world hwX ?_
      clear hwX hgX
      have c0 := hm1.cell m0 0 rfl
      have c1 := hm1.cell m0 1 rfl
      go_wp2
      go_ret3
      exact hD.out ▸ CalQ.no (hm1.sub (List.nil_sublist _))
end Go.Proofs.YtgflfpepfpekhaaGreat
namespace Go.Proofs.YtgflfpepfpekhaaGreat
open Go.RowKit Go.Mm
set_option maxHeartbeats 4000000
set_option maxRecDepth 100000
set_option linter.unusedSimpArgs false
theorem refCallee_ok (w : World) (p : Pg) (hp : Fact (PgOk w p)) (A : Option Addr) (m c : Nat) (xs : List RO) (hx : Fact (ObsR w A m c xs)) (hsz : Fact (∀ x, x ∈ xs → x.ob.items.length ≤ 1048576)) (v1 v2 n : Int) :
    Calls Tryz.prog 38 #[vP p, .slice A m c, .agg #[.int .i64 v1, .int .i64 v2], .int .i64 n] w (CalQ w [] (calleeD p (xs.map (·.ob)) v1 v2 n)) := by
  have hf := fun (w1 : World) (hg : Gr w w1) (i : Int) => refFunction_ok w1 p ⟨hp.out.gr hg⟩ i
  have hl := Fact.mk hx.out.len
  have hol : (xs.map (·.ob)).length = m := by rw [List.length_map]; exact hl.out
  obtain ⟨PP, hPP⟩ : ∃ q, q = p := ⟨_, rfl⟩
  have hDD : Fact (calleeD p (xs.map (·.ob)) v1 v2 n = calleeD PP (xs.map (·.ob)) v1 v2 n) := ⟨by rw [hPP]⟩
  rw [hDD.out]
  clear hDD
  have hf : Fact (∀ (w1 : World), Gr w w1 → ∀ i : Int, Calls Tryz.prog 64 #[vP p, .int .i64 i] w1 fun e w' => e = .returned (.bool (fnAt PP i).isSome) ∧ Gr w1 w') := ⟨by rw [hPP]; exact hf⟩
  have hfa : Fact (∀ fn g, fnAt PP fn = some g → ∃ b o k, fn = ((k : Nat) : Int) ∧ p.fA = some ⟨b, o, none⟩ ∧ w.rangeAt b (o + k * 5) (cF g) ∧ k < p.fn) := ⟨fun fn g h => by
    rw [hPP] at h
    unfold fnAt at h
    split at h
    · rename_i hi
      cases h
      obtain ⟨b, o, eA, hr, _, _⟩ := rd_at cF_len (by omega) fn0 hp.out.fns fn.toNat (by omega)
      exact ⟨b, o, fn.toNat, by omega, eA, hr, by omega⟩
    · cases h⟩
  clear hPP hp
  obtain ⟨kA, kn, kc, consts, fA, fnn, fc, fns⟩ := p
  simp only [vP] at hf hfa ⊢
  by_cases q8 : v1 = 8
  · subst q8
    by_cases r0 : v2 < 0
    · have d0 : decide (v2 < 0) = true := decide_eq_true r0
      have hD : Fact (calleeD PP (xs.map (·.ob)) 8 v2 n = (0, [], 1)) := ⟨by have e : calleeF (xs.map (·.ob)) 8 v2 = none := by { unfold calleeF; rw [if_neg (by omega), if_neg (by omega)] }; unfold calleeD; rw [e]⟩
      go_enter Tryz.func38, Tryz.ntmps38
      go_upto_region 1 with (fail)
      have hm1 := (((Mem.start w).alloc (.cells [.slice kA kn kc, .slice fA fnn fc].toArray 26)).alloc (.cells [.int .i64 8, .int .i64 v2].toArray 36))
      simp only [World.size_alloc] at hm1
      generalize hgX : w.heap.size = g at hm1 ⊢
      generalize hwX : ((w.alloc (.cells [.slice kA kn kc, .slice fA fnn fc].toArray 26)).alloc (.cells [.int .i64 8, .int .i64 v2].toArray 36)) = w1 at hm1
      try refine wp_world hwX ?_
      clear hwX hgX
      have c0 := hm1.cell m0 0 rfl
      have c1 := hm1.cell m0 1 rfl
      go_wp2
      go_ret3
      exact hD.out ▸ CalQ.no (hm1.sub (List.nil_sublist _))
    · have d0 : decide (v2 < 0) = false := decide_eq_false r0
      by_cases r1 : v2 < (m : Int)
      · have d1 : decide (v2 ≥ (m : Int)) = false := decide_eq_false (by omega)
        obtain ⟨k, rfl⟩ := Int.eq_ofNat_of_zero_le (Int.not_lt.1 r0)
        have hk : k < m := by omega
        obtain ⟨bb, o, hA, hc, hkl, hrd⟩ := hx.out.at k hk
        have hszx := Fact.mk (hsz.out _ (getD_mem xs k ro0 hkl))
        have hgo : (xs.map (·.ob)).getD k ob0 = (xs.getD k ro0).ob := by simp [hkl]
        have hD8 : Fact ((xs.getD k ro0).ob.kind = 8 → calleeD PP (xs.map (·.ob)) 8 k n = calleeG (fnAt PP (xs.getD k ro0).ob.fn) (xs.getD k ro0).ob.fn (xs.getD k ro0).ob.items n) := ⟨fun e => by
          have e1 : calleeF (xs.map (·.ob)) 8 k = some ((xs.getD k ro0).ob.fn, (xs.getD k ro0).ob.items) := by
            unfold calleeF
            rw [if_neg (by omega), Int.toNat_natCast, hgo, if_pos ⟨rfl, by omega, by omega, e⟩]
          unfold calleeD
          rw [e1]⟩
        have hD9 : Fact (¬ (xs.getD k ro0).ob.kind = 8 → calleeD PP (xs.map (·.ob)) 8 k n = (0, [], 1)) := ⟨fun e => by
          have e1 : calleeF (xs.map (·.ob)) 8 k = none := by
            unfold calleeF
            rw [if_neg (by omega), Int.toNat_natCast, hgo, if_neg (fun hc => e hc.2.2.2)]
          unfold calleeD
          rw [e1]⟩
        clear hgo hol
        generalize xs.getD k ro0 = x at hc hrd hszx hD8 hD9
        obtain ⟨xA, xc, xK, xkc, ok, oi, oks, ofn, ocap, osh⟩ := x
        simp only at hD8 hD9 hszx
        have hxr := Fact.mk hrd.1
        clear hrd
        simp only at hxr
        have hc := Fact.mk hc
        subst hA
        go_enter Tryz.func38, Tryz.ntmps38
        go_upto_region 1 with (fail)
        have hm1 := (((Mem.start w).alloc (.cells [.slice kA kn kc, .slice fA fnn fc].toArray 26)).alloc (.cells [.int .i64 8, .int .i64 (k : Int)].toArray 36))
        simp only [World.size_alloc] at hm1
        generalize hgX : w.heap.size = g at hm1 ⊢
        generalize hwX : ((w.alloc (.cells [.slice kA kn kc, .slice fA fnn fc].toArray 26)).alloc (.cells [.int .i64 8, .int .i64 (k : Int)].toArray 36)) = w1 at hm1
        try refine wp_world hwX ?_
        clear hwX hgX
        have c0 := hm1.cell m0 0 rfl
        have c1 := hm1.cell m0 1 rfl
        have x0 : w1.cell? ⟨bb, o + k * 6, none⟩ = some (.int .i64 ok) := Gr.cell hm1.below (hc.out 0 _ rfl)
        have x1 : w1.cell? ⟨bb, o + k * 6 + 1, none⟩ = some (.slice xA oi.length xc) := Gr.cell hm1.below (hc.out 1 _ rfl)
        have x3 : w1.cell? ⟨bb, o + k * 6 + 3, none⟩ = some (.int .i64 ofn) := Gr.cell hm1.below (hc.out 3 _ rfl)
        have d1n : decide (m ≤ k) = false := decide_eq_false (by omega)
        go_upto_region 4 with (fail)
        by_cases e8 : ok = 8
        · subst e8
          have hD : Fact (calleeD PP (xs.map (·.ob)) 8 k n = calleeG (fnAt PP ofn) ofn oi n) := ⟨hD8.out rfl⟩
          clear hD8 hD9
          go_wp2_with fail
          refine (copyValues_ok w1 xA oi.length xc oi ⟨hxr.out.gr hm1.below⟩ (by have := hszx.out; omega)).mono ?_
          rintro e w3 ⟨B, d, rfl, hn3⟩
          have hm3 := hm1.new hn3
          clear hn3 hm1 c0 c1 x0 x1 x3
          have p0 := hm3.cell m2 0 rfl
          have p1' := hm3.cell m2 1 rfl
          go_wp2_with fail
          refine (hf.out w3 hm3.below ofn).mono ?_
          rintro e wf ⟨rfl, hgf⟩
          have hmf := hm3.gr hgf
          clear hgf
          have hfx := Fact.mk (hfa.out ofn)
          generalize fnAt PP ofn = G at hD hfx ⊢
          cases G with
          | none =>
            simp only [calleeG] at hD
            simp only [Option.isSome_none]
            clear hfx
            go_wp2
            go_ret3
            exact hD.out ▸ CalQ.no (hmf.sub (List.nil_sublist _))
          | some x =>
            obtain ⟨b, o, k, hFN, e, r1, hkf⟩ := hfx.out x rfl
            obtain ⟨name, params, locals, cA, cn, cc, code, hA, hhn, hhc, hands⟩ := x
            simp only [calleeG] at hD
            simp only [Option.isSome_some]
            clear hfx
            try dsimp only at e hkf
            subst e
            subst hFN
            have r2 := Fact.mk (rng_gr r1 hmf.below)
            have f1 := r2.out 1 _ rfl
            have p1 := hmf.cell m2 1 rfl
            clear r1
            go_upto_region 13 with (fail)
            by_cases h1 : n < 0
            · have hD := Fact.mk (hD.out.trans (if_pos (.inl h1)))
              have d1 : decide (n < 0) = true := decide_eq_true h1
              go_wp2
              go_ret3
              exact hD.out ▸ CalQ.no (hmf.sub (List.nil_sublist _))
            · have d1 : decide (n < 0) = false := decide_eq_false h1
              by_cases h2 : params < (oi.length : Int)
              · have hD := Fact.mk (hD.out.trans (if_pos (.inr (.inl h2))))
                have d2 : decide (params < (oi.length : Int)) = true := decide_eq_true h2
                go_wp2
                go_ret3
                exact hD.out ▸ CalQ.no (hmf.sub (List.nil_sublist _))
              · have d2 : decide (params < (oi.length : Int)) = false := decide_eq_false h2
                by_cases h3 : wrap64 (params - (oi.length : Int)) = n
                · have hD := Fact.mk (hD.out.trans (if_neg (by intro hc; rcases hc with hc | hc | hc; exact h1 hc; exact h2 hc; exact hc h3)))
                  have d3 : (wrap64 (params - (oi.length : Int)) != n) = false := by simpa using h3
                  go_wp2
                  go_ret3
                  exact hD.out ▸ ⟨B, d, rfl, hmf.sub (.cons_cons _ (List.nil_sublist _))⟩
                · have hD := Fact.mk (hD.out.trans (if_pos (.inr (.inr h3))))
                  have d3 : (wrap64 (params - (oi.length : Int)) != n) = true := by simpa using h3
                  go_wp2
                  go_ret3
                  exact hD.out ▸ CalQ.no (hmf.sub (List.nil_sublist _))
        · have hD : Fact (calleeD PP (xs.map (·.ob)) 8 k n = (0, [], 1)) := ⟨hD9.out e8⟩
          have e8' : (ok != 8) = true := by simpa using e8
          go_wp2
          go_ret3
          exact hD.out ▸ CalQ.no (hm1.sub (List.nil_sublist _))
      · have d1 : decide (v2 ≥ (m : Int)) = true := decide_eq_true (by omega)
        have hD : Fact (calleeD PP (xs.map (·.ob)) 8 v2 n = (0, [], 1)) := ⟨by have e : calleeF (xs.map (·.ob)) 8 v2 = none := by { unfold calleeF; rw [if_neg (by omega), if_neg (by omega)] }; unfold calleeD; rw [e]⟩
        go_enter Tryz.func38, Tryz.ntmps38
        go_upto_region 1 with (fail)
        have hm1 := (((Mem.start w).alloc (.cells [.slice kA kn kc, .slice fA fnn fc].toArray 26)).alloc (.cells [.int .i64 8, .int .i64 v2].toArray 36))
        simp only [World.size_alloc] at hm1
        generalize hgX : w.heap.size = g at hm1 ⊢
        generalize hwX : ((w.alloc (.cells [.slice kA kn kc, .slice fA fnn fc].toArray 26)).alloc (.cells [.int .i64 8, .int .i64 v2].toArray 36)) = w1 at hm1
        try refine wp_world hwX ?_
        clear hwX hgX
        have c0 := hm1.cell m0 0 rfl
        have c1 := hm1.cell m0 1 rfl
        go_wp2
        go_ret3
        exact hD.out ▸ CalQ.no (hm1.sub (List.nil_sublist _))
  · have e8 : (v1 == 8) = false := by simpa using q8
    by_cases q5 : v1 = 5
    · subst q5
      have hD : Fact (calleeD PP (xs.map (·.ob)) 5 v2 n = calleeG (fnAt PP v2) v2 [] n) := ⟨by simp [calleeD, calleeF]⟩
      go_enter Tryz.func38, Tryz.ntmps38
      go_upto_region 1 with (fail)
      have hm1 := (((Mem.start w).alloc (.cells [.slice kA kn kc, .slice fA fnn fc].toArray 26)).alloc (.cells [.int .i64 5, .int .i64 v2].toArray 36))
      simp only [World.size_alloc] at hm1
      generalize hgX : w.heap.size = g at hm1 ⊢
      generalize hwX : ((w.alloc (.cells [.slice kA kn kc, .slice fA fnn fc].toArray 26)).alloc (.cells [.int .i64 5, .int .i64 v2].toArray 36)) = w1 at hm1
      try refine wp_world hwX ?_
      clear hwX hgX
      have c0 := hm1.cell m0 0 rfl
      have c1 := hm1.cell m0 1 rfl
      have p0 := hm1.cell m1 0 rfl
      have p1' := hm1.cell m1 1 rfl
      go_wp2_with fail
      refine (hf.out w1 hm1.below v2).mono ?_
      rintro e wf ⟨rfl, hgf⟩
      have hmf := hm1.gr hgf
      clear hgf
      have hfx := Fact.mk (hfa.out v2)
      generalize fnAt PP v2 = G at hD hfx ⊢
      cases G with
      | none =>
        simp only [calleeG] at hD
        simp only [Option.isSome_none]
        clear hfx
        go_wp2
        go_ret3
        exact hD.out ▸ CalQ.no (hmf.sub (List.nil_sublist _))
      | some x =>
        obtain ⟨b, o, k, hFN, e, r1, hkf⟩ := hfx.out x rfl
        obtain ⟨name, params, locals, cA, cn, cc, code, hA, hhn, hhc, hands⟩ := x
        simp only [calleeG] at hD
        simp only [Option.isSome_some]
        clear hfx
        try dsimp only at e hkf
        subst e
        subst hFN
        have r2 := Fact.mk (rng_gr r1 hmf.below)
        have f1 := r2.out 1 _ rfl
        have p1 := hmf.cell m1 1 rfl
        clear r1
        go_upto_region 13 with (fail)
        by_cases h1 : n < 0
        · have hD := Fact.mk (hD.out.trans (if_pos (.inl h1)))
          have d1 : decide (n < 0) = true := decide_eq_true h1
          go_wp2
          go_ret3
          exact hD.out ▸ CalQ.no (hmf.sub (List.nil_sublist _))
        · have d1 : decide (n < 0) = false := decide_eq_false h1
          by_cases h2 : params < (0 : Int)
          · have hD := Fact.mk (hD.out.trans (if_pos (.inr (.inl h2))))
            have d2 : decide (params < (0 : Int)) = true := decide_eq_true h2
            go_wp2
            go_ret3
            exact hD.out ▸ CalQ.no (hmf.sub (List.nil_sublist _))
          · have d2 : decide (params < (0 : Int)) = false := decide_eq_false h2
            by_cases h3 : wrap64 (params - (0 : Int)) = n
            · have hD := Fact.mk (hD.out.trans (if_neg (by intro hc; rcases hc with hc | hc | hc; exact h1 hc; exact h2 hc; exact hc h3)))
              have d3 : (wrap64 params != n) = false := by simpa using h3
              go_wp2
              go_ret3
              exact hD.out ▸ ⟨none, 0, rfl, (hmf.nil 2 none).sub (.cons_cons _ (List.nil_sublist _))⟩
            · have hD := Fact.mk (hD.out.trans (if_pos (.inr (.inr h3))))
              have d3 : (wrap64 params != n) = true := by simpa using h3
              go_wp2
              go_ret3
              exact hD.out ▸ CalQ.no (hmf.sub (List.nil_sublist _))
    · have hD : Fact (calleeD PP (xs.map (·.ob)) v1 v2 n = (0, [], 1)) := ⟨by have e : calleeF (xs.map (·.ob)) v1 v2 = none := by { unfold calleeF; rw [if_neg (by omega), if_neg (by omega)] }; unfold calleeD; rw [e]⟩
      have e5 : (v1 != 5) = true := by simpa using q5
      go_enter Tryz.func38, Tryz.ntmps38
      go_upto_region 1 with (fail)
      have hm1 := (((Mem.start w).alloc (.cells [.slice kA kn kc, .slice fA fnn fc].toArray 26)).alloc (.cells [.int .i64 v1, .int .i64 v2].toArray 36))
      simp only [World.size_alloc] at hm1
      generalize hgX : w.heap.size = g at hm1 ⊢
      generalize hwX : ((w.alloc (.cells [.slice kA kn kc, .slice fA fnn fc].toArray 26)).alloc (.cells [.int .i64 v1, .int .i64 v2].toArray 36)) = w1 at hm1
      try refine wp_world hwX ?_
      clear hwX hgX
      have c0 := hm1.cell m0 0 rfl
      have c1 := hm1.cell m0 1 rfl
      go_wp2
      go_ret3
      exact hD.out ▸ CalQ.no (hm1.sub (List.nil_sublist _))
end Go.Proofs.YtgflfpepfpekhaaGreat
