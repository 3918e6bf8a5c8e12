/- The tables, in the program and in the reference. -/
import Derived.Test.YtngdcnpokdogdaaDigRot
namespace Go.Proofs.Ytngdcnpokdogdaa
open Go.RowKit Go.Mm Go.Sh
set_option maxHeartbeats 1000000
set_option maxRecDepth 100000
theorem tyR8 : (Try.prog.underlying 43).map (·.isRow) = some true := by kernel_rfl
theorem szR8 : (Try.prog.info? 43).map (·.size) = some 8 := by kernel_rfl
theorem tyR64 : (Try.prog.underlying 54).map (·.isRow) = some true := by kernel_rfl
theorem szR64 : (Try.prog.info? 54).map (·.size) = some 64 := by kernel_rfl
theorem zeroR8 : (Try.prog.info? 43).map (fun i => i.zero.map (fun z => z.cells.toList)) = some (some (nums .u32 (List.replicate 8 0))) := by kernel_rfl
theorem zeroR64 : (Try.prog.info? 54).map (fun i => i.zero.map (fun z => z.cells.toList)) = some (some (nums .u32 (List.replicate 64 0))) := by kernel_rfl
theorem first_ok (w : World) : Calls Try.prog 28 #[] w fun E w' => E = .returned (.agg (nums .u32 iv).toArray) ∧ Gr w w' := by
  go_enter Try.func28, Try.ntmps28
  go_wp2_with (first | (refine Mm.wp_alloc rfl 46 rfl _ zeroW8 (Mem.start w) ?_; intro g1 w1 hm1) | (refine wp_setrow rfl 46 _ _ rfl g1 rfl 46 (nums .u32 (List.replicate 8 0)) (nums .u32 iv) rfl hm1 szW8 rfl (One.nums _ _) ?_; intro w3 hm3))
  refine bodyPost_ret (Mm.res_cell rfl _ g1 46 (nums .u32 iv) (0, 0) rfl hm3 m0 tyW8 szW8) rfl ⟨rfl, hm3.below⟩
theorem refFirst_ok (w : World) : Calls Try.prog 26 #[] w fun E w' => E = .returned (.agg (nums .u32 iv).toArray) ∧ Gr w w' := by
  go_enter Try.func26, Try.ntmps26
  go_wp2_with (first | (refine Mm.wp_alloc rfl 43 rfl _ zeroR8 (Mem.start w) ?_; intro g1 w1 hm1) | (refine wp_setrow rfl 43 _ _ rfl g1 rfl 43 (nums .u32 (List.replicate 8 0)) (nums .u32 iv) rfl hm1 szR8 rfl (One.nums _ _) ?_; intro w3 hm3))
  refine bodyPost_ret (Mm.res_cell rfl _ g1 43 (nums .u32 iv) (0, 0) rfl hm3 m0 tyR8 szR8) rfl ⟨rfl, hm3.below⟩
theorem table_ok (w : World) : Calls Try.prog 36 #[] w fun E w' => E = .returned (.agg (nums .u32 kt).toArray) ∧ Gr w w' := by
  go_enter Try.func36, Try.ntmps36
  go_wp2_with (first | (refine Mm.wp_alloc rfl 54 rfl _ zeroR64 (Mem.start w) ?_; intro g1 w1 hm1) | (refine wp_setrow rfl 54 _ _ rfl g1 rfl 54 (nums .u32 (List.replicate 64 0)) (nums .u32 kt) rfl hm1 szR64 rfl (One.nums _ _) ?_; intro w3 hm3))
  refine bodyPost_ret (Mm.res_cell rfl _ g1 54 (nums .u32 kt) (0, 0) rfl hm3 m0 tyR64 szR64) rfl ⟨rfl, hm3.below⟩
theorem refTable_ok (w : World) : Calls Try.prog 32 #[] w fun E w' => E = .returned (.agg (nums .u32 kt).toArray) ∧ Gr w w' := by
  go_enter Try.func32, Try.ntmps32
  go_wp2_with (first | (refine Mm.wp_alloc rfl 54 rfl _ zeroR64 (Mem.start w) ?_; intro g1 w1 hm1) | (refine wp_setrow rfl 54 _ _ rfl g1 rfl 54 (nums .u32 (List.replicate 64 0)) (nums .u32 kt) rfl hm1 szR64 rfl (One.nums _ _) ?_; intro w3 hm3))
  refine bodyPost_ret (Mm.res_cell rfl _ g1 54 (nums .u32 kt) (0, 0) rfl hm3 m0 tyR64 szR64) rfl ⟨rfl, hm3.below⟩
end Go.Proofs.Ytngdcnpokdogdaa
