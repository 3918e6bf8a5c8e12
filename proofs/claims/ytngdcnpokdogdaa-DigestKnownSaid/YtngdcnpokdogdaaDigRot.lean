/- Turning a word right, and one round, in the program; turning in the reference. -/
import Derived.Test.YtngdcnpokdogdaaSha
import Derived.Test.YtngdcnpokdogdaaArr
import Derived.Test.YtngdcnpokdogdaaRng
import Derived.Test.YtngdcnpokdogdaaProg
namespace Go.Proofs.Ytngdcnpokdogdaa
open Go.RowKit Go.Mm Go.Sh
set_option maxHeartbeats 1000000
set_option maxRecDepth 100000
theorem rotr_ok (w : World) (x : Int) (n : Nat) (N : Int) (hN : N = n) (h1 : 1 ≤ n) (h2 : n ≤ 31) :
    Calls Try.prog 35 #[.int .u32 x, .int .u64 N] w fun e w' => e = .returned (.int .u32 (rot x n)) ∧ w = w' := by
  subst hN
  have e1 : IntKind.u64.wrap (32 - (n : Int)) = 32 - n := IntWalk.u64_in _ (by omega)
  go_enter Try.func35, Try.ntmps35
  go_wp2
  go_ret
  exact ⟨by simp [rot], rfl⟩
theorem refRotr_ok (w : World) (x : Int) (n : Nat) (N : Int) (hN : N = n) (h1 : 1 ≤ n) (h2 : n ≤ 31) :
    Calls Try.prog 33 #[.int .u32 x, .int .u64 N] w fun e w' => e = .returned (.int .u32 (rot x n)) ∧ w = w' := by
  subst hN
  have e1 : IntKind.u64.wrap (32 - (n : Int)) = 32 - n := IntWalk.u64_in _ (by omega)
  go_enter Try.func33, Try.ntmps33
  go_wp2
  go_ret
  exact ⟨by simp [rot], rfl⟩
theorem rotr_any (w : World) (x N : Int) (h1 : 1 ≤ N) (h2 : N ≤ 31) :
    Calls Try.prog 35 #[.int .u32 x, .int .u64 N] w fun e w' => e = .returned (.int .u32 (rot x N.toNat)) ∧ w = w' := rotr_ok w x N.toNat N (by omega) (by omega) (by omega)
theorem refRotr_any (w : World) (x N : Int) (h1 : 1 ≤ N) (h2 : N ≤ 31) :
    Calls Try.prog 33 #[.int .u32 x, .int .u64 N] w fun e w' => e = .returned (.int .u32 (rot x N.toNat)) ∧ w = w' := refRotr_ok w x N.toNat N (by omega) (by omega) (by omega)
theorem rotr_same (w : World) (x N : Int) (h1 : 1 ≤ N) (h2 : N ≤ 31) :
    Calls Try.prog 35 #[.int .u32 x, .int .u64 N] w fun e w' => e = .returned (.int .u32 (rot x N.toNat)) ∧ w' = w := (rotr_any w x N h1 h2).mono fun _ _ h => ⟨h.1, h.2.symm⟩
theorem refRotr_same (w : World) (x N : Int) (h1 : 1 ≤ N) (h2 : N ≤ 31) :
    Calls Try.prog 33 #[.int .u32 x, .int .u64 N] w fun e w' => e = .returned (.int .u32 (rot x N.toNat)) ∧ w' = w := (refRotr_any w x N h1 h2).mono fun _ _ h => ⟨h.1, h.2.symm⟩
theorem tyW8 : (Try.prog.underlying 46).map (·.isRow) = some true := by kernel_rfl
theorem szW8 : (Try.prog.info? 46).map (·.size) = some 8 := by kernel_rfl
theorem zeroW8 : (Try.prog.info? 46).map (fun i => i.zero.map (fun z => z.cells.toList)) = some (some (nums .u32 (List.replicate 8 0))) := by kernel_rfl
theorem rnd_ok (w : World) (a b c d e f g h kw : Int) :
    Calls Try.prog 37 #[.agg (nums .u32 [a, b, c, d, e, f, g, h]).toArray, .int .u32 kw] w fun E w' => E = .returned (.agg (nums .u32 (rnd [a, b, c, d, e, f, g, h] kw)).toArray) ∧ Gr w w' := by
  have hsg : IntKind.u32.signed = false := rfl
  have hmx : IntKind.u32.max = 4294967295 := rfl
  go_enter Try.func37, Try.ntmps37
  go_upto_region 1 with (fail)
  have hm := (((Mem.start w).alloc (.cells (nums .u32 [a, b, c, d, e, f, g, h]).toArray 46)).alloc (.cells (nums .u32 (List.replicate 8 0)).toArray 46))
  simp only [World.size_alloc] at hm
  generalize hg1 : w.heap.size = g1 at hm ⊢
  generalize hw1 : (w.alloc (.cells (nums .u32 [a, b, c, d, e, f, g, h]).toArray 46)).alloc (.cells (nums .u32 (List.replicate 8 0)).toArray 46) = w1 at hm
  refine wp_world hw1 ?_
  clear hw1 hg1
  have c0 := hm.cell m1 0 rfl
  have c1 := hm.cell m1 1 rfl
  have c2 := hm.cell m1 2 rfl
  have c3 := hm.cell m1 3 rfl
  have c4 := hm.cell m1 4 rfl
  have c5 := hm.cell m1 5 rfl
  have c6 := hm.cell m1 6 rfl
  have c7 := hm.cell m1 7 rfl
  go_quiet (fail)
  have hm := hm.drewN nq
  generalize w1.drewN nq = w2 at hm ⊢
  clear c0 c1 c2 c3 c4 c5 c6 c7
  go_upto_region 3 with (go_at_call 35; refine (rotr_any _ _ _ (by decide) (by decide)).mono ?_; rintro E wx ⟨rfl, rfl⟩)
  go_upto_region 4 with (go_at_call 35; refine (rotr_any _ _ _ (by decide) (by decide)).mono ?_; rintro E wx ⟨rfl, rfl⟩)
  have c0 := hm.cell m0 0 rfl
  have f0 := hm.free m0 0
  have c1 := hm.cell m0 1 rfl
  have f1 := hm.free m0 1
  have c2 := hm.cell m0 2 rfl
  have f2 := hm.free m0 2
  have c3 := hm.cell m0 3 rfl
  have f3 := hm.free m0 3
  have c4 := hm.cell m0 4 rfl
  have f4 := hm.free m0 4
  have c5 := hm.cell m0 5 rfl
  have f5 := hm.free m0 5
  have c6 := hm.cell m0 6 rfl
  have f6 := hm.free m0 6
  have c7 := hm.cell m0 7 rfl
  have f7 := hm.free m0 7
  go_wp2
  have HM := (((((((hm.set 0 (.int .u32 ((h + sg1 e + chs e f g + kw + (sg0 a + maj a b c)) % 4294967296))).set 1 (.int .u32 a)).set 2 (.int .u32 b)).set 3 (.int .u32 c)).set 4 (.int .u32 ((d + (h + sg1 e + chs e f g + kw)) % 4294967296))).set 5 (.int .u32 e)).set 6 (.int .u32 f)).set 7 (.int .u32 g)
  refine bodyPost_ret (Mm.res_cell rfl _ (g1 + 1) 46 (nums .u32 (rnd [a, b, c, d, e, f, g, h] kw)) (0, 0) rfl HM m0 tyW8 szW8) rfl ⟨rfl, HM.below⟩
end Go.Proofs.Ytngdcnpokdogdaa
