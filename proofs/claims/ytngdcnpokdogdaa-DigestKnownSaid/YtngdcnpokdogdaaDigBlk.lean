/- The words behind one more block, in the program. -/
import Derived.Test.YtngdcnpokdogdaaDigTab
import Derived.Test.YtngdcnpokdogdaaHex
import Derived.Test.YtngdcnpokdogdaaCutw
import Derived.StillTail
import Derived.StillTailTactics
namespace Go.Proofs.Ytngdcnpokdogdaa
open Go.RowKit Go.Mm Go.Sh
set_option maxHeartbeats 4000000
set_option maxRecDepth 100000
theorem tyB64 : (Try.prog.underlying 40).map (·.isRow) = some true := by kernel_rfl
theorem szB64 : (Try.prog.info? 40).map (·.size) = some 64 := by kernel_rfl
theorem tyW8' : Try.prog.underlying 46 = some (.array 8 42) := by kernel_rfl
theorem list8 {α : Type} {l : List α} (h : l.length = 8) : ∃ a b c d e f g i, l = [a, b, c, d, e, f, g, i] := by
  match l, h with
  | [a, b, c, d, e, f, g, i], _ => exact ⟨a, b, c, d, e, f, g, i, rfl⟩
/-- The first k words added up. -/
def mix (r s : List Int) (k : Nat) : List Int := List.zipWith add (r.take k) (s.take k) ++ r.drop k
theorem mix_zero (r s : List Int) : mix r s 0 = r := by simp [mix]
theorem mix_all (r s : List Int) (hr : r.length = 8) (hs : s.length = 8) : mix r s 8 = List.zipWith add r s := by
  simp [mix, List.take_of_length_le, List.drop_eq_nil_of_le, hr, hs]
theorem mix_length (r s : List Int) (hr : r.length = 8) (hs : s.length = 8) (k : Nat) : (mix r s k).length = 8 := by
  simp [mix, hr, hs]; omega
theorem mix_step (r s : List Int) (hr : r.length = 8) (hs : s.length = 8) (k : Nat) (hk : k < 8) : (mix r s k).getD k 0 = r.getD k 0 ∧ (mix r s k).set k (add (r.getD k 0) (s.getD k 0)) = mix r s (k + 1) := by
  obtain ⟨a0, a1, a2, a3, a4, a5, a6, a7, rfl⟩ := list8 hr
  obtain ⟨b0, b1, b2, b3, b4, b5, b6, b7, rfl⟩ := list8 hs
  obtain rfl | rfl | rfl | rfl | rfl | rfl | rfl | rfl : k = 0 ∨ k = 1 ∨ k = 2 ∨ k = 3 ∨ k = 4 ∨ k = 5 ∨ k = 6 ∨ k = 7 := by omega
  all_goals exact ⟨rfl, rfl⟩
theorem fill_at {l : List Int} {k n : Nat} (hl : l.length = k) (hn : k < n) (x : Int) : (l ++ List.replicate (n - k) 0).set k x = (l ++ [x]) ++ List.replicate (n - (k + 1)) 0 := by
  rw [List.set_append_right _ _ (by omega), hl, Nat.sub_self, show n - k = (n - (k + 1)) + 1 by omega, List.replicate_succ, List.set_cons_zero]
  simp
theorem getD_pre {l : List Int} {n i : Nat} (h : i < l.length) : (l ++ List.replicate n 0).getD i 0 = l.getD i 0 := by
  rw [List.getD_eq_getElem?_getD, List.getD_eq_getElem?_getD, List.getElem?_append_left h]
theorem behind_ok (w : World) (s b : List Int) (hs : Fact (s.length = 8)) (hb : Fact (b.length = 64)) (hby : Fact (Byt b)) :
    Calls Try.prog 34 #[.agg (nums .u32 s).toArray, .agg (nums .u8 b).toArray] w fun E w' => E = .returned (.agg (nums .u32 (cmp s b)).toArray) ∧ Gr w w' := by
  have hS : Fact ((nums .u32 s).length = 8) := ⟨by rw [length_nums, hs.out]⟩
  go_enter Try.func34, Try.ntmps34
  go_upto_region 2 with (fail)
  have hm := ((((Mem.start w).alloc (.cells (nums .u32 s).toArray 46)).alloc (.cells (nums .u8 b).toArray 40)).alloc (.cells (nums .u32 (List.replicate 8 0)).toArray 46)).alloc (.cells (nums .u32 (List.replicate 64 0)).toArray 54)
  simp only [World.size_alloc] at hm
  generalize hg1 : w.heap.size = g at hm ⊢
  generalize hw1 : (((w.alloc (.cells (nums .u32 s).toArray 46)).alloc (.cells (nums .u8 b).toArray 40)).alloc (.cells (nums .u32 (List.replicate 8 0)).toArray 46)).alloc (.cells (nums .u32 (List.replicate 64 0)).toArray 54) = w1 at hm
  try refine wp_world hw1 ?_
  clear hw1 hg1
  go_wp2
  go_loopw [14] (fun v W => ∃ (k : Nat), v = .int .i64 k ∧ k ≤ 16 ∧ Mem w W [Blk (g + 1 + 1 + 1) (.cells (nums .u32 (wds b k ++ List.replicate (64 - k) 0)).toArray 54), Blk (g + 1 + 1) (.cells (nums .u32 (List.replicate 8 0)).toArray 46), Blk (g + 1) (.cells (nums .u8 b).toArray 40), Blk g (.cells (nums .u32 s).toArray 46)]) (fun v _ => 16 - (intOf v).toNat)
  case atStart => exact ⟨0, rfl, by omega, hm⟩
  case round =>
    clear hm
    obtain ⟨k, rfl, hk, hm⟩ := hrel
    by_cases hlt : k < 16
    · have c0 := hm.cell m2 (4 * k) (nums_getD .u8 b _ (by have := hb.out; omega))
      have c1 := hm.cell m2 (4 * k + 1) (nums_getD .u8 b _ (by have := hb.out; omega))
      have c2 := hm.cell m2 (4 * k + 2) (nums_getD .u8 b _ (by have := hb.out; omega))
      have c3 := hm.cell m2 (4 * k + 3) (nums_getD .u8 b _ (by have := hb.out; omega))
      have hwd : Fact (wds b (k + 1) = wds b k ++ [be (b.getD (4 * k) 0) (b.getD (4 * k + 1) 0) (b.getD (4 * k + 2) 0) (b.getD (4 * k + 3) 0)]) := ⟨rfl⟩
      have b0 := hby.out.at (4 * k)
      have b1 := hby.out.at (4 * k + 1)
      have b2 := hby.out.at (4 * k + 2)
      have b3 := hby.out.at (4 * k + 3)
      generalize b.getD (4 * k) 0 = x0 at c0 hwd b0
      generalize b.getD (4 * k + 1) 0 = x1 at c1 hwd b1
      generalize b.getD (4 * k + 2) 0 = x2 at c2 hwd b2
      generalize b.getD (4 * k + 3) 0 = x3 at c3 hwd b3
      have e0 : IntKind.i64.wrap (4 * (k : Int)) = 4 * k := IntWalk.i64_in _ (by omega)
      have e1 : IntKind.i64.wrap (4 * (k : Int) + 1) = 4 * k + 1 := IntWalk.i64_in _ (by omega)
      have e2 : IntKind.i64.wrap (4 * (k : Int) + 2) = 4 * k + 2 := IntWalk.i64_in _ (by omega)
      have e3 : IntKind.i64.wrap (4 * (k : Int) + 3) = 4 * k + 3 := IntWalk.i64_in _ (by omega)
      have t0 : (4 * (k : Int)).toNat = 4 * k := by omega
      have t1 : (4 * (k : Int) + 1).toNat = 4 * k + 1 := by omega
      have t2 : (4 * (k : Int) + 2).toNat = 4 * k + 2 := by omega
      have t3 : (4 * (k : Int) + 3).toNat = 4 * k + 3 := by omega
      have i0 : (0 : Int) ≤ 4 * (k : Int) := by omega
      have j0 : 4 * (k : Int) < 64 := by omega
      have i1 : (0 : Int) ≤ 4 * (k : Int) + 1 := by omega
      have j1 : 4 * (k : Int) + 1 < 64 := by omega
      have i2 : (0 : Int) ≤ 4 * (k : Int) + 2 := by omega
      have j2 : 4 * (k : Int) + 2 < 64 := by omega
      have i3 : (0 : Int) ≤ 4 * (k : Int) + 3 := by omega
      have j3 : 4 * (k : Int) + 3 < 64 := by omega
      have y0 : IntKind.u32.wrap x0 = x0 := IntWalk.u32_in _ (by omega)
      have y1 : IntKind.u32.wrap x1 = x1 := IntWalk.u32_in _ (by omega)
      have y2 : IntKind.u32.wrap x2 = x2 := IntWalk.u32_in _ (by omega)
      have y3 : IntKind.u32.wrap x3 = x3 := IntWalk.u32_in _ (by omega)
      go_upto_region 5 with (fail)
      go_still_tail 30, (by kernel_rfl)
      change wpList _ _ _ _ _ wr.drew
      clear c0 c1 c2 c3
      have hmd := hm.drew
      have q0 := hmd.cell m0 k (nums_getD .u32 _ k (by rw [List.length_append, wds_length, List.length_replicate]; omega))
      have f0 := hmd.free m0 k
      have hm2 := hmd.set k (.int .u32 (be x0 x1 x2 x3))
      rw [nums_set, fill_at (wds_length b k) (by omega), ← hwd.out] at hm2
      generalize wr.drew = w2 at q0 f0 hm2 ⊢
      generalize (wds b k ++ List.replicate (64 - k) 0).getD k 0 = q at q0
      go_wp2
      go_roundw
      case rel => exact ⟨k + 1, by go_num, by omega, hm2⟩
      case measure => simp [intOf]; omega
    · have hk16 : k = 16 := by omega
      rw [hk16] at hm
      clear hk16
      have hm : Mem w wr [Blk (g + 1 + 1 + 1) (.cells (nums .u32 (sch b 0 ++ List.replicate 48 0)).toArray 54), Blk (g + 1 + 1) (.cells (nums .u32 (List.replicate 8 0)).toArray 46), Blk (g + 1) (.cells (nums .u8 b).toArray 40), Blk g (.cells (nums .u32 s).toArray 46)] := hm
      go_wp2
      go_loopw [7] (fun v W => ∃ (t k : Nat), v = .int .i64 t ∧ Fact (t = 16 + k) ∧ t ≤ 64 ∧ Mem w W [Blk (g + 1 + 1 + 1) (.cells (nums .u32 (sch b k ++ List.replicate (64 - t) 0)).toArray 54), Blk (g + 1 + 1) (.cells (nums .u32 (List.replicate 8 0)).toArray 46), Blk (g + 1) (.cells (nums .u8 b).toArray 40), Blk g (.cells (nums .u32 s).toArray 46)]) (fun v _ => 64 - (intOf v).toNat)
      case atStart => exact ⟨16, 0, rfl, ⟨rfl⟩, by omega, hm⟩
      case round =>
        clear hm
        obtain ⟨t, k, rfl, ht, hk, hm⟩ := hrel
        by_cases hlt : t < 64
        · have hsl : Fact ((sch b k).length = t) := ⟨by rw [sch_length, ht.out]⟩
          have hnx : Fact (sch b (k + 1) = sch b k ++ [(ws1 ((sch b k).getD (t - 2) 0) + (sch b k).getD (t - 7) 0 + ws0 ((sch b k).getD (t - 15) 0) + (sch b k).getD (t - 16) 0) % 4294967296]) := ⟨by rw [ht.out]; rfl⟩
          have hgt : ∀ i, i < t → (nums .u32 (sch b k ++ List.replicate (64 - t) 0))[i]? = some (.int .u32 ((sch b k).getD i 0)) := fun i hi => by
            rw [nums_getD .u32 _ i (by rw [List.length_append, hsl.out, List.length_replicate]; omega), getD_pre (by rw [hsl.out]; exact hi)]
          have c2 := hm.cell m0 (t - 2) (hgt _ (by have := ht.out; omega))
          have c7 := hm.cell m0 (t - 7) (hgt _ (by have := ht.out; omega))
          have c15 := hm.cell m0 (t - 15) (hgt _ (by have := ht.out; omega))
          have c16 := hm.cell m0 (t - 16) (hgt _ (by have := ht.out; omega))
          clear hgt
          generalize (sch b k).getD (t - 2) 0 = x2 at c2 hnx
          generalize (sch b k).getD (t - 7) 0 = x7 at c7 hnx
          generalize (sch b k).getD (t - 15) 0 = x15 at c15 hnx
          generalize (sch b k).getD (t - 16) 0 = x16 at c16 hnx
          have hge : 16 ≤ t := by have := ht.out; omega
          have e2 : IntKind.i64.wrap ((t : Int) - 2) = t - 2 := IntWalk.i64_in _ (by omega)
          have e7 : IntKind.i64.wrap ((t : Int) - 7) = t - 7 := IntWalk.i64_in _ (by omega)
          have e15 : IntKind.i64.wrap ((t : Int) - 15) = t - 15 := IntWalk.i64_in _ (by omega)
          have e16 : IntKind.i64.wrap ((t : Int) - 16) = t - 16 := IntWalk.i64_in _ (by omega)
          have n2 : ((t : Int) - 2).toNat = t - 2 := by omega
          have n7 : ((t : Int) - 7).toNat = t - 7 := by omega
          have n15 : ((t : Int) - 15).toNat = t - 15 := by omega
          have n16 : ((t : Int) - 16).toNat = t - 16 := by omega
          have i2 : (0 : Int) ≤ (t : Int) - 2 := by omega
          have i7 : (0 : Int) ≤ (t : Int) - 7 := by omega
          have i15 : (0 : Int) ≤ (t : Int) - 15 := by omega
          have i16 : (0 : Int) ≤ (t : Int) - 16 := by omega
          have m2' : (2 : Int) ≤ (t : Int) := by omega
          have j2 : (t : Int) - 2 < 64 := by omega
          have m7' : (7 : Int) ≤ (t : Int) := by omega
          have j7 : (t : Int) - 7 < 64 := by omega
          have m15' : (15 : Int) ≤ (t : Int) := by omega
          have j15 : (t : Int) - 15 < 64 := by omega
          have m16' : (16 : Int) ≤ (t : Int) := by omega
          have j16 : (t : Int) - 16 < 64 := by omega
          go_upto_region 10 with (fail)
          go_quiet (exact Calls.quiet_of_same (rotr_same _ _ _ (by decide) (by decide)))
          have hm := hm.drewN nq
          replace c2 := ((Gr.refl wr).drewN nq).cell c2
          replace c7 := ((Gr.refl wr).drewN nq).cell c7
          replace c15 := ((Gr.refl wr).drewN nq).cell c15
          replace c16 := ((Gr.refl wr).drewN nq).cell c16
          generalize wr.drewN nq = w2 at hm c2 c7 c15 c16 ⊢
          go_upto_region 11 with (fail)
          go_quiet (exact Calls.quiet_of_same (rotr_same _ _ _ (by decide) (by decide)))
          have hm := hm.drewN nq
          replace c7 := ((Gr.refl w2).drewN nq).cell c7
          replace c16 := ((Gr.refl w2).drewN nq).cell c16
          clear c2 c15 e2 e15 n2 n15 i2 i15 j2 j15
          generalize w2.drewN nq = w3 at hm c7 c16 ⊢
          go_upto_region 12 with (fail)
          go_still_tail 14, (by kernel_rfl)
          change wpList _ _ _ _ _ w3.drew
          have hmd := hm.drew
          clear c7 c16 hm
          have q0 := hmd.cell m0 t (nums_getD .u32 _ t (by rw [List.length_append, hsl.out, List.length_replicate]; omega))
          have f0 := hmd.free m0 t
          have hm2 := hmd.set t (.int .u32 ((ws1 x2 + x7 + ws0 x15 + x16) % 4294967296))
          rw [nums_set, fill_at hsl.out (by omega), ← hnx.out] at hm2
          generalize w3.drew = w4 at q0 f0 hm2 ⊢
          generalize (sch b k ++ List.replicate (64 - t) 0).getD t 0 = q at q0
          go_wp2
          go_roundw
          case rel => exact ⟨t + 1, k + 1, by go_num, ⟨by rw [ht.out]; omega⟩, by omega, hm2⟩
          case measure => simp [intOf]; omega
        · have hk64 : t = 64 := by omega
          have hk48 : k = 48 := by have := ht.out; omega
          rw [hk64, hk48] at hm
          clear hk64 hk48
          have hWl := Fact.mk (sch_length b 48)
          have hcm : Fact (cmp s b = List.zipWith add (rnds s kt (sch b 48) 64) s) := ⟨rfl⟩
          have hm : Mem w wr [Blk (g + 1 + 1 + 1) (.cells (nums .u32 (sch b 48)).toArray 54), Blk (g + 1 + 1) (.cells (nums .u32 (List.replicate 8 0)).toArray 46), Blk (g + 1) (.cells (nums .u8 b).toArray 40), Blk g (.cells (nums .u32 s).toArray 46)] := by simpa using hm
          generalize sch b 48 = W at hm hWl hcm
          go_upto_region 14 with (first | (refine Mm.wp_row rfl 46 _ rfl g rfl 46 (nums .u32 s) _ _ hm m3 tyW8' rfl (by rw [hS.out]; exact szW8) ?_) | (refine Mm.wp_alloc rfl 46 rfl _ zeroW8 hm ?_; intro g4 w2 hm2) | (refine wp_setrow rfl 46 _ _ rfl g4 rfl 46 (nums .u32 (List.replicate 8 0)) (nums .u32 s) rfl hm2 (by rw [hS.out]; exact szW8) (by rw [hS.out]; rfl) (One.nums _ _) ?_; intro w3 hm3))
          clear hm hm2
          go_wp2_with fail
          refine (table_ok w3).mono ?_
          rintro e w4 ⟨rfl, hg4⟩
          have hm := hm3.gr hg4
          clear hm3 hg4
          go_upto_region 15 with (first | (refine Mm.wp_alloc rfl 54 rfl _ zeroR64 hm ?_; intro g5 w5 hm5) | (refine wp_setrow rfl 54 _ _ rfl g5 rfl 54 (nums .u32 (List.replicate 64 0)) (nums .u32 kt) rfl hm5 szR64 rfl (One.nums _ _) ?_; intro w6 hm6))
          clear hm hm5
          have hm6 : Mem w w6 [Blk g4 (.cells (nums .u32 s).toArray 46), Blk g5 (.cells (nums .u32 kt).toArray 54), Blk (g + 1 + 1 + 1) (.cells (nums .u32 W).toArray 54), Blk (g + 1 + 1) (.cells (nums .u32 (List.replicate 8 0)).toArray 46), Blk g (.cells (nums .u32 s).toArray 46)] := hm6.sel 6 [1, 0, 2, 3, 5] (by decide)
          have hkl : Fact (kt.length = 64) := ⟨kt_length⟩
          generalize kt = K at hm6 hcm hkl
          go_wp2
          go_loopw [104] (fun v W' => ∃ (k : Nat), v = .int .i64 k ∧ k ≤ 64 ∧ Mem w W' [Blk g4 (.cells (nums .u32 (rnds s K W k)).toArray 46), Blk g5 (.cells (nums .u32 K).toArray 54), Blk (g + 1 + 1 + 1) (.cells (nums .u32 W).toArray 54), Blk (g + 1 + 1) (.cells (nums .u32 (List.replicate 8 0)).toArray 46), Blk g (.cells (nums .u32 s).toArray 46)]) (fun v _ => 64 - (intOf v).toNat)
          case atStart => exact ⟨0, rfl, by omega, hm6⟩
          case round =>
            clear hm6
            obtain ⟨k, rfl, hk, hm⟩ := hrel
            by_cases hlt : k < 64
            · have hrl := rnds_length s K W hs.out k
              have hrn : Fact (rnds s K W (k + 1) = rnd (rnds s K W k) (add (K.getD k 0) (W.getD k 0))) := ⟨rfl⟩
              have k0 := hm.cell m1 k (nums_getD .u32 _ k (by have := hkl.out; omega))
              have k1 := hm.cell m2 k (nums_getD .u32 _ k (by have := hWl.out; omega))
              generalize K.getD k 0 = x at k0 hrn
              generalize W.getD k 0 = y at k1 hrn
              generalize rnds s K W k = r at hm hrl hrn
              obtain ⟨a0, a1, a2, a3, a4, a5, a6, a7, rfl⟩ := list8 hrl
              clear hrl
              have c0 := hm.cell m0 0 rfl
              have c1 := hm.cell m0 1 rfl
              have c2 := hm.cell m0 2 rfl
              have c3 := hm.cell m0 3 rfl
              have c4 := hm.cell m0 4 rfl
              have c5 := hm.cell m0 5 rfl
              have c6 := hm.cell m0 6 rfl
              have c7 := hm.cell m0 7 rfl
              have hadd : IntKind.u32.wrap (x + y) = add x y := IntKind.wrap_u32 _
              go_upto_region 18 with (fail)
              go_still_tail 8, (by kernel_rfl)
              change wpList _ _ _ _ _ wr.drew
              have hm := hm.drew
              clear c0 c1 c2 c3 c4 c5 c6 c7 k0 k1 hadd
              generalize wr.drew = w7 at hm ⊢
              go_wp2_with fail
              refine (rnd_ok w7 a0 a1 a2 a3 a4 a5 a6 a7 (add x y)).mono ?_
              rintro e w8 ⟨rfl, hg8⟩
              have hm8 := hm.gr hg8
              clear hm hg8
              rw [← hrn.out]
              have hrl := rnds_length s K W hs.out (k + 1)
              clear hrn
              generalize hr1 : rnds s K W (k + 1) = r1 at hrl ⊢
              have hr1 := Fact.mk hr1
              have hrl2 : Fact ((nums .u32 r1).length = 8) := ⟨by rw [length_nums, hrl]⟩
              clear hrl
              go_wp2_with (refine wp_setrow rfl 46 _ _ rfl g4 rfl 46 (nums .u32 [a0, a1, a2, a3, a4, a5, a6, a7]) (nums .u32 r1) rfl hm8 (by rw [hrl2.out]; exact szW8) (by rw [hrl2.out]; rfl) (One.nums _ _) ?_; intro w9 hm9)
              rw [← hr1.out] at hm9
              clear hm8
              go_roundw
              case rel => exact ⟨k + 1, by go_num, by omega, hm9⟩
              case measure => simp [intOf]; omega
            · have hk64 : k = 64 := by omega
              rw [hk64] at hm
              clear hk64
              have hrl := rnds_length s K W hs.out 64
              generalize rnds s K W 64 = r at hm hrl hcm
              have hm := (hm.sel 5 [0, 3, 4] (by decide))
              have hm : Mem w wr [Blk g4 (.cells (nums .u32 (mix r s 0)).toArray 46), Blk (g + 1 + 1) (.cells (nums .u32 (List.replicate 8 0)).toArray 46), Blk g (.cells (nums .u32 s).toArray 46)] := by rw [mix_zero]; exact hm
              have hcm : Fact (cmp s b = mix r s 8) := ⟨by rw [mix_all r s hrl hs.out, hcm.out]⟩
              have hrl := Fact.mk hrl
              go_wp2
              go_loopw [117] (fun v W' => ∃ (k : Nat), v = .int .i64 k ∧ k ≤ 8 ∧ Mem w W' [Blk g4 (.cells (nums .u32 (mix r s k)).toArray 46), Blk (g + 1 + 1) (.cells (nums .u32 (List.replicate 8 0)).toArray 46), Blk g (.cells (nums .u32 s).toArray 46)]) (fun v _ => 8 - (intOf v).toNat)
              case atStart => exact ⟨0, rfl, by omega, hm⟩
              case round =>
                clear hm
                obtain ⟨k, rfl, hk, hm⟩ := hrel
                have hml := mix_length r s hrl.out hs.out k
                by_cases hlt : k < 8
                · obtain ⟨q1, q2⟩ := mix_step r s hrl.out hs.out k hlt
                  have c0 := hm.cell m0 k (nums_getD .u32 _ k (by omega))
                  rw [q1] at c0
                  have c1 := hm.cell m2 k (nums_getD .u32 _ k (by have := hs.out; omega))
                  have q2 := Fact.mk q2
                  have hml := Fact.mk hml
                  clear q1
                  generalize r.getD k 0 = x at c0 q2
                  generalize s.getD k 0 = y at c1 q2
                  go_upto_region 23 with (fail)
                  go_still_tail 7, (by kernel_rfl)
                  change wpList _ _ _ _ _ wr.drew
                  have hm := hm.drew
                  clear c0 c1
                  have c0 := hm.cell m0 k (nums_getD .u32 _ k (by have := hml.out; omega))
                  have f0 := hm.free m0 k
                  have hm2 := hm.set k (.int .u32 (add x y))
                  rw [nums_set, q2.out] at hm2
                  generalize wr.drew = w7 at hm2 c0 f0 ⊢
                  generalize (mix r s k).getD k 0 = z at c0
                  clear hm
                  go_wp2
                  go_roundw
                  case rel => exact ⟨k + 1, by go_num, by omega, hm2⟩
                  case measure => simp [intOf]; omega
                · have hk8 : k = 8 := by omega
                  rw [hk8, ← hcm.out] at hm
                  have hml : Fact ((nums .u32 (cmp s b)).length = 8) := ⟨by rw [length_nums, cmp_length s b hs.out]⟩
                  clear hk8
                  have hZ1 := Fact.mk (One.nums .u32 (cmp s b))
                  generalize hZ : nums .u32 (cmp s b) = Z at hm hml hZ1 ⊢
                  have hZ := Fact.mk hZ
                  go_wp2_with (first | (refine Mm.wp_row rfl 46 _ rfl g4 rfl 46 Z _ _ hm m0 tyW8' rfl (by rw [hml.out]; exact szW8) ?_) | (refine wp_setrow rfl 46 _ _ rfl (g + 1 + 1) rfl 46 (nums .u32 (List.replicate 8 0)) Z rfl hm.swap (by rw [hml.out]; exact szW8) (by rw [hml.out]; rfl) (hZ1.out) ?_; intro w3 hm3))
                  refine bodyPost_ret (Mm.res_cell rfl _ (g + 1 + 1) 46 Z (0, 0) rfl hm3 m0 tyW8 (by rw [hml.out]; exact szW8)) rfl ⟨by rw [hZ.out], hm3.below⟩
end Go.Proofs.Ytngdcnpokdogdaa
