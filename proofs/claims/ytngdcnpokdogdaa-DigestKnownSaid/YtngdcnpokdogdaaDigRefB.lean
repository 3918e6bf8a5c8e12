/- The words of a block, and a block, in the reference. -/
import Derived.Test.YtngdcnpokdogdaaDigRef
namespace Go.Proofs.Ytngdcnpokdogdaa
open Go.RowKit Go.Mm Go.Sh
set_option maxHeartbeats 4000000
set_option maxRecDepth 100000
theorem tyR64' : Try.prog.underlying 54 = some (.array 64 42) := by kernel_rfl
theorem tyR8' : Try.prog.underlying 43 = some (.array 8 42) := by kernel_rfl
theorem rnd_flat (a0 a1 a2 a3 a4 a5 a6 a7 x y : Int) : rnd [a0, a1, a2, a3, a4, a5, a6, a7] (add x y) =
    [(a7 + sg1 a4 + chs a4 a5 a6 + x + y + (sg0 a0 + maj a0 a1 a2)) % 4294967296, a0, a1, a2, (a3 + (a7 + sg1 a4 + chs a4 a5 a6 + x + y)) % 4294967296, a4, a5, a6] := by
  have e1 : (a7 + sg1 a4 + chs a4 a5 a6 + add x y + (sg0 a0 + maj a0 a1 a2)) % 4294967296 = (a7 + sg1 a4 + chs a4 a5 a6 + x + y + (sg0 a0 + maj a0 a1 a2)) % 4294967296 := by simp only [add]; omega
  have e2 : (a3 + (a7 + sg1 a4 + chs a4 a5 a6 + add x y)) % 4294967296 = (a3 + (a7 + sg1 a4 + chs a4 a5 a6 + x + y)) % 4294967296 := by simp only [add]; omega
  rw [← e1, ← e2]
  rfl
theorem part_at (ps : List Int) (a i : Nat) (hi : i < 64) : ((ps.drop a).take 64).getD i 0 = ps.getD (a + i) 0 := by
  rw [List.getD_eq_getElem?_getD, List.getD_eq_getElem?_getD, List.getElem?_take, if_pos hi, List.getElem?_drop]
theorem words_ok (w : World) (ps : List Int) (A : Option Addr) (n c a : Nat) (hr : Fact (RdC w 1 (.slice A n c) (nums .u8 ps))) (hps : Fact (Byt ps)) (ha : a + 64 ≤ n) (hn : n ≤ 140737488355328) :
    Calls Try.prog 31 #[.slice A n c, .int .i64 a] w fun E w' => E = .returned (.agg (nums .u32 (sch ((ps.drop a).take 64) 48)).toArray) ∧ Gr w w' := by
  obtain ⟨bA, oA, _, rfl, _⟩ := hr.out.at1 0 (by omega)
  have hgp : Fact (∀ i, i < 64 → ((ps.drop a).take 64).getD i 0 = ps.getD (a + i) 0) := ⟨fun i hi => part_at ps a i hi⟩
  generalize (ps.drop a).take 64 = b at hgp ⊢
  go_enter Try.func31, Try.ntmps31
  go_upto_region 2 with (fail)
  have hm := ((Mem.start w).alloc (.cells (nums .u32 (List.replicate 64 0)).toArray 54)).alloc (.cells (nums .u32 (List.replicate 64 0)).toArray 54)
  simp only [World.size_alloc] at hm
  generalize hg1 : w.heap.size = g at hm ⊢
  generalize hw1 : (w.alloc (.cells (nums .u32 (List.replicate 64 0)).toArray 54)).alloc (.cells (nums .u32 (List.replicate 64 0)).toArray 54) = w1 at hm
  try refine wp_world hw1 ?_
  clear hw1 hg1
  go_wp2
  go_loopw [6] (fun v W => ∃ (k : Nat), v = .int .i64 k ∧ k ≤ 16 ∧ Mem w W [Blk (g + 1) (.cells (nums .u32 (wds b k ++ List.replicate (64 - k) 0)).toArray 54), Blk g (.cells (nums .u32 (List.replicate 64 0)).toArray 54)]) (fun v _ => 16 - (intOf v).toNat)
  case atStart => exact ⟨0, rfl, by omega, hm⟩
  case round =>
    clear hm
    obtain ⟨k, rfl, hk, hm⟩ := hrel
    by_cases hlt : k < 16
    · have hrw := hr.out.gr hm.below
      obtain ⟨b0, o0, eA0, c0, _⟩ := hrw.num (a + 4 * k) (by omega)
      cases eA0
      obtain ⟨b1, o1, eA1, c1, _⟩ := hrw.num (a + 4 * k + 1) (by omega)
      cases eA1
      obtain ⟨b2, o2, eA2, c2, _⟩ := hrw.num (a + 4 * k + 2) (by omega)
      cases eA2
      obtain ⟨b3, o3, eA3, c3, _⟩ := hrw.num (a + 4 * k + 3) (by omega)
      cases eA3
      clear hrw
      have hwd : Fact (wds b (k + 1) = wds b k ++ [be (ps.getD (a + 4 * k) 0) (ps.getD (a + 4 * k + 1) 0) (ps.getD (a + 4 * k + 2) 0) (ps.getD (a + 4 * k + 3) 0)]) := ⟨by
        show wds b k ++ [wd b k] = _
        unfold wd
        rw [hgp.out _ (by omega), hgp.out _ (by omega), hgp.out _ (by omega), hgp.out _ (by omega)]; simp only [Nat.add_assoc]⟩
      have b0' := hps.out.at (a + 4 * k)
      generalize ps.getD (a + 4 * k) 0 = x0 at c0 hwd b0'
      have b1' := hps.out.at (a + 4 * k + 1)
      generalize ps.getD (a + 4 * k + 1) 0 = x1 at c1 hwd b1'
      have b2' := hps.out.at (a + 4 * k + 2)
      generalize ps.getD (a + 4 * k + 2) 0 = x2 at c2 hwd b2'
      have b3' := hps.out.at (a + 4 * k + 3)
      generalize ps.getD (a + 4 * k + 3) 0 = x3 at c3 hwd b3'
      have z0 : IntKind.i64.wrap (4 * (k : Int)) = 4 * k := IntWalk.i64_in _ (by omega)
      have e0 : IntKind.i64.wrap ((a : Int) + 4 * (k : Int)) = (a : Int) + 4 * (k : Int) := IntWalk.i64_in _ (by omega)
      have t0 : ((a : Int) + 4 * (k : Int)).toNat = a + 4 * k := by omega
      have i0 : (0 : Int) ≤ (a : Int) + 4 * (k : Int) := by omega
      have j0 : (a : Int) + 4 * (k : Int) < (n : Int) := by omega
      have y0 : IntKind.u32.wrap x0 = x0 := IntWalk.u32_in _ (by omega)
      have e1 : IntKind.i64.wrap ((a : Int) + 4 * (k : Int) + 1) = (a : Int) + 4 * (k : Int) + 1 := IntWalk.i64_in _ (by omega)
      have t1 : ((a : Int) + 4 * (k : Int) + 1).toNat = a + 4 * k + 1 := by omega
      have i1 : (0 : Int) ≤ (a : Int) + 4 * (k : Int) + 1 := by omega
      have j1 : (a : Int) + 4 * (k : Int) + 1 < (n : Int) := by omega
      have y1 : IntKind.u32.wrap x1 = x1 := IntWalk.u32_in _ (by omega)
      have e2 : IntKind.i64.wrap ((a : Int) + 4 * (k : Int) + 2) = (a : Int) + 4 * (k : Int) + 2 := IntWalk.i64_in _ (by omega)
      have t2 : ((a : Int) + 4 * (k : Int) + 2).toNat = a + 4 * k + 2 := by omega
      have i2 : (0 : Int) ≤ (a : Int) + 4 * (k : Int) + 2 := by omega
      have j2 : (a : Int) + 4 * (k : Int) + 2 < (n : Int) := by omega
      have y2 : IntKind.u32.wrap x2 = x2 := IntWalk.u32_in _ (by omega)
      have e3 : IntKind.i64.wrap ((a : Int) + 4 * (k : Int) + 3) = (a : Int) + 4 * (k : Int) + 3 := IntWalk.i64_in _ (by omega)
      have t3 : ((a : Int) + 4 * (k : Int) + 3).toNat = a + 4 * k + 3 := by omega
      have i3 : (0 : Int) ≤ (a : Int) + 4 * (k : Int) + 3 := by omega
      have j3 : (a : Int) + 4 * (k : Int) + 3 < (n : Int) := by omega
      have y3 : IntKind.u32.wrap x3 = x3 := IntWalk.u32_in _ (by omega)
      go_upto_region 6 with (fail)
      go_still_tail 30, (by kernel_rfl)
      change wpList _ _ _ _ _ wr.drew
      clear c0 c1 c2 c3
      have hmd := hm.drew
      have q0 := hmd.cell m0 k (nums_getD .u32 _ k (by rw [List.length_append, wds_length, List.length_replicate]; omega))
      have f0 := hmd.free m0 k
      have hm2 := hmd.set k (.int .u32 (be x0 x1 x2 x3))
      rw [nums_set, fill_at (wds_length b k) (by omega), ← hwd.out] at hm2
      generalize wr.drew = w2 at q0 f0 hm2 ⊢
      generalize (wds b k ++ List.replicate (64 - k) 0).getD k 0 = q at q0
      go_wp2
      go_roundw
      case rel => exact ⟨k + 1, by go_num, by omega, hm2⟩
      case measure => simp [intOf]; omega
    · have hk16 : k = 16 := by omega
      rw [hk16] at hm
      clear hk16
      have hm : Mem w wr [Blk (g + 1) (.cells (nums .u32 (sch b 0 ++ List.replicate 48 0)).toArray 54), Blk g (.cells (nums .u32 (List.replicate 64 0)).toArray 54)] := hm
      go_wp2
      go_loopw [8] (fun v W => ∃ (t k : Nat), v = .int .i64 t ∧ Fact (t = 16 + k) ∧ t ≤ 64 ∧ Mem w W [Blk (g + 1) (.cells (nums .u32 (sch b k ++ List.replicate (64 - t) 0)).toArray 54), Blk g (.cells (nums .u32 (List.replicate 64 0)).toArray 54)]) (fun v _ => 64 - (intOf v).toNat)
      case atStart => exact ⟨16, 0, rfl, ⟨rfl⟩, by omega, hm⟩
      case round =>
        clear hm
        obtain ⟨t, k, rfl, ht, hk, hm⟩ := hrel
        by_cases hlt : t < 64
        · have hsl : Fact ((sch b k).length = t) := ⟨by rw [sch_length, ht.out]⟩
          have hnx : Fact (sch b (k + 1) = sch b k ++ [(ws1 ((sch b k).getD (t - 2) 0) + (sch b k).getD (t - 7) 0 + ws0 ((sch b k).getD (t - 15) 0) + (sch b k).getD (t - 16) 0) % 4294967296]) := ⟨by rw [ht.out]; rfl⟩
          have hgt : ∀ i, i < t → (nums .u32 (sch b k ++ List.replicate (64 - t) 0))[i]? = some (.int .u32 ((sch b k).getD i 0)) := fun i hi => by
            rw [nums_getD .u32 _ i (by rw [List.length_append, hsl.out, List.length_replicate]; omega), getD_pre (by rw [hsl.out]; exact hi)]
          have c2 := hm.cell m0 (t - 2) (hgt _ (by have := ht.out; omega))
          have c7 := hm.cell m0 (t - 7) (hgt _ (by have := ht.out; omega))
          have c15 := hm.cell m0 (t - 15) (hgt _ (by have := ht.out; omega))
          have c16 := hm.cell m0 (t - 16) (hgt _ (by have := ht.out; omega))
          clear hgt
          generalize (sch b k).getD (t - 2) 0 = x2 at c2 hnx
          generalize (sch b k).getD (t - 7) 0 = x7 at c7 hnx
          generalize (sch b k).getD (t - 15) 0 = x15 at c15 hnx
          generalize (sch b k).getD (t - 16) 0 = x16 at c16 hnx
          have hge : 16 ≤ t := by have := ht.out; omega
          have e2 : IntKind.i64.wrap ((t : Int) - 2) = t - 2 := IntWalk.i64_in _ (by omega)
          have e7 : IntKind.i64.wrap ((t : Int) - 7) = t - 7 := IntWalk.i64_in _ (by omega)
          have e15 : IntKind.i64.wrap ((t : Int) - 15) = t - 15 := IntWalk.i64_in _ (by omega)
          have e16 : IntKind.i64.wrap ((t : Int) - 16) = t - 16 := IntWalk.i64_in _ (by omega)
          have n2 : ((t : Int) - 2).toNat = t - 2 := by omega
          have n7 : ((t : Int) - 7).toNat = t - 7 := by omega
          have n15 : ((t : Int) - 15).toNat = t - 15 := by omega
          have n16 : ((t : Int) - 16).toNat = t - 16 := by omega
          have i2 : (0 : Int) ≤ (t : Int) - 2 := by omega
          have i7 : (0 : Int) ≤ (t : Int) - 7 := by omega
          have i15 : (0 : Int) ≤ (t : Int) - 15 := by omega
          have i16 : (0 : Int) ≤ (t : Int) - 16 := by omega
          have m2' : (2 : Int) ≤ (t : Int) := by omega
          have j2 : (t : Int) - 2 < 64 := by omega
          have m7' : (7 : Int) ≤ (t : Int) := by omega
          have j7 : (t : Int) - 7 < 64 := by omega
          have m15' : (15 : Int) ≤ (t : Int) := by omega
          have j15 : (t : Int) - 15 < 64 := by omega
          have m16' : (16 : Int) ≤ (t : Int) := by omega
          have j16 : (t : Int) - 16 < 64 := by omega
          go_upto_region 14 with (go_at_call 33; refine (refRotr_any _ _ _ (by decide) (by decide)).mono ?_; rintro E wx ⟨rfl, rfl⟩)
          clear c2 c15 e2 e15 n2 n15 i2 i15 j2 j15 m2' m15'
          go_still_tail 14, (by kernel_rfl)
          change wpList _ _ _ _ _ wr.drew
          have hmd := hm.drew
          clear c7 c16 hm
          have q0 := hmd.cell m0 t (nums_getD .u32 _ t (by rw [List.length_append, hsl.out, List.length_replicate]; omega))
          have f0 := hmd.free m0 t
          have hm2 := hmd.set t (.int .u32 ((ws1 x2 + x7 + ws0 x15 + x16) % 4294967296))
          rw [nums_set, fill_at hsl.out (by omega), ← hnx.out] at hm2
          generalize wr.drew = w4 at q0 f0 hm2 ⊢
          generalize (sch b k ++ List.replicate (64 - t) 0).getD t 0 = q at q0
          go_wp2
          go_roundw
          case rel => exact ⟨t + 1, k + 1, by go_num, ⟨by rw [ht.out]; omega⟩, by omega, hm2⟩
          case measure => simp [intOf]; omega
        · have hk64 : t = 64 := by omega
          have hk48 : k = 48 := by have := ht.out; omega
          rw [hk64, hk48] at hm
          clear hk64 hk48
          have hm : Mem w wr [Blk (g + 1) (.cells (nums .u32 (sch b 48)).toArray 54), Blk g (.cells (nums .u32 (List.replicate 64 0)).toArray 54)] := by simpa using hm
          have hWl : Fact ((nums .u32 (sch b 48)).length = 64) := ⟨by rw [length_nums, sch_length]⟩
          have h1 := Fact.mk (One.nums .u32 (sch b 48))
          generalize hZ : nums .u32 (sch b 48) = Z at hm hWl h1
          replace hZ := Fact.mk hZ
          go_wp2_with (first | (refine Mm.wp_row rfl 54 _ rfl (g + 1) rfl 54 Z _ _ hm m0 tyR64' rfl (by rw [hWl.out]; exact szR64) ?_) | (refine wp_setrow rfl 54 _ _ rfl g rfl 54 (nums .u32 (List.replicate 64 0)) Z rfl hm.swap (by rw [hWl.out]; exact szR64) (by rw [hWl.out]; rfl) h1.out ?_; intro w7 hm7))
          refine bodyPost_ret (Mm.res_cell rfl _ g 54 Z (0, 0) rfl hm7 m0 tyR64 (by rw [hWl.out]; exact szR64)) rfl ⟨by rw [hZ.out], hm7.below⟩
theorem block_ok (w : World) (v ps : List Int) (A : Option Addr) (n c a : Nat) (hv : Fact (v.length = 8)) (hr : Fact (RdC w 1 (.slice A n c) (nums .u8 ps))) (hps : Fact (Byt ps)) (ha : a + 64 ≤ n) (hn : n ≤ 140737488355328) :
    Calls Try.prog 27 #[.agg (nums .u32 v).toArray, .slice A n c, .int .i64 a] w fun E w' => E = .returned (.agg (nums .u32 (cmp v ((ps.drop a).take 64))).toArray) ∧ Gr w w' := by
  have hV : Fact ((nums .u32 v).length = 8) := ⟨by rw [length_nums, hv.out]⟩
  go_enter Try.func27, Try.ntmps27
  go_upto_region 1 with (fail)
  have hm := ((Mem.start w).alloc (.cells (nums .u32 v).toArray 43)).alloc (.cells (nums .u32 (List.replicate 8 0)).toArray 43)
  simp only [World.size_alloc] at hm
  generalize hg1 : w.heap.size = g at hm ⊢
  generalize hw1 : (w.alloc (.cells (nums .u32 v).toArray 43)).alloc (.cells (nums .u32 (List.replicate 8 0)).toArray 43) = w1 at hm
  try refine wp_world hw1 ?_
  clear hw1 hg1
  go_wp2_with fail
  refine (words_ok w1 ps A n c a ⟨hr.out.gr hm.below⟩ hps ha hn).mono ?_
  rintro E w2 ⟨rfl, hg2⟩
  have hm2 := hm.gr hg2
  clear hm hg2
  have hcm : Fact (cmp v ((ps.drop a).take 64) = List.zipWith add (rnds v kt (sch ((ps.drop a).take 64) 48) 64) v) := ⟨rfl⟩
  have hWl := Fact.mk (sch_length ((ps.drop a).take 64) 48)
  generalize hC : cmp v ((ps.drop a).take 64) = C at hcm
  replace hC := Fact.mk hC
  generalize sch ((ps.drop a).take 64) 48 = W at hcm hWl ⊢
  have hW2 : Fact ((nums .u32 W).length = 64) := ⟨by rw [length_nums, hWl.out]⟩
  go_upto_region 2 with (first | (refine Mm.wp_alloc rfl 54 rfl _ zeroR64 hm2 ?_; intro g7 w3 hm3) | (refine wp_setrow rfl 54 _ _ rfl g7 rfl 54 (nums .u32 (List.replicate 64 0)) (nums .u32 W) rfl hm3 (by rw [hW2.out]; exact szR64) (by rw [hW2.out]; rfl) (One.nums _ _) ?_; intro w4 hm4))
  clear hm2 hm3
  go_wp2_with fail
  refine (refTable_ok w4).mono ?_
  rintro E w5 ⟨rfl, hg5⟩
  have hm5 := hm4.gr hg5
  clear hm4 hg5
  have hkl : Fact (kt.length = 64) := ⟨kt_length⟩
  have hkl2 : Fact ((nums .u32 kt).length = 64) := ⟨by rw [length_nums, hkl.out]⟩
  generalize kt = K at hcm hkl hkl2 ⊢
  go_upto_region 3 with (first | (refine Mm.wp_alloc rfl 54 rfl _ zeroR64 hm5 ?_; intro g8 w6 hm6) | (refine wp_setrow rfl 54 _ _ rfl g8 rfl 54 (nums .u32 (List.replicate 64 0)) (nums .u32 K) rfl hm6 (by rw [hkl2.out]; exact szR64) (by rw [hkl2.out]; rfl) (One.nums _ _) ?_; intro w7 hm7))
  clear hm5 hm6
  go_upto_region 4 with (first | (refine Mm.wp_row rfl 43 _ rfl g rfl 43 (nums .u32 v) _ _ hm7 m3 tyR8' rfl (by rw [hV.out]; exact szR8) ?_) | (refine Mm.wp_alloc rfl 43 rfl _ zeroR8 hm7 ?_; intro g9 w8 hm8) | (refine wp_setrow rfl 43 _ _ rfl g9 rfl 43 (nums .u32 (List.replicate 8 0)) (nums .u32 v) rfl hm8 (by rw [hV.out]; exact szR8) (by rw [hV.out]; rfl) (One.nums _ _) ?_; intro w9 hm9))
  clear hm7 hm8
  have hm9 : Mem w w9 [Blk g9 (.cells (nums .u32 (rnds v K W 0)).toArray 43), Blk g8 (.cells (nums .u32 K).toArray 54), Blk g7 (.cells (nums .u32 W).toArray 54), Blk (g + 1) (.cells (nums .u32 (List.replicate 8 0)).toArray 43), Blk g (.cells (nums .u32 v).toArray 43)] := hm9
  go_wp2
  go_loopw [10] (fun s W' => ∃ (k : Nat), s = .int .i64 k ∧ k ≤ 64 ∧ Mem w W' [Blk g9 (.cells (nums .u32 (rnds v K W k)).toArray 43), Blk g8 (.cells (nums .u32 K).toArray 54), Blk g7 (.cells (nums .u32 W).toArray 54), Blk (g + 1) (.cells (nums .u32 (List.replicate 8 0)).toArray 43), Blk g (.cells (nums .u32 v).toArray 43)]) (fun s _ => 64 - (intOf s).toNat)
  case atStart => exact ⟨0, rfl, by omega, hm9⟩
  case round =>
    clear hm9
    obtain ⟨k, rfl, hk, hm⟩ := hrel
    by_cases hlt : k < 64
    · have hrl := rnds_length v K W hv.out k
      have hrn : Fact (rnds v K W (k + 1) = rnd (rnds v K W k) (add (K.getD k 0) (W.getD k 0))) := ⟨rfl⟩
      have k0 := hm.cell m1 k (nums_getD .u32 _ k (by have := hkl.out; omega))
      have k1 := hm.cell m2 k (nums_getD .u32 _ k (by have := hWl.out; omega))
      generalize K.getD k 0 = x at k0 hrn
      generalize W.getD k 0 = y at k1 hrn
      generalize rnds v K W k = r at hm hrl hrn
      obtain ⟨a0, a1, a2, a3, a4, a5, a6, a7, rfl⟩ := list8 hrl
      clear hrl
      have c0 := hm.cell m0 0 rfl
      have c1 := hm.cell m0 1 rfl
      have c2 := hm.cell m0 2 rfl
      have c3 := hm.cell m0 3 rfl
      have c4 := hm.cell m0 4 rfl
      have c5 := hm.cell m0 5 rfl
      have c6 := hm.cell m0 6 rfl
      have c7 := hm.cell m0 7 rfl
      have hsg : IntKind.u32.signed = false := rfl
      have hmx : IntKind.u32.max = 4294967295 := rfl
      go_upto_region 9 with (fail)
      go_quiet (exact Calls.quiet_of_same (refRotr_same _ _ _ (by decide) (by decide)))
      have hm := hm.drewN nq
      clear c0 c1 c2 c3 c4 c5 c6 c7 k0 k1
      have c1 := hm.cell m0 1 rfl
      have c2 := hm.cell m0 2 rfl
      have c3 := hm.cell m0 3 rfl
      have c5 := hm.cell m0 5 rfl
      have c6 := hm.cell m0 6 rfl
      generalize wr.drewN nq = w10 at hm c1 c2 c3 c5 c6 ⊢
      go_upto_region 10 with (fail)
      go_quiet (exact Calls.quiet_of_same (refRotr_same _ _ _ (by decide) (by decide)))
      have hm := hm.drewN nq
      clear c1 c2 c3 c5 c6
      have c1 := hm.cell m0 1 rfl
      have c2 := hm.cell m0 2 rfl
      have c3 := hm.cell m0 3 rfl
      have c5 := hm.cell m0 5 rfl
      have c6 := hm.cell m0 6 rfl
      generalize w10.drewN nq = w11 at hm c1 c2 c3 c5 c6 ⊢
      go_wp2_with (refine wp_setrow rfl 43 _ _ rfl g9 rfl 43 (nums .u32 [a0, a1, a2, a3, a4, a5, a6, a7]) (nums .u32 [_, a0, a1, a2, _, a4, a5, a6]) rfl hm szR8 rfl (One.nums _ _) ?_; intro w12 hm12)
      have hm13 : Mem w w12 [Blk g9 (.cells (nums .u32 (rnds v K W (k + 1))).toArray 43), Blk g8 (.cells (nums .u32 K).toArray 54), Blk g7 (.cells (nums .u32 W).toArray 54), Blk (g + 1) (.cells (nums .u32 (List.replicate 8 0)).toArray 43), Blk g (.cells (nums .u32 v).toArray 43)] := by
        rw [hrn.out, rnd_flat]; exact hm12
      go_roundw
      case rel => exact ⟨k + 1, by go_num, by omega, hm13⟩
      case measure => simp [intOf]; omega
    · have hk64 : k = 64 := by omega
      rw [hk64] at hm
      clear hk64
      have hrl := rnds_length v K W hv.out 64
      generalize rnds v K W 64 = r at hm hrl hcm
      have hm := (hm.sel 5 [4, 0, 3] (by decide))
      have hm : Mem w wr [Blk g (.cells (nums .u32 (mix v r 0)).toArray 43), Blk g9 (.cells (nums .u32 r).toArray 43), Blk (g + 1) (.cells (nums .u32 (List.replicate 8 0)).toArray 43)] := by rw [mix_zero]; exact hm
      have hcm : Fact (C = mix v r 8) := ⟨by rw [mix_all v r hv.out hrl, hcm.out, List.zipWith_comm_of_comm (fun x y => by simp only [add, Int.add_comm])]⟩
      have hrl := Fact.mk hrl
      have hCl : Fact ((nums .u32 C).length = 8) := ⟨by rw [length_nums, hcm.out, mix_length v r hv.out hrl.out]⟩
      go_wp2
      go_loopw [15] (fun s W' => ∃ (k : Nat), s = .int .i64 k ∧ k ≤ 8 ∧ Mem w W' [Blk g (.cells (nums .u32 (mix v r k)).toArray 43), Blk g9 (.cells (nums .u32 r).toArray 43), Blk (g + 1) (.cells (nums .u32 (List.replicate 8 0)).toArray 43)]) (fun s _ => 8 - (intOf s).toNat)
      case atStart => exact ⟨0, rfl, by omega, hm⟩
      case round =>
        clear hm
        obtain ⟨k, rfl, hk, hm⟩ := hrel
        have hml := mix_length v r hv.out hrl.out k
        by_cases hlt : k < 8
        · obtain ⟨q1, q2⟩ := mix_step v r hv.out hrl.out k hlt
          have c0 := hm.cell m0 k (nums_getD .u32 _ k (by omega))
          rw [q1] at c0
          have c1 := hm.cell m1 k (nums_getD .u32 _ k (by have := hrl.out; omega))
          have q2 := Fact.mk q2
          have hml := Fact.mk hml
          clear q1
          generalize v.getD k 0 = x at c0 q2
          generalize r.getD k 0 = y at c1 q2
          go_upto_region 15 with (fail)
          go_still_tail 8, (by kernel_rfl)
          change wpList _ _ _ _ _ wr.drew
          have hm := hm.drew
          clear c0 c1
          have c0 := hm.cell m0 k (nums_getD .u32 _ k (by have := hml.out; omega))
          have f0 := hm.free m0 k
          have hm2 := hm.set k (.int .u32 (add x y))
          rw [nums_set, q2.out] at hm2
          generalize wr.drew = w7 at hm2 c0 f0 ⊢
          generalize (mix v r k).getD k 0 = z at c0
          clear hm
          go_wp2
          go_roundw
          case rel => exact ⟨k + 1, by go_num, by omega, hm2⟩
          case measure => simp [intOf]; omega
        · have hk8 : k = 8 := by omega
          rw [hk8, ← hcm.out] at hm
          have h1 := Fact.mk (One.nums .u32 C)
          clear hk8
          generalize hZ : nums .u32 C = Z at hm hCl h1
          replace hZ := Fact.mk hZ
          go_wp2_with (first | (refine Mm.wp_row rfl 43 _ rfl g rfl 43 Z _ _ hm m0 tyR8' rfl (by rw [hCl.out]; exact szR8) ?_) | (refine wp_setrow rfl 43 _ _ rfl (g + 1) rfl 43 (nums .u32 (List.replicate 8 0)) Z rfl (hm.sel 3 [2, 0, 1] (by decide)) (by rw [hCl.out]; exact szR8) (by rw [hCl.out]; rfl) h1.out ?_; intro w8 hm8))
          refine bodyPost_ret (Mm.res_cell rfl _ (g + 1) 43 Z (0, 0) rfl hm8 m0 tyR8 (by rw [hCl.out]; exact szR8)) rfl ⟨by rw [hC.out, hZ.out], hm8.below⟩
end Go.Proofs.Ytngdcnpokdogdaa
