/- The digest of bytes, in the reference; what a claim asks of arrays of 32 bytes. -/
import Derived.Test.YtngdcnpokdogdaaDigRefB
namespace Go.Proofs.Ytngdcnpokdogdaa
open Go.RowKit Go.Mm Go.Sh
set_option maxHeartbeats 4000000
set_option maxRecDepth 100000
theorem byt_padded {bs : List Int} (h : Byt bs) : Byt (padded bs) := h.app (byt_pad _)
theorem refSum_ok (w : World) (bs : List Int) (A : Option Addr) (m c : Nat) (hr : Fact (RdC w 1 (.slice A m c) (nums .u8 bs))) (hbs : Fact (Byt bs)) (hn : m ≤ 140737488351232) :
    Calls Try.prog 17 #[.slice A m c] w fun E w' => E = .returned (.agg (nums .u8 (Sh.sum bs)).toArray) ∧ Gr w w' := by
  have hl := Fact.mk hr.out.nlen
  go_enter Try.func17, Try.ntmps17
  go_upto_region 1 with (refine Mm.wp_alloc rfl 22 rfl _ zero22' (Mem.start w) ?_; intro g1 w1 hm1)
  go_wp2_with fail
  refine (padded_ok w1 bs A m c ⟨hr.out.gr hm1.below⟩ hn).mono ?_
  rintro E w2 ⟨AP, N, cP, rfl, hnew⟩
  have hm2 := hm1.new hnew
  clear hm1 hnew
  have hpm := padded_mod bs
  have hpl : (padded bs).length ≤ 140737488355328 := by
    have := pad_length bs.length; have := zeros_lt bs.length; have := hl.out
    simp only [padded, List.length_append]; omega
  have hN := (hm2.rd m0).nlen
  have hpb := Fact.mk (byt_padded hbs.out)
  obtain ⟨q, hq⟩ : ∃ q, (padded bs).length = 64 * q := ⟨(padded bs).length / 64, by omega⟩
  have hq1 : (padded bs).length / 64 = q := by omega
  have hsum : Fact (Sh.sum bs = out (fold iv (padded bs) q)) := ⟨by rw [← hq1]; rfl⟩
  have hNq : Fact (N = 64 * q) := ⟨by omega⟩
  have hNb : N ≤ 140737488355328 := by omega
  clear hpm hpl hN hq hq1
  generalize padded bs = ps at hm2 hpb hsum
  go_wp2_with fail
  refine (refFirst_ok w2).mono ?_
  rintro E w3 ⟨rfl, hg3⟩
  have hm3 := hm2.gr hg3
  clear hm2 hg3
  go_upto_region 3 with (first | (refine Mm.wp_alloc rfl 43 rfl _ zeroR8 hm3 ?_; intro g4 w4 hm4) | (refine wp_setrow rfl 43 _ _ rfl g4 rfl 43 (nums .u32 (List.replicate 8 0)) (nums .u32 iv) rfl hm4 szR8 rfl (One.nums _ _) ?_; intro w5 hm5))
  clear hm3 hm4
  have hm5 : Mem w w5 [Blk g4 (.cells (nums .u32 (fold iv ps 0)).toArray 43), Own 1 (.slice AP N cP) (nums .u8 ps), Blk g1 (.cells (nums .u8 (List.replicate 32 0)).toArray 22)] := hm5
  go_wp2
  go_loopw [5] (fun v W => ∃ (k p : Nat), v = .int .i64 p ∧ Fact (p = 64 * k) ∧ p ≤ N ∧ Mem w W [Blk g4 (.cells (nums .u32 (fold iv ps k)).toArray 43), Own 1 (.slice AP N cP) (nums .u8 ps), Blk g1 (.cells (nums .u8 (List.replicate 32 0)).toArray 22)]) (fun v _ => N - (intOf v).toNat)
  case atStart => exact ⟨0, 0, rfl, ⟨rfl⟩, by omega, hm5⟩
  case round =>
    clear hm5
    obtain ⟨k, p, rfl, hp, hpN, hm⟩ := hrel
    have hvl := Fact.mk (fold_length iv ps rfl k)
    have hvl2 : Fact ((nums .u32 (fold iv ps k)).length = 8) := ⟨by rw [length_nums, hvl.out]⟩
    have hfd : Fact (fold iv ps (k + 1) = cmp (fold iv ps k) ((ps.drop p).take 64)) := ⟨by rw [hp.out]; rfl⟩
    by_cases hlt : p < N
    · have hp64 : p + 64 ≤ N := by have := hp.out; have := hNq.out; omega
      generalize fold iv ps k = v at hm hvl hvl2 hfd
      go_wp2_with (refine Mm.wp_row rfl 43 _ rfl g4 rfl 43 (nums .u32 v) _ _ hm m0 tyR8' rfl (by rw [hvl2.out]; exact szR8) ?_)
      refine (block_ok wr v ps AP N cP p hvl ⟨hm.rd m1⟩ hpb hp64 hNb).mono ?_
      rintro E w6 ⟨rfl, hg6⟩
      have hm6 := hm.gr hg6
      rw [← hfd.out]
      have hcl : Fact ((nums .u32 (fold iv ps (k + 1))).length = 8) := ⟨by rw [length_nums, fold_length iv ps rfl]⟩
      clear hm hg6
      go_wp2_with (refine wp_setrow rfl 43 _ _ rfl g4 rfl 43 (nums .u32 v) (nums .u32 (fold iv ps (k + 1))) rfl hm6 (by rw [hcl.out]; exact szR8) (by rw [hcl.out, hvl2.out]) (One.nums _ _) ?_; intro w7 hm7)
      go_roundw
      case rel => exact ⟨k + 1, p + 64, by go_num, ⟨by rw [hp.out]; omega⟩, by omega, hm7⟩
      case measure => simp [intOf]; omega
    · have hkq : k = q := by have := hp.out; have := hNq.out; omega
      rw [hkq] at hm hvl hvl2
      clear hkq hfd
      generalize fold iv ps q = ws at hm hvl hvl2 hsum
      go_upto_region 8 with (refine Mm.wp_alloc rfl 22 rfl _ zero22' hm ?_; intro g6 w6 hm6)
      clear hm
      have hm6 : Mem w w6 [Blk g6 (.cells (nums .u8 ((out ws).take 0 ++ List.replicate (32 - 0) 0)).toArray 22), Blk g4 (.cells (nums .u32 ws).toArray 43), Blk g1 (.cells (nums .u8 (List.replicate 32 0)).toArray 22)] := hm6.sel 4 [0, 1, 3] (by decide)
      go_wp2
      go_loopw [7] (fun v W => ∃ (k : Nat), v = .int .i64 k ∧ k ≤ 32 ∧ Mem w W [Blk g6 (.cells (nums .u8 ((out ws).take k ++ List.replicate (32 - k) 0)).toArray 22), Blk g4 (.cells (nums .u32 ws).toArray 43), Blk g1 (.cells (nums .u8 (List.replicate 32 0)).toArray 22)]) (fun v _ => 32 - (intOf v).toNat)
      case atStart => exact ⟨0, rfl, by omega, hm6⟩
      case round =>
        clear hm6
        obtain ⟨k, rfl, hk, hm⟩ := hrel
        have hol : Fact (((out ws).take k).length = k) := ⟨by rw [List.length_take, out_length]; omega⟩
        by_cases hlt : k < 32
        · have hos := Fact.mk (out_succ ws k hlt)
          have c0 := hm.cell m1 (k / 4) (nums_getD .u32 ws (k / 4) (by have := hvl.out; omega))
          have c1 := hm.cell m0 k (nums_getD .u8 _ k (by rw [List.length_append, hol.out, List.length_replicate]; omega))
          have f1 := hm.free m0 k
          have hm2 := hm.set k (.int .u8 (ws.getD (k / 4) 0 / 2 ^ (24 - 8 * (k % 4)) % 256))
          rw [nums_set, fill_at hol.out (by omega), ← hos.out] at hm2
          clear hm
          generalize ws.getD (k / 4) 0 = x at c0 hm2
          generalize ((out ws).take k ++ List.replicate (32 - k) 0).getD k 0 = y at c1
          have d1 : ((k : Int) / 4).toNat = k / 4 := by omega
          have d2 : (24 - 8 * ((k : Int) % 4)).toNat = 24 - 8 * (k % 4) := by omega
          have d3 : (0 : Int) ≤ (k : Int) / 4 := by omega
          have d4 : (k : Int) / 4 < 8 := by omega
          have d5 : (0 : Int) ≤ 24 - 8 * ((k : Int) % 4) := by omega
          have d6 : 24 - 8 * ((k : Int) % 4) ≤ 32 := by omega
          have d7 : IntKind.u64.wrap (24 - 8 * ((k : Int) % 4)) = 24 - 8 * ((k : Int) % 4) := IntWalk.u64_in _ (by omega)
          go_wp2
          go_roundw
          case rel => exact ⟨k + 1, by go_num, by omega, hm2⟩
          case measure => simp [intOf]; omega
        · have hk32 : k = 32 := by omega
          rw [hk32, List.take_of_length_le (by rw [out_length]; omega)] at hm
          have hm : Mem w wr [Blk g6 (.cells (nums .u8 (out ws)).toArray 22), Blk g1 (.cells (nums .u8 (List.replicate 32 0)).toArray 22)] := by simpa using hm.sel 3 [0, 2] (by decide)
          have hol2 : Fact ((nums .u8 (out ws)).length = 32) := ⟨by rw [length_nums, out_length]⟩
          have h1 := Fact.mk (One.nums .u8 (out ws))
          clear hk32
          generalize hZ : nums .u8 (out ws) = Z at hm hol2 h1
          replace hZ := Fact.mk hZ
          go_wp2_with (first | (refine Mm.wp_row rfl 22 _ rfl g6 rfl 22 Z _ _ hm m0 ty22 rfl (by rw [hol2.out]; exact sz22) ?_) | (refine wp_setrow rfl 22 _ _ rfl g1 rfl 22 (nums .u8 (List.replicate 32 0)) Z rfl hm.swap (by rw [hol2.out]; exact sz22) (by rw [hol2.out]; rfl) h1.out ?_; intro w8 hm8))
          refine bodyPost_ret (Mm.res_cell rfl _ g1 22 Z (0, 0) rfl hm8 m0 tyD (by rw [hol2.out]; exact sz22)) rfl ⟨by rw [hsum.out, hZ.out], hm8.below⟩
end Go.Proofs.Ytngdcnpokdogdaa
