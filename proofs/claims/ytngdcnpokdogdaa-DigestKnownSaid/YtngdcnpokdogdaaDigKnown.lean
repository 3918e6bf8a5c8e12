/- Closed: each length up to 200, some that are longer, whole and in pieces; whole blocks, one behind the other. -/
import Derived.Test.YtngdcnpokdogdaaDigPieces
import Derived.Test.YtngdcnpokdogdaaDigSumLaw
namespace Go.Proofs.Ytngdcnpokdogdaa
open Go.RowKit Go.Mm Go.Sh
set_option maxHeartbeats 4000000
set_option maxRecDepth 100000
theorem slice_upto (W : World) (b o r c n : Nat) (hn : n ≤ r) (hc : r ≤ c) :
    (Instr.slice 25 (.slice (some ⟨b, o, none⟩) r c) none (some (.int .i64 (n : Int))) none).run Try.prog W = .ok (.slice (some ⟨b, o, none⟩) n c) W := by
  obtain ⟨i5, hi, hz0, hz1, hz2⟩ := info_parts infB
  have hb : ∀ W k, (Instr.sliceBound (.int .i64 (n : Int)) c k).run Try.prog W = .ok n W := fun W k => by
    simp [run_sliceBound, (by omega : (n : Int) ≤ c)]
  simp [Instr.slice, run_underlying tyBs, Instr.sliceBounds, hb, sizeOf, typeInfo, hi, hz1, add_lit]
theorem slice_mid (W : World) (b o r c l n : Nat) (hl : l ≤ n) (hl2 : l < c) (hn : n ≤ r) (hc : r ≤ c) :
    (Instr.slice 25 (.slice (some ⟨b, o, none⟩) r c) (some (.int .i64 (l : Int))) (some (.int .i64 (n : Int))) none).run Try.prog W = .ok (.slice (some ⟨b, o + l, none⟩) (n - l) (c - l)) W := by
  obtain ⟨i5, hi, hz0, hz1, hz2⟩ := info_parts infB
  have hb : ∀ W k, (Instr.sliceBound (.int .i64 (n : Int)) c k).run Try.prog W = .ok n W := fun W k => by
    simp [run_sliceBound, (by omega : (n : Int) ≤ c)]
  have hb2 : ∀ W k, (Instr.sliceBound (.int .i64 (l : Int)) n k).run Try.prog W = .ok l W := fun W k => by
    simp [run_sliceBound, (by omega : (l : Int) ≤ n)]
  have h2 : ¬ c = l := by omega
  simp [Instr.slice, run_underlying tyBs, Instr.sliceBounds, hb, hb2, sizeOf, typeInfo, hi, hz1, h2, add_lit]
def lens : List Int := [4095, 4096, 4097, 8191, 8192, 8193, 65535, 65600]
theorem lens_at (i : Nat) (h : i < 8) : ∃ L : Nat, (nums .i64 lens)[i]? = some (.int .i64 L) ∧ 4095 ≤ L ∧ L ≤ 65600 := by
  obtain rfl | rfl | rfl | rfl | rfl | rfl | rfl | rfl : i = 0 ∨ i = 1 ∨ i = 2 ∨ i = 3 ∨ i = 4 ∨ i = 5 ∨ i = 6 ∨ i = 7 := by omega
  · exact ⟨4095, rfl, by omega, by omega⟩
  · exact ⟨4096, rfl, by omega, by omega⟩
  · exact ⟨4097, rfl, by omega, by omega⟩
  · exact ⟨8191, rfl, by omega, by omega⟩
  · exact ⟨8192, rfl, by omega, by omega⟩
  · exact ⟨8193, rfl, by omega, by omega⟩
  · exact ⟨65535, rfl, by omega, by omega⟩
  · exact ⟨65600, rfl, by omega, by omega⟩
theorem lengths_ok (w : World) : Calls Try.prog 20 #[] w fun e w' => e = .returned (.bool true) ∧ Gr w w' := by
  obtain ⟨i5, hi, hz0, hz1, hz2⟩ := info_parts infB
  go_enter Try.func20, Try.ntmps20
  go_wp2
  go_loopw [1, 2] (fun s v W => ∃ (k : Nat) (A : Option Addr) (c : Nat) (bs : List Int), v = .int .i64 k ∧ k ≤ 200 ∧ s = .slice A k c ∧ Fact (Byt bs) ∧ Mem w W [Own 1 (.slice A k c) (nums .u8 bs)]) (fun _ v _ => 200 - (intOf v).toNat)
  case atStart => exact ⟨0, none, 0, [], rfl, by omega, rfl, ⟨fun x hx => absurd hx (by simp)⟩, (Mem.start w).nil 1 none⟩
  case round =>
    obtain ⟨k, A, c, bs, rfl, hk, rfl, hb, hm⟩ := hrel
    by_cases hlt : k < 200
    · have e1 : IntKind.i64.wrap (7 * (k : Int)) = 7 * k := IntWalk.i64_in _ (by omega)
      go_wp2_with fail
      refine (digestSum_walk wr A k c bs ⟨hm.rd m0⟩ (by omega) hb).mono ?_
      rintro e w1 ⟨rfl, hg1⟩
      have hm1 := hm.gr hg1
      clear hm hg1
      go_wp2_with (at_builtin; refine wp_app rfl _ _ _ rfl 5 i5 _ 1 1 tyBs hi hz0 hz1 hz2 rfl A k c _ rfl (L := [Blk _ _]) (hm1.alloc _).swap _ 1 1 [.int .u8 (7 * (k : Int) % 256)] rfl (RdC.lit _ _ _ _ _ rfl (by simp [maxLen]) (One.nums .u8 [7 * (k : Int) % 256])) (by unfold maxLen; omega) (by omega) ?_; intro A1 c1 w4 HM1)
      have HM2 := HM1.only
      rw [show nums .u8 bs ++ [Value.int .u8 (7 * (k : Int) % 256)] = nums .u8 (bs ++ [7 * (k : Int) % 256]) by simp [nums]] at HM2
      go_roundw
      case rel => exact ⟨k + 1, A1, c1, _, by go_num, by omega, rfl, ⟨hb.out.app (fun x hx => by simp at hx; subst hx; omega)⟩, HM2⟩
      case measure => simp [intOf]; omega
    · have hd0 : decide ((k : Int) < 200) = false := decide_eq_false (by omega)
      go_wp2
      have hm2 := hm.alloc (.cells (nums .i64 lens).toArray 3)
      generalize hg8 : wr.heap.size = g8 at hm2 ⊢
      have hw2 : wr.alloc (.cells (nums .i64 lens).toArray 3) = wr.alloc (.cells (nums .i64 lens).toArray 3) := rfl
      generalize hww : wr.alloc (.cells (nums .i64 lens).toArray 3) = w2 at hm2
      refine wp_world hww ?_
      clear hww hw2 hg8 hm
      go_loopw [1, 4] (fun s v W => ∃ (i n : Nat) (A : Option Addr) (c : Nat) (bs : List Int), v = .int .i64 i ∧ i ≤ 8 ∧ s = .slice A n c ∧ n ≤ 65600 ∧ Fact (Byt bs) ∧ Mem w W [Own 1 (.slice A n c) (nums .u8 bs), Blk g8 (.cells (nums .i64 lens).toArray 3)]) (fun _ v _ => 8 - (intOf v).toNat)
      case atStart => exact ⟨0, k, A, c, bs, rfl, by omega, rfl, by omega, hb, hm2.swap⟩
      case round =>
        clear hm2 hb
        obtain ⟨i, n, A, c, bs, rfl, hi8, rfl, hn, hb, hm⟩ := hrel
        by_cases hlt : i < 8
        · obtain ⟨L, hL, hL1, hL2⟩ := lens_at i hlt
          have hd1 : decide ((i : Int) < 8) = true := decide_eq_true (by omega)
          go_wp2
          obtain ⟨w0, rfl⟩ : ∃ w0 : World, w0 = wr := ⟨_, rfl⟩
          go_loopw [1] (fun s W => ∃ (n : Nat) (A : Option Addr) (c : Nat) (bs : List Int), s = .slice A n c ∧ n ≤ 65600 ∧ Fact (Byt bs) ∧ Mem w W [Own 1 (.slice A n c) (nums .u8 bs), Blk g8 (.cells (nums .i64 lens).toArray 3)]) (fun s _ => 65600 - (match s with | .slice _ n _ => n | _ => 0))
          case atStart => exact ⟨n, A, c, bs, rfl, hn, hb, hm⟩
          case round =>
            clear hm hb
            obtain ⟨n, A, c, bs, rfl, hn, hb, hm⟩ := hrel
            have c0 := hm.cell m1 i hL
            by_cases hlt2 : n < L
            · have hlt3 : (n : Int) < (L : Int) := by omega
              go_wp2_with (at_builtin; refine wp_app rfl _ _ _ rfl 5 i5 _ 1 1 tyBs hi hz0 hz1 hz2 rfl A n c _ rfl (L := [Blk _ _, Blk _ _]) (hm.alloc _).swap _ 1 1 [.int .u8 ((n : Int) % 256)] rfl (RdC.lit _ _ _ _ _ rfl (by simp [maxLen]) (One.nums .u8 [(n : Int) % 256])) (by unfold maxLen; omega) (by omega) ?_; intro A1 c1 w4 HM1)
              have HM2 := HM1.drop2
              rw [show nums .u8 bs ++ [Value.int .u8 ((n : Int) % 256)] = nums .u8 (bs ++ [(n : Int) % 256]) by simp [nums]] at HM2
              go_roundw
              case rel => exact ⟨n + 1, A1, c1, _, rfl, by omega, ⟨hb.out.app (fun x hx => by simp at hx; subst hx; omega)⟩, HM2⟩
              case measure => simp; omega
            · have hge : ¬ ((n : Int) < (L : Int)) := by omega
              go_upto_region 14 with (fail)
              have hcap := (hm.ok _ m0).cap
              obtain ⟨gb, ob, rfl⟩ := (hm.ok _ m0).addr (by omega)
              have hnc := hcap.1
              have hcm := hcap.2
              obtain ⟨A2, hs3, hr3⟩ := slice_from (P := Try.prog) 25 5 tyBs szB gb ob n c 4095 (by omega) hnc
              have hs1 : ∀ W, (Instr.slice 25 (.slice (some ⟨gb, ob, none⟩) n c) none (some (.int .i64 4000)) none).run Try.prog W = .ok (.slice (some ⟨gb, ob, none⟩) 4000 c) W := fun W => slice_upto W gb ob n c 4000 (by omega) hnc
              have hs2 : ∀ W, (Instr.slice 25 (.slice (some ⟨gb, ob, none⟩) n c) (some (.int .i64 4000)) (some (.int .i64 4095)) none).run Try.prog W = .ok (.slice (some ⟨gb, ob + 4000, none⟩) 95 (c - 4000)) W := fun W => slice_mid W gb ob n c 4000 4095 (by omega) (by omega) (by omega) hnc
              have hs3' : ∀ W, (Instr.slice 25 (.slice (some ⟨gb, ob, none⟩) n c) (some (.int .i64 4095)) none none).run Try.prog W = .ok (.slice A2 (n - 4095) (c - 4095)) W := fun W => hs3 W
              clear hs3 hcap
              refine wp_region_until (S := fun _ => True) 11 (by kernel_rfl) ?_
              have hmd := hm.drew
              clear hm c0
              generalize wr.drew = w3 at hmd ⊢
              refine wpAnyU_take 0 (v := ?v0) rfl (by kernel_rfl) (by kernel_rfl) (fun _ _ _ h => h) trivial (Or.inl ⟨rfl, ?y0⟩) ?r0
              case y0 =>
                intro W hW
                go_simp
                try with_reducible rfl
              try simp only [Act.put, List.getElem_toArray, List.getElem_cons_succ, List.getElem_cons_zero, List.setIfInBounds_toArray, List.set_cons_zero, List.set_cons_succ]
              refine wpAnyU_one 1 (by kernel_rfl) rfl (fun K hK => ?_)
              refine step_callw rfl 6 Try.f6 Try.func6 (by kernel_rfl) (by kernel_rfl) _ _ rfl #[.slice (some ⟨gb, ob, none⟩) n c] (by simp [Act.eval]) ?_
              refine (digestSum_walk w3 _ n c bs ⟨hmd.rd m0⟩ (by omega) hb).mono ?_
              rintro E w4 ⟨rfl, hg4⟩
              have hm4 := hmd.gr hg4
              clear hmd hg4
              refine ⟨_, rfl, hK _ _ (fun _ => trivial) ?_⟩
              clear hK K
              try simp only [Act.put, List.getElem_toArray, List.getElem_cons_succ, List.getElem_cons_zero, List.setIfInBounds_toArray, List.set_cons_zero, List.set_cons_succ]
              refine wpAnyU_take 2 (v := ?v2) rfl (by kernel_rfl) (by kernel_rfl) (fun _ _ _ h => h) trivial (Or.inl ⟨rfl, ?y2⟩) ?r2
              case y2 =>
                intro W hW
                go_simp
                try with_reducible rfl
              try simp only [Act.put, List.getElem_toArray, List.getElem_cons_succ, List.getElem_cons_zero, List.setIfInBounds_toArray, List.set_cons_zero, List.set_cons_succ]
              refine wpAnyU_take 3 (v := ?v3) rfl (by kernel_rfl) (by kernel_rfl) (fun _ _ _ h => h) trivial (Or.inl ⟨rfl, ?y3⟩) ?r3
              case y3 =>
                intro W hW
                go_simp
                try with_reducible rfl
              try simp only [Act.put, List.getElem_toArray, List.getElem_cons_succ, List.getElem_cons_zero, List.setIfInBounds_toArray, List.set_cons_zero, List.set_cons_succ]
              refine wpAnyU_take 4 (v := ?v4) rfl (by kernel_rfl) (by kernel_rfl) (fun _ _ _ h => h) trivial (Or.inl ⟨rfl, ?y4⟩) ?r4
              case y4 =>
                intro W hW
                go_simp
                try with_reducible rfl
              try simp only [Act.put, List.getElem_toArray, List.getElem_cons_succ, List.getElem_cons_zero, List.setIfInBounds_toArray, List.set_cons_zero, List.set_cons_succ]
              refine wpAnyU_take 5 (v := ?v5) rfl (by kernel_rfl) (by kernel_rfl) (fun _ _ _ h => h) trivial (Or.inl ⟨rfl, ?y5⟩) ?r5
              case y5 =>
                intro W hW
                go_simp
                try with_reducible rfl
              try simp only [Act.put, List.getElem_toArray, List.getElem_cons_succ, List.getElem_cons_zero, List.setIfInBounds_toArray, List.set_cons_zero, List.set_cons_succ]
              refine wpAnyU_take 6 (v := ?v6) rfl (by kernel_rfl) (by kernel_rfl) (fun _ _ _ h => h) trivial (Or.inl ⟨rfl, ?y6⟩) ?r6
              case y6 =>
                intro W hW
                go_simp
                try with_reducible rfl
              try simp only [Act.put, List.getElem_toArray, List.getElem_cons_succ, List.getElem_cons_zero, List.setIfInBounds_toArray, List.set_cons_zero, List.set_cons_succ]
              refine wpAnyU_take 7 (v := ?v7) rfl (by kernel_rfl) (by kernel_rfl) (fun _ _ _ h => h) trivial (Or.inl ⟨rfl, ?y7⟩) ?r7
              case y7 =>
                intro W hW
                go_simp
                try with_reducible rfl
              try simp only [Act.put, List.getElem_toArray, List.getElem_cons_succ, List.getElem_cons_zero, List.setIfInBounds_toArray, List.set_cons_zero, List.set_cons_succ]
              refine wpAnyU_take 8 (v := ?v8) rfl (by kernel_rfl) (by kernel_rfl) (fun _ _ _ h => h) trivial (Or.inl ⟨rfl, ?y8⟩) ?r8
              case y8 =>
                intro W hW
                go_simp
                try with_reducible rfl
              try simp only [Act.put, List.getElem_toArray, List.getElem_cons_succ, List.getElem_cons_zero, List.setIfInBounds_toArray, List.set_cons_zero, List.set_cons_succ]
              refine wpAnyU_take 9 (v := ?v9) rfl (by kernel_rfl) (by kernel_rfl) (fun _ _ _ h => h) trivial (Or.inl ⟨rfl, ?y9⟩) ?r9
              case y9 =>
                intro W hW
                go_simp
                try with_reducible rfl
              try simp only [Act.put, List.getElem_toArray, List.getElem_cons_succ, List.getElem_cons_zero, List.setIfInBounds_toArray, List.set_cons_zero, List.set_cons_succ]
              refine wpAnyU_take 10 (v := ?v10) rfl (by kernel_rfl) (by kernel_rfl) (fun _ _ _ h => h) trivial (Or.inl ⟨rfl, ?y10⟩) ?r10
              case y10 =>
                intro W hW
                go_simp
                try with_reducible rfl
              try simp only [Act.put, List.getElem_toArray, List.getElem_cons_succ, List.getElem_cons_zero, List.setIfInBounds_toArray, List.set_cons_zero, List.set_cons_succ]
              refine wpAnyU_one 11 (by kernel_rfl) rfl (fun K hK => ?_)
              go_simp
              refine hK _ _ (fun _ => trivial) ?_
              clear hK K
              try simp only [Act.put, List.getElem_toArray, List.getElem_cons_succ, List.getElem_cons_zero, List.setIfInBounds_toArray, List.set_cons_zero, List.set_cons_succ]
              have hm5 := hm4.alloc (.cells #[.slice (some ⟨gb, ob, none⟩) 4000 c, .slice (some ⟨gb, ob + 4000, none⟩) 95 (c - 4000), .slice A2 (n - 4095) (c - 4095), .slice (some ⟨gb, ob, none⟩) n c] 25)
              have hrb := hm5.rd m1
              have hpc : PcsOk (w4.alloc (.cells #[.slice (some ⟨gb, ob, none⟩) 4000 c, .slice (some ⟨gb, ob + 4000, none⟩) 95 (c - 4000), .slice A2 (n - 4095) (c - 4095), .slice (some ⟨gb, ob, none⟩) n c] 25)) (some ⟨w4.heap.size, 0, none⟩) 4 4 [⟨some ⟨gb, ob, none⟩, 4000, c, bs.take 4000⟩, ⟨some ⟨gb, ob + 4000, none⟩, 95, c - 4000, (bs.drop 4000).take 95⟩, ⟨A2, n - 4095, c - 4095, bs.drop 4095⟩, ⟨some ⟨gb, ob, none⟩, n, c, bs⟩] := by
                refine ⟨RdC.lit w4 [.slice (some ⟨gb, ob, none⟩) 4000 c, .slice (some ⟨gb, ob + 4000, none⟩) 95 (c - 4000), .slice A2 (n - 4095) (c - 4095), .slice (some ⟨gb, ob, none⟩) n c] 25 4 1 rfl (by simp [maxLen]) (by intro u hu; simp at hu; rcases hu with rfl | rfl | rfl | rfl <;> rfl), ?_⟩
                intro p hp
                simp only [List.mem_cons, List.not_mem_nil, or_false] at hp
                rcases hp with rfl | rfl | rfl | rfl
                · exact ⟨by have := hrb.pre 4000 (by omega); rwa [Nat.mul_one, ← nums_take] at this, hb.out.take _, by show 4000 ≤ _; omega⟩
                · refine ⟨?_, (hb.out.drop _).take _, by show 95 ≤ _; omega⟩
                  have := (hrb.behind 4000 (by omega)).pre 95 (by omega)
                  rwa [Nat.mul_one, Nat.mul_one, show (nums .u8 bs).drop 4000 = nums .u8 (bs.drop 4000) by simp [nums], ← nums_take] at this
                · exact ⟨by have := hr3 _ _ hrb; rwa [show (nums .u8 bs).drop 4095 = nums .u8 (bs.drop 4095) by simp [nums]] at this, hb.out.drop _, by show n - 4095 ≤ _; omega⟩
                · exact ⟨hrb, hb.out, by show n ≤ _; omega⟩
              clear hrb
              generalize w4.heap.size = g9 at hpc hm5 ⊢
              generalize w4.alloc (.cells #[.slice (some ⟨gb, ob, none⟩) 4000 c, .slice (some ⟨gb, ob + 4000, none⟩) 95 (c - 4000), .slice A2 (n - 4095) (c - 4095), .slice (some ⟨gb, ob, none⟩) n c] 25) = w5 at hpc hm5 ⊢
              refine wpAnyU_one 12 (by kernel_rfl) rfl (fun K hK => ?_)
              refine step_callw rfl 8 Try.f8 Try.func8 (by kernel_rfl) (by kernel_rfl) _ _ rfl #[.slice (some ⟨g9, 0, none⟩) 4 4] (by simp [Act.eval]) ?_
              refine (pieces_ok w5 _ 4 4 _ ⟨hpc⟩ (by omega)).mono ?_
              rintro E w6 ⟨rfl, hg6⟩
              have hm6 := (hm5.gr hg6).tail
              clear hm5 hg6 hpc
              refine ⟨_, rfl, hK _ _ (fun _ => trivial) ?_⟩
              clear hK K
              try simp only [Act.put, List.getElem_toArray, List.getElem_cons_succ, List.getElem_cons_zero, List.setIfInBounds_toArray, List.set_cons_zero, List.set_cons_succ]
              refine wpAnyU_one 13 (by kernel_rfl) rfl (fun K hK => ?_)
              go_simp
              refine hK _ _ (fun _ => trivial) ?_
              clear hK K
              try simp only [Act.put, List.getElem_toArray, List.getElem_cons_succ, List.getElem_cons_zero, List.setIfInBounds_toArray, List.set_cons_zero, List.set_cons_succ]
              refine wpAnyU_one 14 (by kernel_rfl) rfl (fun K hK => ?_)
              go_simp
              refine hK _ _ (fun _ => trivial) ?_
              clear hK K
              try simp only [Act.put, List.getElem_toArray, List.getElem_cons_succ, List.getElem_cons_zero, List.setIfInBounds_toArray, List.set_cons_zero, List.set_cons_succ]
              refine wpAnyU_done (by kernel_rfl) ?_ _
              clear hs1 hs2 hs3' hr3
              go_wp2
              go_roundw
              case rel => exact ⟨i + 1, n, _, c, bs, by go_num, by omega, rfl, hn, hb, hm6⟩
              case measure => simp [intOf]; omega
        · go_wp2
          go_ret
          exact ⟨rfl, hm.below⟩
theorem blocks_ok (w : World) : Calls Try.prog 21 #[] w fun e w' => e = .returned (.bool true) ∧ Gr w w' := by
  obtain ⟨i5, hi, hz0, hz1, hz2⟩ := info_parts infB
  go_enter Try.func21, Try.ntmps21
  go_wp2_with fail
  refine (new_ok w).mono ?_
  rintro e w1 ⟨g, rfl, hm1⟩
  go_wp2
  have hm2 := (hm1.nil 1 none).swap
  clear hm1
  go_loopw [2, 3] (fun s v W => ∃ (k n : Nat) (A : Option Addr) (c : Nat) (bs : List Int) (T : Told), v = .int .i64 k ∧ k ≤ 6 ∧ s = .slice A n c ∧ n = 64 * k ∧ Fact (Byt bs) ∧ Fact T.ok ∧ Mem w W [Blk g (.cells (hsh bs T).toArray 53), Own 1 (.slice A n c) (nums .u8 bs)]) (fun _ v _ => 6 - (intOf v).toNat)
  case atStart => exact ⟨0, 0, none, 0, [], told0, rfl, by omega, rfl, rfl, ⟨fun x hx => absurd hx (by simp)⟩, ⟨told0_ok⟩, hm2⟩
  case round =>
    clear hm2
    obtain ⟨k, n, A, c, bs, T, rfl, hk, rfl, hn, hb, hT, hm⟩ := hrel
    replace hn := Fact.mk hn
    by_cases hlt : k < 6
    · have hd1 : decide ((k : Int) < 6) = true := decide_eq_true (by omega)
      have hm2 := hm.nil 1 none
      clear hm
      go_wp2
      obtain ⟨w0, rfl⟩ : ∃ w0 : World, w0 = wr := ⟨_, rfl⟩
      go_loopw [4, 5] (fun s v W => ∃ (j : Nat) (B : Option Addr) (d : Nat) (ys : List Int), v = .int .i64 j ∧ j ≤ 64 ∧ s = .slice B j d ∧ Fact (Byt ys) ∧ Mem w W [Own 1 (.slice B j d) (nums .u8 ys), Blk g (.cells (hsh bs T).toArray 53), Own 1 (.slice A n c) (nums .u8 bs)]) (fun _ v _ => 64 - (intOf v).toNat)
      case atStart => exact ⟨0, none, 0, [], rfl, by omega, rfl, ⟨fun x hx => absurd hx (by simp)⟩, hm2⟩
      case round =>
        clear hm2
        obtain ⟨j, B, d, ys, rfl, hj, rfl, hy, hm⟩ := hrel
        by_cases hlt2 : j < 64
        · go_wp2_with (at_builtin; refine wp_app rfl _ _ _ rfl 5 i5 _ 1 1 tyBs hi hz0 hz1 hz2 rfl B j d _ rfl (L := [Blk _ _, Blk _ _, Own _ _ _]) (hm.alloc _).swap _ 1 1 [.int .u8 ((k : Int))] rfl (RdC.lit _ _ _ _ _ rfl (by simp [maxLen]) (One.nums .u8 [(k : Int)])) (by unfold maxLen; omega) (by omega) ?_; intro A1 c1 w4 HM1)
          have HM2 := HM1.drop2
          rw [show nums .u8 ys ++ [Value.int .u8 ((k : Int))] = nums .u8 (ys ++ [(k : Int)]) by simp [nums]] at HM2
          go_roundw
          case rel => exact ⟨j + 1, A1, c1, _, by go_num, by omega, rfl, ⟨hy.out.app (fun x hx => by simp at hx; subst hx; omega)⟩, HM2⟩
          case measure => simp [intOf]; omega
        · obtain rfl : 64 = j := by omega
          have hbl := Fact.mk (hm.rd m2).nlen
          have hyb := Fact.mk (hb.out.app hy.out)
          have hnb : n ≤ 384 := by have := hn.out; omega
          have hyl := Fact.mk (hm.rd m0).nlen
          have hm3 : Mem w wr [Blk g (.cells (hsh bs T).toArray 53), Own 1 (.slice B 64 d) (nums .u8 ys), Own 1 (.slice A n c) (nums .u8 bs)] := hm.swap
          clear hm
          go_wp2_with fail
          refine (hwrite_ok w wr [Own 1 (.slice B 64 d) (nums .u8 ys), Own 1 (.slice A n c) (nums .u8 bs)] g bs ys T B 64 d hm3 ⟨fun W cs h => h.rd m1⟩ hb hy (by rw [hbl.out]; omega)).mono ?_
          rintro e w3 ⟨rfl, hm4⟩
          clear hm3
          go_wp2_with (at_builtin; refine wp_app rfl _ _ _ rfl 5 i5 _ 1 1 tyBs hi hz0 hz1 hz2 rfl A n c _ rfl (L := [Blk _ _, Own _ _ _]) hm4.pull2 B 64 d _ rfl (hm4.rd m1) (by unfold maxLen; omega) (by omega) ?_; intro A1 c1 w4 HM1)
          rw [← nums_append] at HM1
          have hC : Fact ((bs ++ ys).length = n + 64) := ⟨by rw [List.length_append, hbl.out, hyl.out]⟩
          generalize bs ++ ys = C at HM1 hyb hC
          clear hm4
          have q1 : ∀ W, (Op.equalIn 10000 22 (.agg (nums .u8 (Sh.sum C)).toArray) (.agg (nums .u8 (Sh.sum C)).toArray)).run Try.prog W = .ok true W := fun W => run_ne_nums (P := Try.prog) W 22 5 32 .u8 ty22 ty5 sz5 _ (sum_length _)
          have HM2 := HM1.swap
          clear HM1
          go_wp2_with fail
          refine (hsum_ok w w4 _ g C T HM2 hT hyb (by rw [hC.out]; omega)).mono ?_
          rintro e w5 ⟨rfl, T2, hT2, hm5⟩
          replace hT2 := Fact.mk hT2
          clear HM2
          go_wp2_with fail
          refine (sum_ok w5 C A1 (n + 64) c1 ⟨hm5.rd m1⟩ hyb (by omega)).mono ?_
          rintro e w6 ⟨rfl, hg6⟩
          have hm6 := hm5.gr hg6
          clear hm5 hg6
          go_wp2_with fail
          refine (hsum_ok w w6 _ g C T2 hm6 hT2 hyb (by rw [hC.out]; omega)).mono ?_
          rintro e w7 ⟨rfl, T3, hT3, hm7⟩
          replace hT3 := Fact.mk hT3
          clear hm6
          go_wp2_with fail
          refine (sum_ok w7 C A1 (n + 64) c1 ⟨hm7.rd m1⟩ hyb (by omega)).mono ?_
          rintro e w8 ⟨rfl, hg8⟩
          have hm8 := hm7.gr hg8
          clear hm7 hg8
          go_wp2
          clear q1
          go_roundw
          case rel => exact ⟨k + 1, n + 64, A1, c1, C, T3, by go_num, by omega, rfl, by rw [hn.out]; omega, hyb, hT3, hm8.first2⟩
          case measure => simp [intOf]; omega
    · go_wp2
      go_ret
      exact ⟨rfl, hm.below⟩
theorem digestKnown_walk (w : World) : Calls Try.prog 7 #[] w fun e w' => e = .returned (.bool true) ∧ Gr w w' := by
  go_enter Try.func7, Try.ntmps7
  go_wp2_with fail
  refine (shownD_ok w).mono ?_
  rintro e w1 ⟨rfl, hg1⟩
  go_wp2_with fail
  refine (lengths_ok w1).mono ?_
  rintro e w2 ⟨rfl, hg2⟩
  go_wp2_with fail
  refine (blocks_ok w2).mono ?_
  rintro e w3 ⟨rfl, hg3⟩
  go_wp2
  go_ret
  exact ⟨rfl, (hg1.trans hg2).trans hg3⟩
theorem digestKnown_ok (H : Type) (_enc : TypeId × Value → H) (W : World) (_base : Nat) :
    Calls Try.prog 7 #[] W fun e w' => e = .returned (.bool true) ∧ Gr W w' := digestKnown_walk W
end Go.Proofs.Ytngdcnpokdogdaa
