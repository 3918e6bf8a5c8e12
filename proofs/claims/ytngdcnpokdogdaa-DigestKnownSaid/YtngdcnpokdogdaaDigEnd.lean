/- The digest, were these all bytes; the digest of bytes, in the program. -/
import Derived.Test.YtngdcnpokdogdaaDigWr
import Derived.Test.YtngdcnpokdogdaaMk
import Derived.Test.YtngdcnpokdogdaaDigFrom
namespace Go.Mm
open Go.RowKit
/-- make([]T, n, c) of one-cell elements. -/
theorem wp_makecap {P : Program} {ops : Array Oper} {rest : List Oper} {o : Oper} {a : Act} {Q : Exit → Act → World → Prop} {w0 w : World} {L : List Chunk} (zv : Value) (bytes : Nat) (h1 : zv.oneCell' = true) (hgd : o.guard = none) (l c : Operand) (t e : TypeId) (ho : o.op = .makeSlice t l c) (ht : P.underlying t = some (.slice e))
    (i : TypeInfo) (z : Value) (hi : P.info? e = some i) (hz : i.zero = some z) (hsz : i.size = 1) (hby : i.bytes = bytes) (hzc : z.cells = #[zv]) (n k : Nat) (hl : a.eval l = .int .i64 n) (hc : a.eval c = .int .i64 k) (hnk : n ≤ k) (hb : bytes * k ≤ 281474976710656) (hn : k ≤ maxLen) (hm : Mem w0 w L)
    (h : ∀ g w', Mem w0 w' (Own 1 (.slice (some ⟨g, 0, none⟩) n k) (List.replicate n zv) :: L) → wpList P ops Q rest (a.put o.dst (.slice (some ⟨g, 0, none⟩) n k)) w') : wpList P ops Q (o :: rest) a w :=
  wpList_plain hgd fun K hK => by
    subst hby
    have hb' : (i.bytes : Int) * (k : Int) ≤ 281474976710656 := by
      have h : ((i.bytes * k : Nat) : Int) ≤ 281474976710656 := by omega
      rwa [Int.natCast_mul] at h
    have hr := run_make (P := P) w t e i z ht hi hz .i64 .i64 n k (by omega) (by omega) hb' (by simp [maxLen] at hn; omega)
    simp only [Int.toNat_natCast] at hr
    unfold Oper.wp execOp
    simp only [ho, hl, hc, Sem.run_bind, hr, Result.andThen_ok, Sem.run_pure]
    refine hK _ _ (h w.heap.size _ (hm.new ⟨(Gr.refl w).alloc _, ?_, fun k hk => ?_⟩))
    · refine ⟨_, _, _, rfl, by simp, hnk, hn, fun u hu => by rw [List.eq_of_mem_replicate hu]; exact h1, .inr ⟨w.heap.size, 0, e, _, rfl, heap_alloc_new w _, by rw [size_madeCells, hsz]; omega, ?_⟩⟩
      rw [hzc, hsz]
      apply List.ext_getElem?
      intro j
      by_cases hj : j < n
      · simp [madeCells, List.getElem?_take, hj, show j < k by omega, Nat.mod_one]
      · simp [madeCells, List.getElem?_take, hj]
    · obtain ⟨_, _, _, e, _⟩ := hk
      cases e
      simp
end Go.Mm
namespace Go.Proofs.Ytngdcnpokdogdaa
open Go.RowKit Go.Mm Go.Sh
set_option maxHeartbeats 4000000
set_option maxRecDepth 100000
theorem zero22' : (Try.prog.info? 22).map (fun i => i.zero.map (fun z => z.cells.toList)) = some (some (nums .u8 (List.replicate 32 0))) := by kernel_rfl
theorem szMk : (Try.prog.info? 50).map (·.size) = some 73 := by kernel_rfl
theorem tyD : (Try.prog.underlying 22).map (·.isRow) = some true := by kernel_rfl
theorem out_succ (ws : List Int) (k : Nat) (h : k < 32) : (out ws).take (k + 1) = (out ws).take k ++ [ws.getD (k / 4) 0 / 2 ^ (24 - 8 * (k % 4)) % 256] := by
  rw [List.take_succ_eq_append_getElem (by rw [out_length]; exact h)]
  simp [out]
theorem mk3_word (ws rs : List Int) (hw : ws.length = 8) (tot : Int) (post : List Value) (i : Nat) (h : i < 8) : (mk3 ws rs tot post)[i]? = some (.int .u32 (ws.getD i 0)) := by
  rw [mk3, List.getElem?_append_left (by rw [length_nums]; omega), nums_getD .u32 ws i (by omega)]
theorem zeroMk : (Try.prog.info? 50).map (fun i => i.zero.map (fun z => z.cells.toList)) = some (some (mk3 (List.replicate 8 0) (List.replicate 64 0) 0 [])) := by kernel_rfl
theorem ivL : (nums .u32 iv).toArray = #[.int .u32 1779033703, .int .u32 3144134277, .int .u32 1013904242, .int .u32 2773480762, .int .u32 1359893119, .int .u32 2600822924, .int .u32 528734635, .int .u32 1541459225] := rfl
theorem run_zeroMk (W : World) : (zeroValue 50).run Try.prog W = .ok (.agg #[.int .u32 0, .int .u32 0, .int .u32 0, .int .u32 0, .int .u32 0, .int .u32 0, .int .u32 0, .int .u32 0, .int .u8 0, .int .u8 0, .int .u8 0, .int .u8 0, .int .u8 0, .int .u8 0, .int .u8 0, .int .u8 0, .int .u8 0, .int .u8 0, .int .u8 0, .int .u8 0, .int .u8 0, .int .u8 0, .int .u8 0, .int .u8 0, .int .u8 0, .int .u8 0, .int .u8 0, .int .u8 0, .int .u8 0, .int .u8 0, .int .u8 0, .int .u8 0, .int .u8 0, .int .u8 0, .int .u8 0, .int .u8 0, .int .u8 0, .int .u8 0, .int .u8 0, .int .u8 0, .int .u8 0, .int .u8 0, .int .u8 0, .int .u8 0, .int .u8 0, .int .u8 0, .int .u8 0, .int .u8 0, .int .u8 0, .int .u8 0, .int .u8 0, .int .u8 0, .int .u8 0, .int .u8 0, .int .u8 0, .int .u8 0, .int .u8 0, .int .u8 0, .int .u8 0, .int .u8 0, .int .u8 0, .int .u8 0, .int .u8 0, .int .u8 0, .int .u8 0, .int .u8 0, .int .u8 0, .int .u8 0, .int .u8 0, .int .u8 0, .int .u8 0, .int .u8 0, .int .u64 0]) W := by kernel_rfl
theorem mk3_one (ws rs : List Int) (tot : Int) {post : List Value} (h : One post) : One (mk3 ws rs tot post) :=
  (One.nums _ _).append ((One.nums _ _).append (fun u hu => by
    rcases List.mem_cons.1 hu with rfl | hu
    · rfl
    · exact h u hu))
theorem be64_succ (B i : Nat) (h : i < 8) : (be64 (8 * B)).take (i + 1) = (be64 (8 * B)).take i ++ [(B : Int) * 8 / 2 ^ (56 - 8 * i) % 256] := by
  rw [List.take_succ_eq_append_getElem (by rw [be64_length]; exact h)]
  simp [be64, Int.mul_comm]
theorem byt_pad (n : Nat) : Byt (pad n) := fun x hx => by
  rcases List.mem_append.1 hx with hx | hx
  · rcases List.mem_cons.1 hx with rfl | hx
    · omega
    · rw [List.eq_of_mem_replicate hx]; omega
  · obtain ⟨i, _, rfl⟩ := List.mem_map.1 hx
    omega
theorem end_ok (w : World) (bs : List Int) (hbs : Fact (Byt bs)) (B : Nat) (hB : Fact (bs.length = B)) (hn : B ≤ 1125899906842624) :
    Calls Try.prog 30 #[.agg (mk3 (wordsOf bs) (restOf bs) B []).toArray] w fun E w' => E = .returned (.agg (nums .u8 (Sh.sum bs)).toArray) ∧ Gr w w' := by
  obtain ⟨i5, hi, hz0, hz1, hz2⟩ := info_parts infB
  go_enter Try.func30, Try.ntmps30
  go_upto_region 1 with (fail)
  have hm := ((Mem.start w).alloc (.cells (mk3 (wordsOf bs) (restOf bs) B []).toArray 50)).alloc (.cells (nums .u8 (List.replicate 32 0)).toArray 22)
  simp only [World.size_alloc] at hm
  generalize hg1 : w.heap.size = g at hm ⊢
  generalize hw1 : (w.alloc (.cells (mk3 (wordsOf bs) (restOf bs) B []).toArray 50)).alloc (.cells (nums .u8 (List.replicate 32 0)).toArray 22) = w1 at hm
  refine wp_world hw1 ?_
  clear hw1 hg1
  have c0 := hm.cell m1 72 (mk3_tot _ _ (wordsOf_length _) (restOf_length _) _ _)
  have e1 : IntKind.u64.wrap ((B : Int) * 8) = B * 8 := IntWalk.u64_in _ (by omega)
  go_upto_region 3 with (refine wp_makecap (.int .u8 0) 1 rfl rfl _ _ 25 5 rfl tyBs i5 _ hi hz0 hz1 hz2 rfl 1 128 rfl rfl (by decide) (by decide) (by decide) hm ?_; intro g3 w2 hm2)
  clear c0 e1 hm
  obtain ⟨k0, f0⟩ := hm2.own_cell m0 0 rfl
  have hm3 := hm2.own_set 0 (by decide) (.int .u8 128) rfl
  go_wp2
  have hm3 : Mem w (w2.setCell ⟨g3, 0, none⟩ (.int .u8 128)) (Own 1 (.slice (some ⟨g3, 0, none⟩) (1 + 0) 128) (nums .u8 (128 :: List.replicate 0 0)) :: [Blk (g + 1) (.cells (nums .u8 (List.replicate 32 0)).toArray 22), Blk g (.cells (mk3 (wordsOf bs) (restOf bs) B []).toArray 50)]) := hm3
  clear hm2 k0 f0
  generalize w2.setCell ⟨g3, 0, none⟩ (.int .u8 128) = w3 at hm3 ⊢
  go_loopw [4] (fun s W => ∃ (A : Option Addr) (q c : Nat), s = .slice A q c ∧ 1 ≤ q ∧ q ≤ 1 + zeros B ∧ q ≤ 64 ∧ Mem w W [Own 1 (.slice A q c) (nums .u8 (128 :: List.replicate (q - 1) 0)), Blk (g + 1) (.cells (nums .u8 (List.replicate 32 0)).toArray 22), Blk g (.cells (mk3 (wordsOf bs) (restOf bs) B []).toArray 50)]) (fun s _ => 1 + zeros B - (match s with | .slice _ n _ => n | _ => 0))
  case atStart => exact ⟨_, 1, _, rfl, by omega, by omega, by omega, hm3⟩
  case round =>
    clear hm3
    obtain ⟨A, q, c, rfl, hq1, hqz, hq64, hm⟩ := hrel
    have c0 := hm.cell m2 72 (mk3_tot _ _ (wordsOf_length _) (restOf_length _) _ _)
    by_cases hlt : q < 1 + zeros B
    · have hz64 := zeros_lt B
      have hne := zeros_not B (q - 1) (by omega)
      have e2 : (((B : Int) % 64 + q) % 64 != 56) = true := by rw [bne_iff_ne]; omega
      have e3 : IntKind.i64.wrap ((B : Int) % 64) = (B : Int) % 64 := IntWalk.i64_in _ (by omega)
      have hrep : Fact (nums .u8 (128 :: List.replicate (q - 1) 0) ++ [Value.int .u8 0] = nums .u8 (128 :: List.replicate (q + 1 - 1) 0)) := ⟨by
        obtain ⟨r, rfl⟩ : ∃ r, q = r + 1 := ⟨q - 1, by omega⟩
        simp [nums, List.replicate_succ']⟩
      clear hne
      go_wp2_with (at_builtin; refine wp_app rfl _ _ _ rfl 5 i5 _ 1 1 tyBs hi hz0 hz1 hz2 rfl A q c _ rfl (L := [Blk _ _, Blk _ _, Blk _ _]) (hm.alloc _).swap _ 1 1 [.int .u8 0] rfl (RdC.lit _ _ _ _ _ rfl (by simp [maxLen]) (One.nums .u8 [0])) (by unfold maxLen; omega) (by omega) ?_; intro A1 c1 w4 HM1)
      rw [hrep.out] at HM1
      go_roundw
      case rel => exact ⟨A1, q + 1, c1, rfl, by omega, by omega, by omega, HM1.sel 4 [0, 2, 3] (by decide)⟩
      case measure => simp; omega
    · obtain ⟨z, hz⟩ : ∃ z, Fact (z = zeros B) := ⟨_, ⟨rfl⟩⟩
      have hqz' : q = 1 + z := by have := hz.out; omega
      have hzn := zeros_end B
      have e2 : (((B : Int) % 64 + q) % 64 != 56) = false := by rw [bne_eq_false_iff_eq]; have := hz.out; omega
      have e2' : (((B : Int) + q) % 64 != 56) = false := by rw [bne_eq_false_iff_eq]; have := hz.out; omega
      have e3 : IntKind.i64.wrap ((B : Int) % 64) = (B : Int) % 64 := IntWalk.i64_in _ (by omega)
      have hzz : Fact (zeros B = z) := ⟨hz.out.symm⟩
      have hm : Mem w wr [Own 1 (.slice A (q + 0) c) (nums .u8 ((128 :: List.replicate z 0) ++ (be64 (8 * B)).take 0)), Blk (g + 1) (.cells (nums .u8 (List.replicate 32 0)).toArray 22), Blk g (.cells (mk3 (wordsOf bs) (restOf bs) B []).toArray 50)] := by
        rw [hqz', show 1 + z - 1 = z by omega] at hm; simpa [hqz'] using hm
      clear hzn hqz' hz
      go_wp2
      simp only [Int.emod_add_emod]
      clear e2 e2' e3 hlt c0
      go_loopw [4, 5] (fun s v W => ∃ (i : Nat) (A : Option Addr) (c : Nat), s = .slice A (q + i) c ∧ v = .int .i64 (56 - 8 * (i : Int)) ∧ i ≤ 8 ∧ Mem w W [Own 1 (.slice A (q + i) c) (nums .u8 ((128 :: List.replicate z 0) ++ (be64 (8 * B)).take i)), Blk (g + 1) (.cells (nums .u8 (List.replicate 32 0)).toArray 22), Blk g (.cells (mk3 (wordsOf bs) (restOf bs) B []).toArray 50)]) (fun _ v _ => (intOf v + 8).toNat)
      case atStart => exact ⟨0, A, c, rfl, rfl, by omega, hm⟩
      case round =>
        clear hm
        obtain ⟨i, A, c, rfl, rfl, hi8, hm⟩ := hrel
        by_cases hlt : i < 8
        · have hbe := be64_succ B i hlt
          have e4 : (56 - 8 * (i : Int)).toNat = 56 - 8 * i := by omega
          have e5 : (0 : Int) ≤ 56 - 8 * (i : Int) := by omega
          have e6 : 56 - 8 * (i : Int) ≤ 64 := by omega
          have e7 : ((56 - 8 * (i : Int)) ≥ 0) = True := eq_true (by omega)
          have hbe := Fact.mk hbe
          go_wp2_with (at_builtin; refine wp_app rfl _ _ _ rfl 5 i5 _ 1 1 tyBs hi hz0 hz1 hz2 rfl A (q + i) c _ rfl (L := [Blk _ _, Blk _ _, Blk _ _]) (hm.alloc _).swap _ 1 1 [.int .u8 ((B : Int) * 8 / 2 ^ (56 - 8 * i) % 256)] rfl (RdC.lit _ _ _ _ _ rfl (by simp [maxLen]) (One.nums .u8 [(B : Int) * 8 / 2 ^ (56 - 8 * i) % 256])) (by unfold maxLen; omega) (by omega) ?_; intro A1 c1 w4 HM1)
          have HM2 := HM1.sel 4 [0, 2, 3] (by decide)
          clear HM1
          have HM3 : Mem w w4 [Own 1 (.slice A1 (q + (i + 1)) c1) (nums .u8 ((128 :: List.replicate z 0) ++ (be64 (8 * B)).take (i + 1))), Blk (g + 1) (.cells (nums .u8 (List.replicate 32 0)).toArray 22), Blk g (.cells (mk3 (wordsOf bs) (restOf bs) B []).toArray 50)] := by
            rw [hbe.out, ← List.append_assoc, nums_append .u8 (_ ++ _)]; exact HM2
          clear HM2
          go_roundw
          case rel => exact ⟨i + 1, A1, c1, rfl, by go_num, by omega, HM3⟩
          case measure => simp [intOf]; omega
        · have hi8' : i = 8 := by omega
          rw [show (128 :: List.replicate z 0) ++ (be64 (8 * B)).take i = pad B by rw [List.take_of_length_le (by rw [be64_length]; omega)]; unfold pad; rw [hzz.out]] at hm
          have hpl : Fact (q + i = (pad B).length) := ⟨by have := (hm.rd m0).nlen; omega⟩
          have hpz := zeros_lt B
          have hpp := pad_length B
          have hpb : Fact (Byt (pad B)) := ⟨byt_pad B⟩
          have hm : Mem w wr [Blk g (.cells (mk3 (wordsOf bs) (restOf bs) bs.length []).toArray 50), Own 1 (.slice A (q + i) c) (nums .u8 (pad B)), Blk (g + 1) (.cells (nums .u8 (List.replicate 32 0)).toArray 22)] := by rw [hB.out]; exact hm.sel 3 [2, 0, 1] (by decide)
          clear hi8' hpz hpp
          go_wp2_with fail
          refine (write_ok w wr [Own 1 (.slice A (q + i) c) (nums .u8 (pad B)), Blk (g + 1) (.cells (nums .u8 (List.replicate 32 0)).toArray 22)] g 50 bs (pad B) [] A (q + i) c hm ⟨fun W cs h => h.rd m1⟩ hbs hpb (by rw [hB.out]; omega)).mono ?_
          rintro E w4 ⟨rfl, hm4⟩
          have hm5 := hm4.sel 3 [0, 2] (by decide)
          clear hm hm4
          have hpa : Fact (bs ++ pad B = padded bs) := ⟨by unfold padded; rw [hB.out]⟩
          rw [hpa.out] at hm5
          have hwl := Fact.mk (wordsOf_length (padded bs))
          have hrl := Fact.mk (restOf_length (padded bs))
          have hsum := Fact.mk (sum_eq bs)
          generalize wordsOf (padded bs) = ws at hm5 hwl hsum
          generalize restOf (padded bs) = rs at hm5 hrl
          generalize ((padded bs).length : Int) = T at hm5
          go_upto_region 12 with (refine Mm.wp_alloc rfl 22 rfl _ zero22' hm5 ?_; intro g6 w6 hm6)
          clear hm5
          go_wp2
          have hm6 : Mem w w6 [Blk g6 (.cells (nums .u8 ((out ws).take 0 ++ List.replicate (32 - 0) 0)).toArray 22), Blk g (.cells (mk3 ws rs T []).toArray 50), Blk (g + 1) (.cells (nums .u8 (List.replicate 32 0)).toArray 22)] := hm6
          go_loopw [39] (fun v W => ∃ (k : Nat), v = .int .i64 k ∧ k ≤ 32 ∧ Mem w W [Blk g6 (.cells (nums .u8 ((out ws).take k ++ List.replicate (32 - k) 0)).toArray 22), Blk g (.cells (mk3 ws rs T []).toArray 50), Blk (g + 1) (.cells (nums .u8 (List.replicate 32 0)).toArray 22)]) (fun v _ => 32 - (intOf v).toNat)
          case atStart => exact ⟨0, rfl, by omega, hm6⟩
          case round =>
            clear hm6
            obtain ⟨k, rfl, hk, hm⟩ := hrel
            have hol : Fact (((out ws).take k).length = k) := ⟨by rw [List.length_take, out_length]; omega⟩
            by_cases hlt : k < 32
            · have hos := Fact.mk (out_succ ws k hlt)
              have c0 := hm.cell m1 (k / 4) (mk3_word ws rs hwl.out T [] (k / 4) (by omega))
              have c1 := hm.cell m0 k (nums_getD .u8 _ k (by rw [List.length_append, hol.out, List.length_replicate]; omega))
              have f1 := hm.free m0 k
              have hm2 := hm.set k (.int .u8 (ws.getD (k / 4) 0 / 2 ^ (24 - 8 * (k % 4)) % 256))
              rw [nums_set, fill_at hol.out (by omega), ← hos.out] at hm2
              clear hm
              generalize ws.getD (k / 4) 0 = x at c0 hm2
              generalize ((out ws).take k ++ List.replicate (32 - k) 0).getD k 0 = y at c1
              have d1 : ((k : Int) / 4).toNat = k / 4 := by omega
              have d2 : (24 - 8 * ((k : Int) % 4)).toNat = 24 - 8 * (k % 4) := by omega
              have d3 : (0 : Int) ≤ (k : Int) / 4 := by omega
              have d4 : (k : Int) / 4 < 8 := by omega
              have d5 : (0 : Int) ≤ 24 - 8 * ((k : Int) % 4) := by omega
              have d6 : 24 - 8 * ((k : Int) % 4) ≤ 32 := by omega
              go_wp2
              go_roundw
              case rel => exact ⟨k + 1, by go_num, by omega, hm2⟩
              case measure => simp [intOf]; omega
            · have hk32 : k = 32 := by omega
              rw [hk32, List.take_of_length_le (by rw [out_length]; omega)] at hm
              have hm : Mem w wr [Blk g6 (.cells (nums .u8 (out ws)).toArray 22), Blk (g + 1) (.cells (nums .u8 (List.replicate 32 0)).toArray 22)] := by simpa using hm.sel 3 [0, 2] (by decide)
              have hol2 : Fact ((nums .u8 (out ws)).length = 32) := ⟨by rw [length_nums, out_length]⟩
              have h1 := Fact.mk (One.nums .u8 (out ws))
              clear hk32
              generalize hZ : nums .u8 (out ws) = Z at hm hol2 h1
              replace hZ := Fact.mk hZ
              go_wp2_with (first | (refine Mm.wp_row rfl 22 _ rfl g6 rfl 22 Z _ _ hm m0 ty22 rfl (by rw [hol2.out]; exact sz22) ?_) | (refine wp_setrow rfl 22 _ _ rfl (g + 1) rfl 22 (nums .u8 (List.replicate 32 0)) Z rfl hm.swap (by rw [hol2.out]; exact sz22) (by rw [hol2.out]; rfl) h1.out ?_; intro w7 hm7))
              refine bodyPost_ret (Mm.res_cell rfl _ (g + 1) 22 Z (0, 0) rfl hm7 m0 tyD (by rw [hol2.out]; exact sz22)) rfl ⟨by rw [hsum.out, hZ.out], hm7.below⟩
/-- The digest of bytes. -/
theorem sum_ok (w : World) (bs : List Int) (A : Option Addr) (m c : Nat) (hr : Fact (RdC w 1 (.slice A m c) (nums .u8 bs))) (hbs : Fact (Byt bs)) (hn : m ≤ 1125899906842624) :
    Calls Try.prog 18 #[.slice A m c] w fun E w' => E = .returned (.agg (nums .u8 (Sh.sum bs)).toArray) ∧ Gr w w' := by
  have hl := Fact.mk hr.out.nlen
  go_enter Try.func18, Try.ntmps18
  go_upto_region 1 with (refine Mm.wp_alloc rfl 22 rfl _ zero22' (Mem.start w) ?_; intro g1 w1 hm1)
  go_wp2_with fail
  refine (first_ok w1).mono ?_
  rintro E w2 ⟨rfl, hg2⟩
  have hm2 := hm1.gr hg2
  clear hm1 hg2
  rw [ivL]
  have hz := run_zeroMk
  go_upto_region 2 with (first | (refine Mm.wp_alloc rfl 50 rfl _ zeroMk hm2 ?_; intro g3 w3 hm3) | (refine wp_setrow rfl 50 _ _ rfl g3 rfl 50 (mk3 (List.replicate 8 0) (List.replicate 64 0) 0 []) (mk3 iv (List.replicate 64 0) 0 []) rfl hm3 szMk rfl (mk3_one _ _ _ One.nil) ?_; intro w4 hm4))
  clear hz hm2 hm3
  have hm4 : Mem w w4 (Blk g3 (.cells (mk3 (wordsOf []) (restOf []) ([] : List Int).length []).toArray 50) :: [Blk g1 (.cells (nums .u8 (List.replicate 32 0)).toArray 22)]) := hm4
  go_wp2_with fail
  refine (write_ok w w4 _ g3 50 [] bs [] A m c hm4 ⟨fun W cs h => hr.out.gr h.below⟩ ⟨fun x hx => absurd hx (by simp)⟩ hbs (by simp; omega)).mono ?_
  rintro E w5 ⟨rfl, hm5⟩
  rw [List.nil_append] at hm5
  clear hm4
  have hml : Fact ((mk3 (wordsOf bs) (restOf bs) bs.length []).length = 73) := ⟨by rw [mk3_length _ _ (wordsOf_length _) (restOf_length _)]; rfl⟩
  go_upto_region 3 with (fail)
  go_wp2_with (refine wp_rng rfl 50 _ rfl g3 0 rfl (mk3 (wordsOf bs) (restOf bs) bs.length []) (rng_blk hm5 m0) tyMk (by rw [hml.out]; exact szMk) ?_)
  refine (end_ok w5 bs hbs bs.length ⟨rfl⟩ (by rw [hl.out]; exact hn)).mono ?_
  rintro E w6 ⟨rfl, hg6⟩
  have hm6 := hm5.gr hg6
  clear hm5 hg6
  have hol2 : Fact ((nums .u8 (Sh.sum bs)).length = 32) := ⟨by rw [length_nums, sum_length]⟩
  have h1 := Fact.mk (One.nums .u8 (Sh.sum bs))
  generalize hZ : nums .u8 (Sh.sum bs) = Z at hol2 h1 ⊢
  replace hZ := Fact.mk hZ
  go_wp2_with (refine wp_setrow rfl 22 _ _ rfl g1 rfl 22 (nums .u8 (List.replicate 32 0)) Z rfl hm6.swap (by rw [hol2.out]; exact sz22) (by rw [hol2.out]; rfl) h1.out ?_; intro w7 hm7)
  refine bodyPost_ret (Mm.res_cell rfl _ g1 22 Z (0, 0) rfl hm7 m0 tyD (by rw [hol2.out]; exact sz22)) rfl ⟨by rw [hZ.out], hm7.below⟩
end Go.Proofs.Ytngdcnpokdogdaa
