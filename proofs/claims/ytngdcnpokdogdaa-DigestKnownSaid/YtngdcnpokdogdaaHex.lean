import Derived.Test.YtngdcnpokdogdaaProg
import Derived.Test.YtngdcnpokdogdaaMem
namespace Go.Proofs.Ytngdcnpokdogdaa
open Go.RowKit Go.Mm
theorem ty5 : Try.prog.underlying 5 = some (.int .u8) := by kernel_rfl
theorem sz5 : (Try.prog.info? 5).map (·.size) = some 1 := by kernel_rfl
theorem inf5 : (Try.prog.info? 5).map (fun i => (i.zero, i.size, i.bytes)) = some (some (.int .u8 0), 1, 1) := by kernel_rfl
theorem ty22 : Try.prog.underlying 22 = some (.array 32 5) := by kernel_rfl
theorem ty25 : Try.prog.underlying 25 = some (.slice 5) := by kernel_rfl
theorem ty9 : Try.prog.underlying 9 = some .string := by kernel_rfl
/-- Bytes as numbers. -/
def Byt (xs : List Int) : Prop := ∀ x, x ∈ xs → 0 ≤ x ∧ x < 256
theorem Byt.at {xs : List Int} (h : Byt xs) (i : Nat) : 0 ≤ xs.getD i 0 ∧ xs.getD i 0 < 256 := by
  rw [List.getD_eq_getElem?_getD]
  cases e : xs[i]? with
  | none => simp
  | some x => exact h x (List.mem_of_getElem? e)
def hexd (x : Int) : Int := if x < 10 then 48 + x else 87 + x
def hexs : List Int → List Int
  | [] => []
  | b :: l => hexd (b / 16) :: hexd (b % 16) :: hexs l
theorem hexs_snoc (l : List Int) (x : Int) : hexs (l ++ [x]) = hexs l ++ [hexd (x / 16), hexd (x % 16)] := by
  induction l with
  | nil => rfl
  | cons b l ih => simp [hexs, ih]
theorem hexs_length (l : List Int) : (hexs l).length = 2 * l.length := by
  induction l with
  | nil => rfl
  | cons b l ih => simp [hexs, ih]; omega
def digs : ByteArray := { data := #[48, 49, 50, 51, 52, 53, 54, 55, 56, 57, 97, 98, 99, 100, 101, 102] }
theorem digs_at : ∀ y, y < 16 → ∀ h : y < digs.size, ((digs[y]'h).toNat : Int) = hexd (y : Nat) := by decide +kernel
theorem hexdig (y : Int) (h0 : 0 ≤ y) (h1 : y < 16) (W : World) : (Instr.index 9 (.string { data := #[48, 49, 50, 51, 52, 53, 54, 55, 56, 57, 97, 98, 99, 100, 101, 102] }) (.int .u8 y)).run Try.prog W = .ok (.int .u8 (hexd y)) W := by
  obtain ⟨n, rfl⟩ := Int.eq_ofNat_of_zero_le h0
  rw [run_index_string W 9 _ .u8 _ ty9]
  have hs : n < digs.size := by show n < 16; omega
  rw [dif_pos ⟨h0, by show (n : Int) < 16; omega⟩]
  have := digs_at n (by omega) hs
  simp only [Int.toNat_natCast]
  rw [← this]
  rfl
theorem and15_all : ∀ n, n < 256 → bits BinOp.and .u8 ((n : Nat) : Int) 15 = (n % 16 : Nat) := by decide +kernel
theorem and15 (x : Int) (h0 : 0 ≤ x) (h1 : x < 256) : bits BinOp.and .u8 x 15 = x % 16 := by
  obtain ⟨n, rfl⟩ := Int.eq_ofNat_of_zero_le h0
  rw [and15_all n (by omega)]; omega
theorem hex_step (bs : List Int) (k : Nat) (hk : k < bs.length) (h32 : bs.length = 32) (out : List Int) (ho : out = hexs (bs.take k) ++ List.replicate (64 - 2 * k) 0) :
    (out.set (2 * k) (hexd (bs.getD k 0 / 16))).set (2 * k + 1) (hexd (bs.getD k 0 % 16)) = hexs (bs.take (k + 1)) ++ List.replicate (64 - 2 * (k + 1)) 0 := by
  subst ho
  have hl : (hexs (bs.take k)).length = 2 * k := by rw [hexs_length, List.length_take]; omega
  have e : List.replicate (64 - 2 * k) (0 : Int) = 0 :: 0 :: List.replicate (64 - 2 * (k + 1)) 0 := by
    rw [show 64 - 2 * k = (64 - 2 * (k + 1)) + 1 + 1 by omega, List.replicate_succ, List.replicate_succ]
  rw [take_snoc _ 0 _ hk, hexs_snoc, e]
  rw [List.set_append_right _ _ (by omega), hl, Nat.sub_self, List.set_cons_zero, List.set_append_right _ _ (by omega), hl]
  rw [show 2 * k + 1 - 2 * k = 0 + 1 by omega, List.set_cons_succ, List.set_cons_zero]
  simp
set_option maxHeartbeats 400000 in
set_option maxRecDepth 100000 in
theorem hex_ok (w : World) (bs : List Int) (hl : Fact (bs.length = 32)) (hby : Fact (Byt bs)) :
  Calls Try.prog 9 #[.agg (nums .u8 bs).toArray] w fun e w' => e = .returned (.string (strOfNums (hexs bs))) ∧ Gr w w' := by
  go_enter Try.func9, Try.ntmps9
  go_upto_region 2 with (fail)
  have hm := ((Mem.start w).alloc (.cells (nums .u8 bs).toArray 22)).alloc (.cells (nums .u8 (List.replicate 64 0)).toArray 40)
  simp only [World.size_alloc] at hm
  generalize hg1 : w.heap.size = g1 at hm ⊢
  generalize hw1 : (w.alloc (.cells (nums .u8 bs).toArray 22)).alloc (.cells (nums .u8 (List.replicate 64 0)).toArray 40) = w1 at hm
  refine wp_world hw1 ?_
  clear hw1 hg1
  have hg2 := Fact.mk (hm.blk m1)
  go_wp2_with (refine wpList_load_row rfl 22 _ rfl g1 rfl 22 _ (0,0) _ hg2.out ty22 rfl (by rw [List.size_toArray, length_nums, hl.out]; kernel_rfl) ?_)
  go_loopw [7] (fun v w' => ∃ (k : Nat) (out : List Int), v = .int .i64 k ∧ k ≤ 32 ∧ Fact (out = hexs (bs.take k) ++ List.replicate (64 - 2 * k) 0) ∧ Mem w w' [Blk (g1 + 1) (.cells (nums .u8 out).toArray 40), Blk g1 (.cells (nums .u8 bs).toArray 22)]) (fun v _ => 32 - (intOf v).toNat)
  case atStart => exact ⟨0, _, rfl, by omega, ⟨by simp [hexs]⟩, hm⟩
  case round =>
    clear hg2 hm
    obtain ⟨k, out, rfl, hk, ho, hm⟩ := hrel
    have hol : Fact (out.length = 64) := ⟨by rw [ho.out, List.length_append, hexs_length, List.length_take, List.length_replicate]; have := hl.out; omega⟩
    by_cases hlt : k < 32
    · have i0 := fun W => run_index_nums (P := Try.prog) W 22 5 32 .u8 bs k ty22 ty5 sz5 hl.out (by have := hl.out; omega)
      have hb := hby.out.at k
      have hstep := Fact.mk (hex_step bs k (by have := hl.out; omega) hl.out out ho.out)
      generalize hx : bs.getD k 0 = x at i0 hb hstep
      clear hx
      obtain ⟨hb0, hb1⟩ := hb
      have s1 := hexdig (x / 16) (by omega) (by omega)
      have e2 := and15 x hb0 hb1
      have s2 := hexdig (x % 16) (by omega) (by omega)
      have e3 : IntKind.i64.wrap (2 * (k : Int)) = 2 * (k : Int) := IntWalk.i64_in _ (by omega)
      have e4 : IntKind.i64.wrap (2 * (k : Int) + 1) = 2 * (k : Int) + 1 := IntWalk.i64_in _ (by omega)
      have e5 : 0 ≤ 2 * (k : Int) := by omega
      have e6 : 2 * (k : Int) < 64 := by omega
      have e7 : 2 * (k : Int) + 1 < 64 := by omega
      have e8 : 0 ≤ 2 * (k : Int) + 1 := by omega
      have e9 : (2 * (k : Int)).toNat = 2 * k := by omega
      have e10 : (2 * (k : Int) + 1).toNat = 2 * k + 1 := by omega
      have c1 := hm.cell m0 (2 * k) (nums_at .u8 out (2 * k) (by have := hol.out; omega))
      have c2 := hm.cell m0 (2 * k + 1) (nums_at .u8 out (2 * k + 1) (by have := hol.out; omega))
      have f1 := hm.free m0 (2 * k)
      have f2 := hm.free m0 (2 * k + 1)
      go_upto_region 5 with (fail)
      go_wp2_with (fail)
      go_region
      clear e3 e4 e5 e6 e7 e8 e9 e10 e2 s1 s2 i0 c1 c2 f1 f2
      have hm2 := ((hm.set (2 * k) (.int .u8 (hexd (x / 16)))).set (2 * k + 1) (.int .u8 (hexd (x % 16)))).drew
      rw [nums_set, nums_set, hstep.out] at hm2
      go_wp2
      go_roundw
      case rel => exact ⟨k + 1, _, by go_num, by omega, ⟨rfl⟩, hm2⟩
      case measure => simp [intOf]; omega
    · obtain rfl : k = 32 := by omega
      have ho2 : out = hexs bs := by rw [ho.out, List.take_of_length_le (by have := hl.out; omega)]; simp
      subst ho2
      have hrd : RdC wr 1 (.slice (some ⟨g1 + 1, 0, none⟩) 64 64) (nums .u8 (hexs bs)) := Mem.rdblk hm m0 64 1 (by rw [length_nums]; exact hol.out) (by simp [maxLen]) (One.nums _ _)
      have hc := fun W (h : W = wr) => h ▸ run_conv_rd (P := Try.prog) wr 25 5 9 ty25 ty5 ty9 _ 64 64 (hexs bs) hrd
      have hc2 := hc wr rfl
      clear hc ho hrd
      go_wp2
      go_ret
      exact ⟨rfl, hm.below⟩
theorem refhex_step (bs : List Int) (k : Nat) (hk : k < bs.length) :
    nums .u8 (hexs (bs.take k)) ++ [.int .u8 (hexd (bs.getD k 0 / 16)), .int .u8 (hexd (bs.getD k 0 % 16))] = nums .u8 (hexs (bs.take (k + 1))) := by
  rw [take_snoc _ 0 _ hk, hexs_snoc]
  simp [nums]
set_option maxHeartbeats 400000 in
set_option maxRecDepth 100000 in
theorem refhex_ok (w : World) (bs : List Int) (hl : Fact (bs.length = 32)) (hby : Fact (Byt bs)) :
  Calls Try.prog 10 #[.agg (nums .u8 bs).toArray] w fun e w' => e = .returned (.string (strOfNums (hexs bs))) ∧ Gr w w' := by
  obtain ⟨i5, hi, hz0, hz1, hz2⟩ := info_parts inf5
  go_enter Try.func10, Try.ntmps10
  go_upto_region 3 with (fail)
  have hm := (((Mem.start w).alloc (.cells (nums .u8 bs).toArray 22)).nil 1 none)
  generalize hg1 : w.heap.size = g1 at hm ⊢
  generalize hw1 : (w.alloc (.cells (nums .u8 bs).toArray 22)) = w1 at hm ⊢
  clear hw1 hg1
  go_loopw [3, 4] (fun l v w' => ∃ (k : Nat) (A : Option Addr) (c : Nat), l = .slice A (2 * k) c ∧ v = .int .i64 k ∧ k ≤ 32 ∧ Mem w w' [Own 1 (.slice A (2 * k) c) (nums .u8 (hexs (bs.take k))), Blk g1 (.cells (nums .u8 bs).toArray 22)]) (fun _ v _ => 32 - (intOf v).toNat)
  case atStart => exact ⟨0, none, 0, rfl, rfl, by omega, hm⟩
  case round =>
    clear hm
    obtain ⟨k, A, c, rfl, rfl, hk, hm⟩ := hrel
    by_cases hlt : k < 32
    · have hb := hby.out.at k
      have hstep := Fact.mk (refhex_step bs k (by have := hl.out; omega))
      have c1 := hm.cell m1 k (nums_getD .u8 bs k (by have := hl.out; omega))
      generalize bs.getD k 0 = x at c1 hb hstep
      obtain ⟨hb0, hb1⟩ := hb
      have s1 := hexdig (x / 16) (by omega) (by omega)
      have s2 := hexdig (x % 16) (by omega) (by omega)
      have e1 : (k : Int) < 32 := by omega
      have e2 : x.tdiv 16 = x / 16 := Int.tdiv_eq_ediv_of_nonneg hb0
      have e3 : IntKind.u8.wrap (x / 16) = x / 16 := IntWalk.u8_in _ (by omega)
      have e4 : x.tmod 16 = x % 16 := Int.tmod_eq_emod_of_nonneg hb0
      go_upto_region 5 with (fail)
      go_wp2_with (fail)
      go_region_law (refine step_app rfl _ _ _ rfl 5 i5 _ 1 1 ty25 hi hz0 hz1 hz2 rfl A (2 * k) c _ rfl (L := [Blk _ _, Blk _ _]) ((hm.drew.alloc _).swap) _ 2 2 [.int .u8 (hexd (x / 16)), .int .u8 (hexd (x % 16))] rfl (RdC.lit _ _ _ _ _ rfl (by simp [maxLen]) (One.nums .u8 [_, _])) (by unfold maxLen; omega) (by omega) ?_; intro A1 c1 w1 HM1)
      all_goals
        go_wp2
        go_roundw
        case rel => exact ⟨k + 1, A1, c1, by rw [show 2 * (k + 1) = 2 * k + 2 by omega], by go_num, by omega, by rw [show 2 * (k + 1) = 2 * k + 2 by omega, ← hstep.out]; exact HM1.sub (by simp)⟩
        case measure => simp [intOf]; omega
    · obtain rfl : k = 32 := by omega
      have hc := run_conv_rd (P := Try.prog) wr 25 5 9 ty25 ty5 ty9 _ _ _ _ (hm.rd m0)
      rw [List.take_of_length_le (by have := hl.out; omega)] at hc
      go_wp2
      go_ret
      exact ⟨rfl, hm.below⟩
end Go.Proofs.Ytngdcnpokdogdaa
