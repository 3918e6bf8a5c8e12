/- The standard's own digests. -/
import Derived.Test.YtngdcnpokdogdaaDigHash
import Derived.Test.YtngdcnpokdogdaaDigHex
import Derived.Lib.SlBytesConst
namespace Go.Proofs.Ytngdcnpokdogdaa
open Go.RowKit Go.Mm Go.Sh
set_option maxHeartbeats 4000000
set_option maxRecDepth 100000
theorem byt_out (v : List Int) : Byt (out v) := fun x hx => by
  obtain ⟨i, _, rfl⟩ := List.mem_map.1 hx
  omega
theorem byt_sum (bs : List Int) : Byt (Sh.sum bs) := byt_out _
def msg0 : List Int := []
theorem msg0_sum : Sh.sum msg0 = [227, 176, 196, 66, 152, 252, 28, 20, 154, 251, 244, 200, 153, 111, 185, 36, 39, 174, 65, 228, 100, 155, 147, 76, 164, 149, 153, 27, 120, 82, 184, 85] := by decide +kernel
def hexs0 : ByteArray := { data := #[101, 51, 98, 48, 99, 52, 52, 50, 57, 56, 102, 99, 49, 99, 49, 52, 57, 97, 102, 98, 102, 52, 99, 56, 57, 57, 54, 102, 98, 57, 50, 52, 50, 55, 97, 101, 52, 49, 101, 52, 54, 52, 57, 98, 57, 51, 52, 99, 97, 52, 57, 53, 57, 57, 49, 98, 55, 56, 53, 50, 98, 56, 53, 53] }
theorem msg0_hex : strOfNums (hexs (Sh.sum msg0)) = hexs0 := by rw [msg0_sum]; rfl
def msg1 : List Int := [97, 98, 99]
theorem msg1_sum : Sh.sum msg1 = [186, 120, 22, 191, 143, 1, 207, 234, 65, 65, 64, 222, 93, 174, 34, 35, 176, 3, 97, 163, 150, 23, 122, 156, 180, 16, 255, 97, 242, 0, 21, 173] := by decide +kernel
def hexs1 : ByteArray := { data := #[98, 97, 55, 56, 49, 54, 98, 102, 56, 102, 48, 49, 99, 102, 101, 97, 52, 49, 52, 49, 52, 48, 100, 101, 53, 100, 97, 101, 50, 50, 50, 51, 98, 48, 48, 51, 54, 49, 97, 51, 57, 54, 49, 55, 55, 97, 57, 99, 98, 52, 49, 48, 102, 102, 54, 49, 102, 50, 48, 48, 49, 53, 97, 100] }
theorem msg1_hex : strOfNums (hexs (Sh.sum msg1)) = hexs1 := by rw [msg1_sum]; rfl
def msg2 : List Int := [97, 98, 99, 100, 98, 99, 100, 101, 99, 100, 101, 102, 100, 101, 102, 103, 101, 102, 103, 104, 102, 103, 104, 105, 103, 104, 105, 106, 104, 105, 106, 107, 105, 106, 107, 108, 106, 107, 108, 109, 107, 108, 109, 110, 108, 109, 110, 111, 109, 110, 111, 112, 110, 111, 112, 113]
theorem msg2_sum : Sh.sum msg2 = [36, 141, 106, 97, 210, 6, 56, 184, 229, 192, 38, 147, 12, 62, 96, 57, 163, 60, 228, 89, 100, 255, 33, 103, 246, 236, 237, 212, 25, 219, 6, 193] := by decide +kernel
def hexs2 : ByteArray := { data := #[50, 52, 56, 100, 54, 97, 54, 49, 100, 50, 48, 54, 51, 56, 98, 56, 101, 53, 99, 48, 50, 54, 57, 51, 48, 99, 51, 101, 54, 48, 51, 57, 97, 51, 51, 99, 101, 52, 53, 57, 54, 52, 102, 102, 50, 49, 54, 55, 102, 54, 101, 99, 101, 100, 100, 52, 49, 57, 100, 98, 48, 54, 99, 49] }
theorem msg2_hex : strOfNums (hexs (Sh.sum msg2)) = hexs2 := by rw [msg2_sum]; rfl
theorem byt_msg2 : Byt msg2 := by unfold Byt; decide
theorem byt_msg1 : Byt msg1 := by unfold Byt; decide
theorem byt_msg0 : Byt msg0 := by unfold Byt; decide
/-- The block that a literal has just been laid in, with a mark behind it. -/
theorem RdC.litm (w : World) (us : List Value) (e : TypeId) (fr : Nat × Nat) (m size : Nat) (hl : us.length = m * size) (hm : m ≤ maxLen) (ho : One us) :
    RdC (w.alloc (.cells us.toArray e fr)) size (.slice (some ⟨w.heap.size, 0, none⟩) m m) us :=
  ⟨_, _, _, rfl, hl, Nat.le_refl _, hm, ho, fun j u hj => ⟨_, rfl, by rw [add_lit, Nat.zero_add, cell_of_row _ _ _ us.toArray e fr (heap_alloc_new w _)]; simpa using hj⟩⟩
theorem shownD_ok (w : World) : Calls Try.prog 19 #[] w fun e w' => e = .returned (.bool true) ∧ Gr w w' := by
  have hcv := fun (w : World) (C : Array Value) (n c : Nat) => Lib.run_convert_bytes_const (P := Try.prog) w 25 5 C n c tyBs tyB
  go_enter Try.func19, Try.ntmps19
  go_wp2_with fail
  refine (sum_ok w msg0 none 0 0 ⟨RdC.nil _ _⟩ ⟨byt_msg0⟩ (by omega)).mono ?_
  rintro e w1 ⟨rfl, hg1⟩
  go_wp2_with fail
  refine (hex_ok w1 _ ⟨sum_length _⟩ ⟨byt_sum _⟩).mono ?_
  rintro e w2 ⟨rfl, hg2⟩
  have hg := hg1.trans hg2
  clear hg1 hg2
  rw [msg0_hex]
  go_wp2_with fail
  refine (sum_ok _ msg1 _ 3 3 ⟨RdC.litm w2 (nums .u8 msg1) 5 (3, 4) 3 1 rfl (by simp [maxLen]) (One.nums _ _)⟩ ⟨byt_msg1⟩ (by omega)).mono ?_
  rintro e w3 ⟨rfl, hg1⟩
  have hg := (hg.alloc _).trans hg1
  clear hg1
  go_wp2_with fail
  refine (hex_ok w3 _ ⟨sum_length _⟩ ⟨byt_sum _⟩).mono ?_
  rintro e w4 ⟨rfl, hg2⟩
  have hg := hg.trans hg2
  clear hg2
  rw [msg1_hex]
  go_wp2_with fail
  refine (sum_ok _ msg2 _ 56 56 ⟨RdC.litm w4 (nums .u8 msg2) 5 (56, 57) 56 1 rfl (by simp [maxLen]) (One.nums _ _)⟩ ⟨byt_msg2⟩ (by omega)).mono ?_
  rintro e w5 ⟨rfl, hg1⟩
  have hg := (hg.alloc _).trans hg1
  clear hg1
  go_wp2_with fail
  refine (hex_ok w5 _ ⟨sum_length _⟩ ⟨byt_sum _⟩).mono ?_
  rintro e w6 ⟨rfl, hg2⟩
  have hg := hg.trans hg2
  clear hg2 hcv
  rw [msg2_hex]
  have q0 : (hexs0.toList == [101, 51, 98, 48, 99, 52, 52, 50, 57, 56, 102, 99, 49, 99, 49, 52, 57, 97, 102, 98, 102, 52, 99, 56, 57, 57, 54, 102, 98, 57, 50, 52, 50, 55, 97, 101, 52, 49, 101, 52, 54, 52, 57, 98, 57, 51, 52, 99, 97, 52, 57, 53, 57, 57, 49, 98, 55, 56, 53, 50, 98, 56, 53, 53]) = true := by decide +kernel
  have q1 : (hexs1.toList == [98, 97, 55, 56, 49, 54, 98, 102, 56, 102, 48, 49, 99, 102, 101, 97, 52, 49, 52, 49, 52, 48, 100, 101, 53, 100, 97, 101, 50, 50, 50, 51, 98, 48, 48, 51, 54, 49, 97, 51, 57, 54, 49, 55, 55, 97, 57, 99, 98, 52, 49, 48, 102, 102, 54, 49, 102, 50, 48, 48, 49, 53, 97, 100]) = true := by decide +kernel
  have q2 : (hexs2.toList == [50, 52, 56, 100, 54, 97, 54, 49, 100, 50, 48, 54, 51, 56, 98, 56, 101, 53, 99, 48, 50, 54, 57, 51, 48, 99, 51, 101, 54, 48, 51, 57, 97, 51, 51, 99, 101, 52, 53, 57, 54, 52, 102, 102, 50, 49, 54, 55, 102, 54, 101, 99, 101, 100, 100, 52, 49, 57, 100, 98, 48, 54, 99, 49]) = true := by decide +kernel
  go_wp2
  go_ret
  exact ⟨rfl, hg⟩
end Go.Proofs.Ytngdcnpokdogdaa
