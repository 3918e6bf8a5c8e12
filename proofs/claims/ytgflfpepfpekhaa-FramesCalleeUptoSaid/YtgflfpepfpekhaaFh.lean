import Derived.Test.YtgflfpepfpekhaaProg
import Derived.Test.YtgflfpepfpekhaaOpen
namespace Go.Proofs.Ytgflfpepfpekhaa
open Go.RowKit Go.Mm
/-! ### Types -/
theorem ty_bool : Try.prog.underlying 4 = some .bool := by kernel_rfl
theorem ty_int : Try.prog.underlying 3 = some (.int .i64) := by kernel_rfl
theorem ty_str : Try.prog.underlying 9 = some .string := by kernel_rfl
theorem ty_Vs : Try.prog.underlying 26 = some (.slice 41) := by kernel_rfl
theorem inf_V : (Try.prog.info? 41).map (fun i => (i.zero, i.size, i.bytes)) = some (some (.agg #[.int .i64 0, .int .i64 0]), 2, 16) := by kernel_rfl
theorem sz_V : (Try.prog.info? 41).map (·.size) = some 2 := by kernel_rfl
/-! ### Values, two numbers each -/
abbrev V2 := Int × Int
def cV (x : V2) : List Value := [.int .i64 x.1, .int .i64 x.2]
theorem cV_len (x : V2) : (cV x).length = 2 := rfl
theorem cV_one (x : V2) : One (cV x) := fun u hu => by simp [cV] at hu; rcases hu with rfl | rfl <;> rfl
def fV (xs : List V2) : List Value := xs.flatMap cV
theorem fV_len (xs : List V2) : (fV xs).length = xs.length * 2 := flatMap_length cV 2 cV_len xs
theorem fV_app (xs ys : List V2) : fV (xs ++ ys) = fV xs ++ fV ys := by simp [fV]
theorem fV_one (xs : List V2) : One (fV xs) := One.flatMap cV_one xs
/-- Element k of a list of values. -/
theorem rdV_at {w : World} {A : Option Addr} {n c : Nat} {xs : List V2} (h : RdC w 2 (.slice A n c) (fV xs)) (k : Nat) (hk : k < n) :
    ∃ b o, A = some ⟨b, o, none⟩ ∧ w.cell? ⟨b, o + k * 2, none⟩ = some (.int .i64 (xs.getD k (0, 0)).1) ∧ w.cell? ⟨b, o + k * 2 + 1, none⟩ = some (.int .i64 (xs.getD k (0, 0)).2) ∧ xs.take (k + 1) = xs.take k ++ [xs.getD k (0, 0)] ∧ k < xs.length := by
  obtain ⟨b, o, e, hc, h1, h2⟩ := rd_at cV_len (by omega) (0, 0) h k hk
  exact ⟨b, o, e, hc 0 _ rfl, hc 1 _ rfl, h1, h2⟩
theorem rdV_len {w : World} {A : Option Addr} {n c : Nat} {xs : List V2} (h : RdC w 2 (.slice A n c) (fV xs)) : xs.length = n := rd_len cV_len (by omega) h
/-! ### Handlers, four numbers each -/
abbrev H4 := Int × Int × Int × Int
def cH (x : H4) : List Value := [.int .i64 x.1, .int .i64 x.2.1, .int .i64 x.2.2.1, .int .i64 x.2.2.2]
theorem cH_len (x : H4) : (cH x).length = 4 := rfl
theorem cH_one (x : H4) : One (cH x) := fun u hu => by simp [cH] at hu; rcases hu with rfl | rfl | rfl | rfl <;> rfl
def fH (xs : List H4) : List Value := xs.flatMap cH
theorem fH_app (xs ys : List H4) : fH (xs ++ ys) = fH xs ++ fH ys := by simp [fH]
theorem rdH_at {w : World} {A : Option Addr} {n c : Nat} {xs : List H4} (h : RdC w 4 (.slice A n c) (fH xs)) (k : Nat) (hk : k < n) :
    ∃ b o, A = some ⟨b, o, none⟩ ∧ w.cell? ⟨b, o + k * 4, none⟩ = some (.int .i64 (xs.getD k (0, 0, 0, 0)).1) ∧ w.cell? ⟨b, o + k * 4 + 1, none⟩ = some (.int .i64 (xs.getD k (0, 0, 0, 0)).2.1) ∧
      w.cell? ⟨b, o + k * 4 + 2, none⟩ = some (.int .i64 (xs.getD k (0, 0, 0, 0)).2.2.1) ∧ w.cell? ⟨b, o + k * 4 + 3, none⟩ = some (.int .i64 (xs.getD k (0, 0, 0, 0)).2.2.2) ∧ xs.take (k + 1) = xs.take k ++ [xs.getD k (0, 0, 0, 0)] ∧ k < xs.length := by
  obtain ⟨b, o, e, hc, h1, h2⟩ := rd_at cH_len (by omega) (0, 0, 0, 0) h k hk
  exact ⟨b, o, e, hc 0 _ rfl, hc 1 _ rfl, hc 2 _ rfl, hc 3 _ rfl, h1, h2⟩
theorem rdH_len {w : World} {A : Option Addr} {n c : Nat} {xs : List H4} (h : RdC w 4 (.slice A n c) (fH xs)) : xs.length = n := rd_len cH_len (by omega) h
set_option maxHeartbeats 400000 in
set_option maxRecDepth 100000 in
theorem copyValues_ok (w : World) (A : Option Addr) (n c : Nat) (xs : List V2) (hx : Fact (RdC w 2 (.slice A n c) (fV xs))) (hn : n ≤ 4194304) :
    Calls Try.prog 49 #[.slice A n c] w fun e w' => ∃ A' c', e = .returned (.slice A' n c') ∧ New w w' (Own 2 (.slice A' n c') (fV xs)) := by
  obtain ⟨iV, hi, hz0, hz1, hz2⟩ := info_parts inf_V
  go_enter Try.func49, Try.ntmps49
  go_wp2
  go_loopw [3, 4] (fun l v w' => ∃ (k : Nat) (A' : Option Addr) (c' : Nat), v = .int .i64 k ∧ k ≤ n ∧ l = .slice A' k c' ∧ Mem w w' [Own 2 (.slice A' k c') (fV (xs.take k))]) (fun _ v _ => n - (intOf v).toNat)
  case atStart => exact ⟨0, none, 0, rfl, by omega, rfl, (Mem.start w).nil 2 none⟩
  case round =>
    obtain ⟨k, A', c', rfl, hk, rfl, hm⟩ := hrel
    by_cases hlt : k < n
    · obtain ⟨b, o, rfl, g1, g2, ht, _⟩ := rdV_at hx.out k hlt
      have g1 := Gr.cell hm.below g1
      have g2 := Gr.cell hm.below g2
      have ht := Fact.mk ht
      generalize xs.getD k (0, 0) = x at g1 g2 ht
      go_wp2_with (at_builtin; refine wp_app rfl _ _ _ rfl 41 iV _ 2 16 ty_Vs hi hz0 hz1 hz2 rfl A' k c' _ rfl (L := [Blk _ _]) (hm.alloc _).swap _ 1 1 (cV x) rfl (RdC.lit _ _ _ _ _ rfl (by simp [maxLen]) (cV_one x)) (by unfold maxLen; omega) (by omega) ?_; intro A1 c1 w1 HM1)
      go_roundw
      case rel => exact ⟨k + 1, A1, c1, by go_num, by omega, rfl, by rw [ht.out, fV_app]; exact HM1.only⟩
      case measure => simp [intOf]; omega
    · go_wp2
      go_ret
      obtain rfl : k = n := by omega
      have hl := rdV_len hx.out
      rw [List.take_of_length_le (by omega)] at hm
      exact ⟨A', c', rfl, hm.new_of⟩
def markV (i : Nat) : V2 := (-9, i)
def marksV (k : Nat) : List V2 := (List.range k).map markV
theorem marksV_succ (k : Nat) : marksV (k + 1) = marksV k ++ [markV k] := by simp [marksV, List.range_succ]
theorem marksV_length (k : Nat) : (marksV k).length = k := by simp [marksV]
set_option maxHeartbeats 400000 in
set_option maxRecDepth 100000 in
theorem lentValues_ok (w : World) (A : Option Addr) (n c : Nat) (xs : List V2) (hx : Fact (RdC w 2 (.slice A n c) (fV xs))) (hn : n ≤ 4194304) :
    Calls Try.prog 14 #[.slice A n c] w fun e w' => ∃ A' c', e = .returned (.slice A' (n + 64) c') ∧ New w w' (Own 2 (.slice A' (n + 64) c') (fV (xs ++ marksV 64))) := by
  obtain ⟨iV, hi, hz0, hz1, hz2⟩ := info_parts inf_V
  go_enter Try.func14, Try.ntmps14
  go_wp2
  go_loopw [3, 4] (fun l v w' => ∃ (k : Nat) (A' : Option Addr) (c' : Nat), v = .int .i64 k ∧ k ≤ n ∧ l = .slice A' k c' ∧ Mem w w' [Own 2 (.slice A' k c') (fV (xs.take k))]) (fun _ v _ => n - (intOf v).toNat)
  case atStart => exact ⟨0, none, 0, rfl, by omega, rfl, (Mem.start w).nil 2 none⟩
  case round =>
    obtain ⟨k, A', c', rfl, hk, rfl, hm⟩ := hrel
    by_cases hlt : k < n
    · obtain ⟨b, o, rfl, g1, g2, ht, _⟩ := rdV_at hx.out k hlt
      have g1 := Gr.cell hm.below g1
      have g2 := Gr.cell hm.below g2
      have ht := Fact.mk ht
      generalize xs.getD k (0, 0) = x at g1 g2 ht
      go_wp2_with (at_builtin; refine wp_app rfl _ _ _ rfl 41 iV _ 2 16 ty_Vs hi hz0 hz1 hz2 rfl A' k c' _ rfl (L := [Blk _ _]) (hm.alloc _).swap _ 1 1 (cV x) rfl (RdC.lit _ _ _ _ _ rfl (by simp [maxLen]) (cV_one x)) (by unfold maxLen; omega) (by omega) ?_; intro A1 c1 w1 HM1)
      go_roundw
      case rel => exact ⟨k + 1, A1, c1, by go_num, by omega, rfl, by rw [ht.out, fV_app]; exact HM1.only⟩
      case measure => simp [intOf]; omega
    · obtain rfl : k = n := by omega
      have hl := rdV_len hx.out
      rw [List.take_of_length_le (by omega)] at hm
      go_wp2
      go_loopw [3, 5] (fun l v w' => ∃ (j : Nat) (A' : Option Addr) (c' : Nat), v = .int .i64 j ∧ j ≤ 64 ∧ l = .slice A' (k + j) c' ∧ Mem w w' [Own 2 (.slice A' (k + j) c') (fV (xs ++ marksV j))]) (fun _ v _ => 64 - (intOf v).toNat)
      case atStart => exact ⟨0, A', c', rfl, by omega, rfl, by simpa [marksV] using hm⟩
      case round =>
        clear hm hl
        obtain ⟨j, A', c', rfl, hj, rfl, hm⟩ := hrel
        by_cases hlt2 : j < 64
        · go_wp2_with (at_builtin; refine wp_app rfl _ _ _ rfl 41 iV _ 2 16 ty_Vs hi hz0 hz1 hz2 rfl A' (k + j) c' _ rfl (L := [Blk _ _]) (hm.alloc _).swap _ 1 1 [.int .i64 (-9), .int .i64 (j : Int)] rfl (RdC.lit _ _ _ _ _ rfl (by simp [maxLen]) (cV_one (-9, (j : Int)))) (by unfold maxLen; omega) (by omega) ?_; intro A1 c1 w1 HM1)
          go_roundw
          case rel => exact ⟨j + 1, A1, c1, by go_num, by omega, rfl, by rw [marksV_succ, ← List.append_assoc, fV_app]; exact HM1.only⟩
          case measure => simp [intOf]; omega
        · go_wp2
          go_ret
          obtain rfl : j = 64 := by omega
          exact ⟨A', c', rfl, hm.new_of⟩
end Go.Proofs.Ytgflfpepfpekhaa
