/- One call of a script on a stack, held against its row (portagelaw14.step: Top, Cut, Len). -/
import Derived.Test.YtgflfpepfpekhaaStkPop
namespace Go.Proofs.Ytgflfpepfpekhaa
open Go.RowKit Go.Mm
set_option maxHeartbeats 1000000
set_option maxRecDepth 100000
set_option linter.unusedSimpArgs false
/-- A stack of numbers and the row of the same numbers. -/
def stk (g : Nat) (t : TypeId) (A : Option Addr) (n c : Nat) (R : Option Addr) (rc : Nat) (xs : List Int) (L : List Chunk) : List Chunk :=
  Blk g (.cells [.slice A n c].toArray t) :: Own 1 (.slice A n c) (nums .i64 xs) :: Own 1 (.slice R n rc) (nums .i64 xs) :: L
theorem stepL_ok (w0 w : World) (L : List Chunk) (g : Nat) (A R : Option Addr) (n c rc : Nat) (xs : List Int) (t : TypeId) (hm : Mem w0 w (stk g t A n c R rc xs L)) (hn : n ≤ 16777216) (on kd N : Int) (LA : Option Addr) (ln lc : Nat) (hN : N ≤ 9223372036854775807) (kind : Int) :
    Calls Try.prog 38 #[.pointer (some ⟨g, 0, none⟩), .slice R n rc, .agg #[.int .i64 on, .int .i64 kd, .int .i64 N, .slice LA ln lc], .int .i64 kind] w fun e w' => ∃ A' n' c' R' rc' xs', e = .returned (.tuple #[.slice R' n' rc', .bool true]) ∧ n' ≤ n ∧ Mem w0 w' (stk g t A' n' c' R' rc' xs' L) := by
  unfold stk at hm ⊢
  have hr : Fact (RdC w 1 (.slice R n rc) (nums .i64 xs)) := ⟨hm.rd m2⟩
  go_enter Try.func38, Try.ntmps38
  go_upto_region 1 with (fail)
  have hm1 := ((Mem.start w).alloc (.cells [.int .i64 on, .int .i64 kd, .int .i64 N, .slice LA ln lc].toArray 53))
  generalize hgX : w.heap.size = g6 at hm1 ⊢
  generalize hwX : (w.alloc (.cells [.int .i64 on, .int .i64 kd, .int .i64 N, .slice LA ln lc].toArray 53)) = w1 at hm1
  try refine wp_world hwX ?_
  clear hwX hgX
  have hr1 := Fact.mk (hr.out.gr hm1.below)
  have hmm := hm.gr hm1.below
  have hmg := hmm
  have k2 := hm1.cell m0 2 rfl
  by_cases h2 : kind = 2
  · subst h2
    by_cases hin : N < 0 ∨ (n : Int) ≤ N
    · go_wp2_with fail
      refine (refTop_no w1 R n rc N hin).mono ?_
      rintro e w2 ⟨rfl, rfl⟩
      go_wp2_with fail
      refine (topNo_ok w0 w2 _ g A n c t hmm m0 N hin).mono ?_
      rintro e w3 ⟨rfl, rfl⟩
      have fin := Fact.mk hmm
      go_wp2
      go_ret2
      exact ⟨A, n, c, R, rc, xs, rfl, Nat.le_refl _, fin.out⟩
    · obtain ⟨k, rfl⟩ : ∃ k : Nat, N = (k : Int) := ⟨N.toNat, by omega⟩
      have hk : k < n := by omega
      go_wp2_with fail
      obtain ⟨v, hv⟩ : ∃ v, Fact (xs.getD (n - 1 - k) 0 = v) := ⟨_, ⟨rfl⟩⟩
      refine (refTop_ok w1 R n rc xs hr1 hn k hk _ rfl).mono ?_
      rintro e w2 ⟨rfl, rfl⟩
      rw [hv.out]
      go_wp2_with fail
      refine (topL_ok w0 w2 _ g A n c xs t hmm m0 ⟨hmm.rd m1⟩ hn k (by omega) _ rfl).mono ?_
      rintro e w3 ⟨rfl, hg3⟩
      have fin := Fact.mk (hmm.gr hg3)
      have hd : decide (k < n) = true := by simp [hk]
      rw [if_pos hk, hd, hv.out]
      go_wp2
      go_ret2
      exact ⟨A, n, c, R, rc, xs, rfl, Nat.le_refl _, fin.out⟩
  · by_cases h3 : kind = 3
    · subst h3
      by_cases hin : N < 0 ∨ (n : Int) < N
      · go_wp2_with fail
        refine (refCut_no w1 R n rc N hin).mono ?_
        rintro e w2 ⟨rfl, rfl⟩
        go_wp2_with fail
        refine (cutNo_ok w0 w2 _ g A n c t hmm m0 N hin).mono ?_
        rintro e w3 ⟨rfl, rfl⟩
        have fin := Fact.mk hmm
        go_wp2
        go_ret2
        exact ⟨A, n, c, R, rc, xs, rfl, Nat.le_refl _, fin.out⟩
      · obtain ⟨k, rfl⟩ : ∃ k : Nat, N = (k : Int) := ⟨N.toNat, by omega⟩
        have hk : k ≤ n := by omega
        go_wp2_with fail
        refine (refCut_ok w1 R n rc xs hr1 hn k hk _ rfl).mono ?_
        rintro e w2 ⟨R', rc', rfl, hn2⟩
        have hm2 := hmm.new hn2
        have k2 := Gr.cell hn2.gr k2
        go_wp2_with fail
        refine (cutL_ok w0 w2 _ g A n c xs t (hm2.sel 4 [1, 2, 0] (by decide)) hn k hk _ rfl).mono ?_
        rintro e w3 ⟨rfl, hm3⟩
        have fin := Fact.mk hm3
        go_wp2
        go_ret2
        exact ⟨A, k, k, R', rc', xs.take k, rfl, hk, fin.out⟩
    · go_wp2_with fail
      refine (lenL_ok w0 w1 _ g A n c t hmm m0).mono ?_
      rintro e w2 ⟨rfl, rfl⟩
      have fin := Fact.mk hmm
      go_wp2
      go_ret2
      exact ⟨A, n, c, R, rc, xs, rfl, Nat.le_refl _, fin.out⟩
end Go.Proofs.Ytgflfpepfpekhaa
