/- SHA-256 over lists of whole numbers: rounds, blocks, padding, and what is kept between pieces. No program in sight. -/
import Derived.WalkKit
import Derived.Laws.BitsAllLaws
import Derived.Laws.BitsLemmas
namespace Go.Sh
/-- Turned right by n bits (n from 1 to 31). -/
def rot (x : Int) (n : Nat) : Int := bits .or .u32 (x / ((2 ^ n : Nat) : Int)) ((x * ((2 ^ (32 - n) : Nat) : Int)) % 4294967296)
def sg1 (e : Int) : Int := bits .xor .u32 (bits .xor .u32 (rot e 6) (rot e 11)) (rot e 25)
def sg0 (a : Int) : Int := bits .xor .u32 (bits .xor .u32 (rot a 2) (rot a 13)) (rot a 22)
def chs (e f g : Int) : Int := bits .xor .u32 (bits .and .u32 e f) (bits .and .u32 (bits .xor .u32 4294967295 e) g)
def maj (a b c : Int) : Int := bits .xor .u32 (bits .xor .u32 (bits .and .u32 a b) (bits .and .u32 a c)) (bits .and .u32 b c)
def ws0 (x : Int) : Int := bits .xor .u32 (bits .xor .u32 (rot x 7) (rot x 18)) (x / 8)
def ws1 (x : Int) : Int := bits .xor .u32 (bits .xor .u32 (rot x 17) (rot x 19)) (x / 1024)
def add (x y : Int) : Int := (x + y) % 4294967296
/-- One of the 64 rounds. -/
def rnd (s : List Int) (kw : Int) : List Int :=
  let a := s.getD 0 0; let b := s.getD 1 0; let c := s.getD 2 0; let d := s.getD 3 0; let e := s.getD 4 0; let f := s.getD 5 0; let g := s.getD 6 0; let h := s.getD 7 0
  let t1 := h + sg1 e + chs e f g + kw
  let t2 := sg0 a + maj a b c
  [(t1 + t2) % 4294967296, a, b, c, (d + t1) % 4294967296, e, f, g]
/-- The word of four bytes. -/
def be (a b c d : Int) : Int := bits .or .u32 (bits .or .u32 (bits .or .u32 (a * 16777216) (b * 65536)) (c * 256)) d
def wd (b : List Int) (t : Nat) : Int := be (b.getD (4 * t) 0) (b.getD (4 * t + 1) 0) (b.getD (4 * t + 2) 0) (b.getD (4 * t + 3) 0)
/-- The first n words of a block. -/
def wds (b : List Int) : Nat → List Int
  | 0 => []
  | n + 1 => wds b n ++ [wd b n]
def nxt (w : List Int) (t : Nat) : Int := (ws1 (w.getD (t - 2) 0) + w.getD (t - 7) 0 + ws0 (w.getD (t - 15) 0) + w.getD (t - 16) 0) % 4294967296
def sch (b : List Int) : Nat → List Int
  | 0 => wds b 16
  | n + 1 => sch b n ++ [nxt (sch b n) (16 + n)]
def rnds (s k w : List Int) : Nat → List Int
  | 0 => s
  | n + 1 => rnd (rnds s k w n) (add (k.getD n 0) (w.getD n 0))
def kt : List Int := [
  0x428a2f98, 0x71374491, 0xb5c0fbcf, 0xe9b5dba5, 0x3956c25b, 0x59f111f1, 0x923f82a4, 0xab1c5ed5,
  0xd807aa98, 0x12835b01, 0x243185be, 0x550c7dc3, 0x72be5d74, 0x80deb1fe, 0x9bdc06a7, 0xc19bf174,
  0xe49b69c1, 0xefbe4786, 0x0fc19dc6, 0x240ca1cc, 0x2de92c6f, 0x4a7484aa, 0x5cb0a9dc, 0x76f988da,
  0x983e5152, 0xa831c66d, 0xb00327c8, 0xbf597fc7, 0xc6e00bf3, 0xd5a79147, 0x06ca6351, 0x14292967,
  0x27b70a85, 0x2e1b2138, 0x4d2c6dfc, 0x53380d13, 0x650a7354, 0x766a0abb, 0x81c2c92e, 0x92722c85,
  0xa2bfe8a1, 0xa81a664b, 0xc24b8b70, 0xc76c51a3, 0xd192e819, 0xd6990624, 0xf40e3585, 0x106aa070,
  0x19a4c116, 0x1e376c08, 0x2748774c, 0x34b0bcb5, 0x391c0cb3, 0x4ed8aa4a, 0x5b9cca4f, 0x682e6ff3,
  0x748f82ee, 0x78a5636f, 0x84c87814, 0x8cc70208, 0x90befffa, 0xa4506ceb, 0xbef9a3f7, 0xc67178f2]
def iv : List Int := [0x6a09e667, 0xbb67ae85, 0x3c6ef372, 0xa54ff53a, 0x510e527f, 0x9b05688c, 0x1f83d9ab, 0x5be0cd19]
/-- The eight words behind one more block. -/
def cmp (s b : List Int) : List Int := List.zipWith add (rnds s kt (sch b 48) 64) s
/-- The words behind the first n blocks. -/
def fold (v p : List Int) : Nat → List Int
  | 0 => v
  | n + 1 => cmp (fold v p n) ((p.drop (64 * n)).take 64)
def zeros (n : Nat) : Nat := (119 - n % 64) % 64
def be64 (x : Int) : List Int := (List.range 8).map fun i => x / ((2 ^ (56 - 8 * i) : Nat) : Int) % 256
def pad (n : Nat) : List Int := 128 :: List.replicate (zeros n) 0 ++ be64 (8 * n)
def padded (b : List Int) : List Int := b ++ pad b.length
def out (v : List Int) : List Int := (List.range 32).map fun i => v.getD (i / 4) 0 / ((2 ^ (24 - 8 * (i % 4)) : Nat) : Int) % 256
def sum (b : List Int) : List Int := out (fold iv (padded b) ((padded b).length / 64))

theorem fold_congr (v : List Int) : ∀ (n : Nat) (p q : List Int), p.take (64 * n) = q.take (64 * n) → fold v p n = fold v q n
  | 0, _, _, _ => rfl
  | n + 1, p, q, h => by
    have h1 : p.take (64 * n) = q.take (64 * n) := by
      have := congrArg (List.take (64 * n)) h
      simpa [List.take_take, Nat.min_eq_left (show 64 * n ≤ 64 * (n + 1) by omega)] using this
    have h2 : (p.drop (64 * n)).take 64 = (q.drop (64 * n)).take 64 := by
      have := congrArg (List.drop (64 * n)) h
      rw [List.drop_take, List.drop_take] at this
      simpa [show 64 * (n + 1) - 64 * n = 64 by omega] using this
    simp only [fold]
    rw [fold_congr v n p q h1, h2]
/-- What is kept of the bytes so far. -/
def wordsOf (b : List Int) : List Int := fold iv b (b.length / 64)
def restOf (b : List Int) : List Int := b.drop (64 * (b.length / 64)) ++ List.replicate (64 - b.length % 64) 0
theorem sum_eq (b : List Int) : sum b = out (wordsOf (padded b)) := rfl
theorem wordsOf_nil : wordsOf [] = iv := rfl
theorem restOf_nil : restOf [] = List.replicate 64 0 := rfl
theorem restOf_length (b : List Int) : (restOf b).length = 64 := by
  simp only [restOf, List.length_append, List.length_drop, List.length_replicate]; omega
theorem restOf_take (b : List Int) : (restOf b).take (b.length % 64) = b.drop (64 * (b.length / 64)) := by
  unfold restOf
  rw [List.take_append_of_le_length (by simp; omega), List.take_of_length_le (by simp; omega)]
theorem restOf_drop (b : List Int) (n : Nat) : (restOf b).drop (b.length % 64 + n) = List.replicate (64 - b.length % 64 - n) 0 := by
  unfold restOf
  rw [List.drop_append, List.drop_eq_nil_of_le (by simp; omega), List.nil_append, List.drop_replicate]
  congr 1
  simp only [List.length_drop]
  omega
theorem step_part (b ys : List Int) (h : b.length % 64 + ys.length < 64) :
    wordsOf (b ++ ys) = wordsOf b ∧ restOf (b ++ ys) = (restOf b).take (b.length % 64) ++ ys ++ (restOf b).drop (b.length % 64 + ys.length) := by
  have e1 : (b ++ ys).length / 64 = b.length / 64 := by rw [List.length_append]; omega
  have e2 : (b ++ ys).length % 64 = b.length % 64 + ys.length := by rw [List.length_append]; omega
  refine ⟨?_, ?_⟩
  · unfold wordsOf
    rw [e1]
    refine fold_congr _ _ _ _ ?_
    rw [List.take_append_of_le_length (by omega)]
  · rw [restOf_take, restOf_drop]
    unfold restOf
    rw [e1, e2, List.drop_append_of_le_length (by omega)]
    congr 2
    omega
theorem step_full (b ys : List Int) (h : b.length % 64 + ys.length = 64) :
    wordsOf (b ++ ys) = cmp (wordsOf b) ((restOf b).take (b.length % 64) ++ ys ++ (restOf b).drop (b.length % 64 + ys.length)) ∧ restOf (b ++ ys) = List.replicate 64 0 := by
  have e1 : (b ++ ys).length / 64 = b.length / 64 + 1 := by rw [List.length_append]; omega
  have e2 : (b ++ ys).length % 64 = 0 := by rw [List.length_append]; omega
  refine ⟨?_, ?_⟩
  · rw [restOf_take, restOf_drop, show 64 - b.length % 64 - ys.length = 0 by omega, List.replicate_zero, List.append_nil]
    unfold wordsOf
    rw [e1]
    simp only [fold]
    congr 1
    · refine fold_congr _ _ _ _ ?_
      rw [List.take_append_of_le_length (by omega)]
    · rw [List.drop_append_of_le_length (by omega), List.take_of_length_le (by simp; omega)]
  · unfold restOf
    rw [e1, e2, List.drop_eq_nil_of_le (by rw [List.length_append]; omega)]
    simp
theorem zeros_end (n : Nat) : (n + 1 + zeros n) % 64 = 56 := by unfold zeros; omega
theorem zeros_not (n j : Nat) (h : j < zeros n) : (n + 1 + j) % 64 ≠ 56 := by unfold zeros at h; omega
theorem zeros_lt (n : Nat) : zeros n < 64 := by unfold zeros; omega
theorem be64_length (x : Int) : (be64 x).length = 8 := by simp [be64]
theorem pad_length (n : Nat) : (pad n).length = zeros n + 9 := by simp [pad, be64_length]
theorem padded_mod (b : List Int) : (padded b).length % 64 = 0 := by
  have := zeros_end b.length
  simp only [padded, List.length_append, pad_length]
  omega
theorem out_length (v : List Int) : (out v).length = 32 := by simp [out]
theorem sum_length (b : List Int) : (sum b).length = 32 := out_length _
theorem cmp_length (s b : List Int) (h : s.length = 8) : (cmp s b).length = 8 := by
  have hr : ∀ n, (rnds s kt (sch b 48) n).length = 8 := fun n => by cases n <;> simp [rnds, rnd, h]
  simp [cmp, hr, h]
theorem fold_length (v p : List Int) (h : v.length = 8) : ∀ n, (fold v p n).length = 8
  | 0 => h
  | n + 1 => cmp_length _ _ (fold_length v p h n)
theorem wordsOf_length (b : List Int) : (wordsOf b).length = 8 := fold_length iv b rfl _
theorem wds_length (b : List Int) : ∀ n, (wds b n).length = n
  | 0 => rfl
  | n + 1 => by simp [wds, wds_length b n]
theorem sch_length (b : List Int) : ∀ n, (sch b n).length = 16 + n
  | 0 => wds_length b 16
  | n + 1 => by simp [sch, sch_length b n]; omega
theorem rnds_length (s k w : List Int) (h : s.length = 8) : ∀ n, (rnds s k w n).length = 8
  | 0 => h
  | n + 1 => by simp [rnds, rnd]
theorem kt_length : kt.length = 64 := rfl
theorem iv_length : iv.length = 8 := rfl
/-- The reference adds the key and the word one by one. -/
theorem add_add' (x k w : Int) : add x (add k w) = add (add x k) w := by
  simp only [add]; omega
/-- The standard's own digests. -/
def abc : List Int := [97, 98, 99]
theorem shown_nil : sum [] = [0xe3,0xb0,0xc4,0x42,0x98,0xfc,0x1c,0x14,0x9a,0xfb,0xf4,0xc8,0x99,0x6f,0xb9,0x24,0x27,0xae,0x41,0xe4,0x64,0x9b,0x93,0x4c,0xa4,0x95,0x99,0x1b,0x78,0x52,0xb8,0x55] := by decide +kernel
theorem shown_abc : sum [97, 98, 99] = [0xba,0x78,0x16,0xbf,0x8f,0x01,0xcf,0xea,0x41,0x41,0x40,0xde,0x5d,0xae,0x22,0x23,0xb0,0x03,0x61,0xa3,0x96,0x17,0x7a,0x9c,0xb4,0x10,0xff,0x61,0xf2,0x00,0x15,0xad] := by decide +kernel
end Go.Sh
