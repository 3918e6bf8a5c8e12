import Derived.Test.YtgflfpepfpekhaaStk
import Derived.Test.YtgflfpepfpekhaaBulk
namespace Go.Proofs.Ytgflfpepfpekhaa
open Go.RowKit Go.Mm Go.WideShapes
set_option maxHeartbeats 4000000
set_option maxRecDepth 100000
theorem cut_two (xs ys : List Int) (b : Nat) (h : xs.length ≤ b) : (xs ++ ys).take b = xs ++ ys.take (b - xs.length) ∧ (xs ++ ys).drop b = ys.drop (b - xs.length) := by
  constructor
  · rw [List.take_append, List.take_of_length_le h]
  · rw [List.drop_append, List.drop_eq_nil_of_le h, List.nil_append]
theorem cut_two2 (xs ys : List Int) (b n : Nat) (h : xs.length ≤ b) (hn : xs.length = n) : ((xs ++ ys).take b).take n = xs ∧ ((xs ++ ys).take b).drop n ++ (xs ++ ys).drop b = ys := by
  subst hn
  rw [(cut_two xs ys b h).1, (cut_two xs ys b h).2]
  simp
theorem balance_walk (w : World) (A B : Option Addr) (n c m d : Nat) (xs ys : List Int) (k : Int) (hx : Fact (RdC w 1 (.slice A n c) (nums .i64 xs))) (hy : Fact (RdC w 1 (.slice B m d) (nums .i64 ys))) (hn : n + m ≤ 1048576) :
    Calls Try.prog 6 #[.slice A n c, .slice B m d, .int .i64 k] w fun e w' => e = .returned (.bool true) ∧ Gr w w' := by
  have hxl := Fact.mk hx.out.nlen
  have hyl := Fact.mk hy.out.nlen
  go_enter Try.func6, Try.ntmps6
  go_wp2_with fail
  refine (newL_ok w A n c xs hx (by omega)).mono ?_
  rintro e w1 ⟨g, A1, c1, rfl, hm⟩
  go_wp2_with fail
  refine (itemsL_ok w w1 _ g A1 n c1 xs 140 hm m0 ⟨hm.rd m1⟩ (by omega)).mono ?_
  rintro e w2 ⟨A2, c2, rfl, hm2⟩
  have hm2 := hm2.back2
  clear hm
  go_wp2_with fail
  refine (pushL_ok w w2 _ g A1 B n c1 m d xs ys 140 hm2 ⟨hy.out.gr hm2.below⟩ (by omega)).mono ?_
  rintro e w3 ⟨A3, c3, rfl, hm3⟩
  clear hm2
  go_wp2_with fail
  refine (sameLongs_ok w3 A2 A n c2 c xs ⟨hm3.rd m2⟩ ⟨hx.out.gr hm3.below⟩ (by omega)).mono ?_
  rintro e w4 ⟨rfl, hg4⟩
  have hm4 := hm3.gr hg4
  clear hm3 hg4
  go_wp2_with fail
  refine (lenL_ok w w4 _ g A3 (n + m) c3 140 hm4 m0).mono ?_
  rintro e w5 ⟨rfl, rfl⟩
  have e1 : ((n + m : Nat) : Int) = (n : Int) + m := by omega
  go_wp2_with fail
  refine (pick_ok w5 k _ (m + 1) (by omega) (by omega) (by omega)).mono ?_
  rintro e w6 ⟨j, rfl, rfl, hj⟩
  go_wp2_with fail
  refine (popL_ok w w6 _ g A3 (n + m) c3 _ 140 hm4 (by omega) j (by omega) _ rfl).mono ?_
  rintro e w7 ⟨A4, c4, rfl, hm5⟩
  clear hm4
  go_wp2_with fail
  refine (popL_ok w w7 _ g A3 (n + m - j) (n + m - j) _ 140 hm5 (by omega) (m - j) (by omega) _ (by omega)).mono ?_
  rintro e w8 ⟨A5, c5, rfl, hm6⟩
  clear hm5
  have l1 : n + m - j - (m - j) = n := by omega
  obtain ⟨l2, l3⟩ := cut_two2 xs ys (n + m - j) n (by have := hxl.out; omega) hxl.out
  rw [l1, l2] at hm6
  have l3 := Fact.mk l3
  generalize ((xs ++ ys).take (n + m - j)).drop n = lo at hm6 l3
  generalize (xs ++ ys).drop (n + m - j) = up at hm6 l3
  clear l1 l2
  obtain ⟨iV, hi, hz0, hz1, hz2⟩ := info_parts inf_long
  have hmj : m - j + j = m := by omega
  go_wp2_with (at_builtin; refine wp_appw rfl _ _ _ rfl 2 iV _ 1 8 ty_longs hi hz0 hz1 hz2 rfl A5 (m - j) c5 _ rfl hm6.pull2 A4 j c4 _ rfl (hm6.rd m3) (by unfold maxLen; omega) (by omega) ?_; intro A6 c6 w9 hm7)
  rw [← nums_append, l3.out, hmj] at hm7
  refine (sameLongs_ok w9 A6 B m c6 d ys ⟨hm7.rd m0⟩ ⟨hy.out.gr hm7.below⟩ (by omega)).mono ?_
  rintro e w10 ⟨rfl, hg⟩
  have hm8 := (hm7.gr hg).tail
  clear hm6 hm7 hg
  go_wp2_with fail
  refine (itemsL_ok w w10 _ g A3 n n xs 140 hm8 m0 ⟨hm8.rd m1⟩ (by omega)).mono ?_
  rintro e w11 ⟨A7, c7, rfl, hm9⟩
  clear hm8
  go_wp2_with fail
  refine (sameLongs_ok w11 A7 A n c7 c xs ⟨hm9.rd m0⟩ ⟨hx.out.gr hm9.below⟩ (by omega)).mono ?_
  rintro e w12 ⟨rfl, hg⟩
  have hm10 := (hm9.gr hg).tail
  clear hm9 hg
  go_wp2_with fail
  refine (pushL_ok w w12 _ g A3 B n n m d xs ys 140 hm10 ⟨hy.out.gr hm10.below⟩ (by omega)).mono ?_
  rintro e w13 ⟨A8, c8, rfl, hm11⟩
  have hm11 := hm11.first2
  clear hm10
  by_cases hm0 : 0 < m
  · have hm1 : ((m : Int) > 0) = True := by simp; omega
    go_wp2_with fail
    have i1 : (xs ++ ys).getD (n + m - 1 - 0) 0 = ys.getD (m - 1) 0 := by
      rw [List.getD_eq_getElem?_getD, List.getElem?_append_right (by have := hxl.out; omega), show n + m - 1 - 0 - xs.length = m - 1 by have := hxl.out; omega, ← List.getD_eq_getElem?_getD]
    have i2 : (xs ++ ys).getD (n + m - 1 - (m - 1)) 0 = ys.getD 0 0 := by
      rw [List.getD_eq_getElem?_getD, List.getElem?_append_right (by have := hxl.out; omega), show n + m - 1 - (m - 1) - xs.length = 0 by have := hxl.out; omega, ← List.getD_eq_getElem?_getD]
    obtain ⟨b, o, rfl, g1, _⟩ := hy.out.num (m - 1) (by omega)
    obtain ⟨b2, o2, eb, g2, _⟩ := hy.out.num 0 (by omega)
    cases eb
    simp only [Nat.add_zero] at g2
    generalize ys.getD (m - 1) 0 = y1 at g1 i1
    generalize ys.getD 0 0 = y0 at g2 i2
    refine (topL_ok w w13 _ g A8 (n + m) c8 _ 140 hm11 m0 ⟨hm11.rd m1⟩ (by omega) 0 (by omega) _ (by omega)).mono ?_
    rintro e w14 ⟨rfl, hg⟩
    rw [if_pos (by omega), decide_eq_true (by omega), i1]
    have hm11 := hm11.gr hg
    clear hg i1
    go_wp2_with fail
    refine (topL_ok w w14 _ g A8 (n + m) c8 _ 140 hm11 m0 ⟨hm11.rd m1⟩ (by omega) (m - 1) (by omega) _ (by omega)).mono ?_
    rintro e w15 ⟨rfl, hg⟩
    rw [if_pos (by omega), decide_eq_true (by omega), i2]
    have hm11 := hm11.gr hg
    clear hg i2
    have g1 := Gr.cell hm11.below g1
    have g2 := Gr.cell hm11.below g2
    have e3 : (m : Int) - 1 = ((m - 1 : Nat) : Int) := by omega
    go_wp2_with fail
    refine (popNo_ok w w15 _ g A8 (n + m) c8 140 hm11 m0 (by omega) _ (by omega)).mono ?_
    rintro e w16 ⟨rfl, rfl⟩
    go_wp2_with fail
    refine (popNo_ok w w16 _ g A8 (n + m) c8 140 hm11 m0 (by omega) _ (by omega)).mono ?_
    rintro e w17 ⟨rfl, rfl⟩
    go_wp2_with fail
    refine (topL_ok w w17 _ g A8 (n + m) c8 _ 140 hm11 m0 ⟨hm11.rd m1⟩ (by omega) (n + m) (by omega) _ (by omega)).mono ?_
    rintro e w18 ⟨rfl, hg⟩
    rw [if_neg (by omega), decide_eq_false (by omega)]
    have hm12 := hm11.gr hg
    clear hm11 hg
    go_wp2_with fail
    refine (cutNo_ok w w18 _ g A8 (n + m) c8 140 hm12 m0 _ (by omega)).mono ?_
    rintro e w19 ⟨rfl, rfl⟩
    go_wp2_with fail
    refine (cutNo_ok w w19 _ g A8 (n + m) c8 140 hm12 m0 _ (by omega)).mono ?_
    rintro e w20 ⟨rfl, rfl⟩
    go_wp2_with fail
    refine (cutL_ok w w20 _ g A8 (n + m) c8 _ 140 hm12 (by omega) n (by omega) _ (by omega)).mono ?_
    rintro e w21 ⟨rfl, hm13⟩
    rw [show (xs ++ ys).take n = xs by rw [List.take_append_of_le_length (by have := hxl.out; omega), List.take_of_length_le (by have := hxl.out; omega)]] at hm13
    clear hm12
    go_wp2_with fail
    refine (itemsL_ok w w21 _ g A8 n n xs 140 hm13 m0 ⟨hm13.rd m1⟩ (by omega)).mono ?_
    rintro e w22 ⟨A9, c9, rfl, hm14⟩
    clear hm13
    go_wp2_with fail
    refine (sameLongs_ok w22 A9 A n c9 c xs ⟨hm14.rd m0⟩ ⟨hx.out.gr hm14.below⟩ (by omega)).mono ?_
    rintro e w23 ⟨rfl, hg⟩
    have hb := (hm14.gr hg).below
    clear hm14 hg
    go_wp2
    go_ret
    exact ⟨rfl, hb⟩
  · have hm1 : ((m : Int) > 0) = False := by simp; omega
    go_wp2_with fail
    refine (popNo_ok w w13 _ g A8 (n + m) c8 140 hm11 m0 (by omega) _ (by omega)).mono ?_
    rintro e w16 ⟨rfl, rfl⟩
    go_wp2_with fail
    refine (popNo_ok w w16 _ g A8 (n + m) c8 140 hm11 m0 (by omega) _ (by omega)).mono ?_
    rintro e w17 ⟨rfl, rfl⟩
    go_wp2_with fail
    refine (topL_ok w w17 _ g A8 (n + m) c8 _ 140 hm11 m0 ⟨hm11.rd m1⟩ (by omega) (n + m) (by omega) _ (by omega)).mono ?_
    rintro e w18 ⟨rfl, hg⟩
    rw [if_neg (by omega), decide_eq_false (by omega)]
    have hm12 := hm11.gr hg
    clear hm11 hg
    go_wp2_with fail
    refine (cutNo_ok w w18 _ g A8 (n + m) c8 140 hm12 m0 _ (by omega)).mono ?_
    rintro e w19 ⟨rfl, rfl⟩
    go_wp2_with fail
    refine (cutNo_ok w w19 _ g A8 (n + m) c8 140 hm12 m0 _ (by omega)).mono ?_
    rintro e w20 ⟨rfl, rfl⟩
    go_wp2_with fail
    refine (cutL_ok w w20 _ g A8 (n + m) c8 _ 140 hm12 (by omega) n (by omega) _ (by omega)).mono ?_
    rintro e w21 ⟨rfl, hm13⟩
    rw [show (xs ++ ys).take n = xs by rw [List.take_append_of_le_length (by have := hxl.out; omega), List.take_of_length_le (by have := hxl.out; omega)]] at hm13
    clear hm12
    go_wp2_with fail
    refine (itemsL_ok w w21 _ g A8 n n xs 140 hm13 m0 ⟨hm13.rd m1⟩ (by omega)).mono ?_
    rintro e w22 ⟨A9, c9, rfl, hm14⟩
    clear hm13
    go_wp2_with fail
    refine (sameLongs_ok w22 A9 A n c9 c xs ⟨hm14.rd m0⟩ ⟨hx.out.gr hm14.below⟩ (by omega)).mono ?_
    rintro e w23 ⟨rfl, hg⟩
    have hb := (hm14.gr hg).below
    clear hm14 hg
    go_wp2
    go_ret
    exact ⟨rfl, hb⟩
theorem framesBalance_ok (H : Type) (enc : TypeId × Value → H) (W : World) (base : Nat)
    (v0 : Value) (d0 : DataW H) (p0 : List MemPlace) (h0 : DataW.Trod enc Try.prog W 0 (fun _ => true) true 51 v0 d0 p0) (ok0 : Value.okWide Try.prog W .any base 51 v0)
    (v1 : Value) (d1 : DataW H) (p1 : List MemPlace) (h1 : DataW.Trod enc Try.prog W 0 (fun _ => true) true 51 v1 d1 p1) (ok1 : Value.okWide Try.prog W .any base 51 v1)
    (v2 : Value) (d2 : DataW H) (p2 : List MemPlace) (h2 : DataW.Trod enc Try.prog W 0 (fun _ => true) true 3 v2 d2 p2) (ok2 : Value.okWide Try.prog W .any base 3 v2) (hk : Rows.uptoSmall H ([d0, d1, d2] ++ []) = true) :
    Calls Try.prog 6 #[v0, v1, v2] W fun e w' => e = .returned (.bool true) ∧ Gr W w' := by
  obtain ⟨A, n, c, xs, rfl, hx, _, _, b0⟩ := open_nums ty_longs ty_long (by kernel_rfl) h0 ok0
  obtain ⟨B, m, d, ys, rfl, hy, _, _, b1⟩ := open_nums ty_longs ty_long (by kernel_rfl) h1 ok1
  obtain ⟨k, rfl⟩ : ∃ k, v2 = .int .i64 k := okWide_int ty_int ok2
  have hb := bulk_small hk
  have l0 := bulk_slice b0
  have l1 := bulk_slice b1
  simp only [Rows.uptoBulkAll, List.cons_append, List.nil_append] at hb
  exact balance_walk W A B n c m d xs ys k ⟨hx⟩ ⟨hy⟩ (by omega)
end Go.Proofs.Ytgflfpepfpekhaa
