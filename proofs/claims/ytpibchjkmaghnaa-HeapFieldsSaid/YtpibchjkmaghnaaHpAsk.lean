/- ask: one call on a heap; what is handed in has marks behind it and is written over. -/
import Derived.Test.YtpibchjkmaghnaaHpAskP
import Derived.Test.YtpibchjkmaghnaaExt
namespace Go.Mm
theorem Mem.pull5 {w0 w : World} {a b c d e f : Chunk} {L : List Chunk} (h : Mem w0 w (a :: b :: c :: d :: e :: f :: L)) : Mem w0 w (f :: a :: b :: c :: d :: e :: L) := h.perm (perm_front (a :: b :: c :: d :: e :: f :: L) 5 (by simp))
theorem Mem.pull6 {w0 w : World} {a b c d e f g : Chunk} {L : List Chunk} (h : Mem w0 w (a :: b :: c :: d :: e :: f :: g :: L)) : Mem w0 w (g :: a :: b :: c :: d :: e :: f :: L) := h.perm (perm_front (a :: b :: c :: d :: e :: f :: g :: L) 6 (by simp))
theorem Mem.nil3 {w0 w : World} {a : Chunk} {L : List Chunk} (h : Mem w0 w (a :: L)) : Mem w0 w (a :: Own 2 (.slice none 0 0) [] :: Own 1 (.slice none 0 0) [] :: Own 1 (.slice none 0 0) [] :: L) := (Mem.nil (Mem.nil (Mem.nil h 1 none) 1 none) 2 none).pull3
end Go.Mm
namespace Go.Proofs.Ytpibchjkmaghnaa
open Go.RowKit Go.Mm
set_option maxHeartbeats 4000000
set_option maxRecDepth 100000
set_option linter.unusedSimpArgs false
theorem m7 {α : Type} {a b c d e f g x : α} {l : List α} : x ∈ a :: b :: c :: d :: e :: f :: g :: x :: l := .tail _ m6
theorem measP_lt {m k : Nat} (h : k < m) : m - (intOf (.int .i64 ((k : Int) + 1))).toNat < m - (intOf (.int .i64 (k : Int))).toNat := by
  simp [intOf]
  omega
theorem measN_lt {m k : Nat} (h : k < m) (hw : wrap64 ((k : Int) + 1) = (k : Int) + 1) : m - (intOf (.int .i64 (wrap64 ((k : Int) + 1)))).toNat < m - (intOf (.int .i64 (k : Int))).toNat := by
  rw [hw]
  simp [intOf]
  omega
theorem askPlain_ok (w0 w : World) (L : List Chunk) (h : Hp) (hm : Mem w0 w (HpC h :: L)) (c : Nat) (S : Hs) (R : Sd) (o : HOp) (hx : Fact (RdC w0 2 (.slice o.A o.n o.c) (fV o.items))) (hn : o.n ≤ 1048576) (h3 : c ≠ 3) (h5 : c ≠ 5) (h19 : c ≠ 19) (hp : Fact (∀ (w1 : World) (L1 : List Chunk), Mem w0 w1 (HpC h :: L1) → Calls Try.prog 77 #[.pointer (some ⟨h.g, 0, none⟩), .int .i64 c, .agg (cHO o).toArray] w1 fun e w' => ∃ v, e = .returned v ∧ AskQ w0 L1 h.g S R v w')) :
    Calls Try.prog 47 #[.pointer (some ⟨h.g, 0, none⟩), .int .i64 c, .agg (cHO o).toArray] w fun e w' => ∃ v, e = .returned (.tuple #[v, .bool true]) ∧ AskQ w0 L h.g S R v w' := by
  have hil := Fact.mk (rdV_len hx.out)
  have q3 : decide ((c : Int) = 3) = false := decide_eq_false (by omega)
  have q5 : decide ((c : Int) = 5) = false := decide_eq_false (by omega)
  have q19 : decide ((c : Int) = 19) = false := decide_eq_false (by omega)
  go_enter Try.func47, Try.ntmps47
  go_upto_region 1 with (fail)
  have hm1 := (hm.alloc (.cells (cHO o).toArray 32)).alloc (.cells (sC 0 0 0 0 false 0 none 0 0 none 0 0 0 0 false none 0 0).toArray 84)
  simp only [World.size_alloc] at hm1
  generalize hgb : w.heap.size = g at hm1 ⊢
  generalize hw1 : (w.alloc (.cells (cHO o).toArray 32)).alloc (.cells (sC 0 0 0 0 false 0 none 0 0 none 0 0 0 0 false none 0 0).toArray 84) = w1 at hm1
  try refine wp_world hw1 ?_
  clear hw1 hgb hm
  have x8 := hm1.cell m1 8 rfl
  go_wp2_with fail
  refine (lentValues_ok w1 o.A o.n o.c o.items ⟨hx.out.gr hm1.below⟩ (by omega)).mono ?_
  rintro e w2 ⟨B, d, rfl, hn2⟩
  have hm2 := hm1.new hn2
  clear hm1 x8 hn2
  have hcap := OwnAt.cap (hm2.ok _ m0)
  have hcap1 : o.n ≤ d := by omega
  obtain ⟨bg, bo, hB⟩ := OwnAt.addr (hm2.ok _ m0) (by omega)
  subst hB
  have x8 := hm2.cell m2 8 rfl
  go_upto_region 4 with (fail)
  have hm3 := hm2.alloc (.cells (sC 0 0 0 0 false 0 none 0 0 none 0 0 0 0 false none 0 0).toArray 84)
  generalize hgb : w2.heap.size = g3 at hm3 ⊢
  generalize hw1 : w2.alloc (.cells (sC 0 0 0 0 false 0 none 0 0 none 0 0 0 0 false none 0 0).toArray 84) = w3 at hm3
  try refine wp_world hw1 ?_
  clear hw1 hgb hm2 x8
  have hm4 := hm3.pull4
  go_wp2_with (refine wp_rng rfl 32 _ rfl g 0 rfl (cHO o) (rng_blk hm4 m4) row_HO sz_HO ?_)
  refine (hp.out w3 _ hm4).mono ?_
  rintro e w4 ⟨v, rfl, h', hg', ha', hok', A, c1, K, k1, LA, lc, rfl, hm5⟩
  go_wp2_with (refine wp_setrow rfl 84 _ _ rfl g3 rfl 84 _ (sdC R A c1 K k1 LA lc) rfl hm5.pull4 sz_S rfl (sC_one _ _ _ _ _ _ _ _ _ _ _ _ _ _ _ _ _ _) ?_; intro w6 hm6; have x8 := hm6.cell m7 8 rfl)
  refine (keptValues_ok w6 (some ⟨bg, bo, none⟩) o.n d o.A o.c o.items ⟨hm6.rd m5⟩ ⟨hx.out.gr hm6.below⟩ (by omega)).mono ?_
  rintro e w7 ⟨rfl, hg7⟩
  have hm7 := (hm6.gr hg7).pull5
  clear hm6 x8 hg7
  obtain ⟨C0, hC0⟩ : ∃ C0, C0 = fV (o.items ++ marksV 64) := ⟨_, rfl⟩
  have hCl : C0.length = (o.n + 64) * 2 := by rw [hC0]; exact OwnAt.len (hm7.ok _ m0)
  rw [← hC0] at hm7
  clear hC0
  go_wp2
  go_loopw [12] (fun s12 W => ∃ (k : Nat) (C : List Value), s12 = .int .i64 k ∧ k ≤ o.n + 64 ∧ C.length = (o.n + 64) * 2 ∧ Mem w0 W (Own 2 (.slice (some ⟨bg, bo, none⟩) (o.n + 64) d) C :: Blk g3 (.cells (sdC R A c1 K k1 LA lc).toArray 84) :: Own 2 (.slice A R.ob.items.length c1) (fV R.ob.items) :: Own 1 (.slice K R.ob.keys.length k1) (nums .i64 R.ob.keys) :: Own 1 (.slice LA R.list.length lc) (nums .i64 R.list) :: HpC h' :: Blk (g + 1) (.cells (sC 0 0 0 0 false 0 none 0 0 none 0 0 0 0 false none 0 0).toArray 84) :: Blk g (.cells (cHO o).toArray 32) :: L)) (fun s12 _ => o.n + 64 - (intOf s12).toNat)
  case atStart => exact ⟨0, C0, rfl, by omega, hCl, hm7⟩
  case round =>
    obtain ⟨k, C, rfl, hk, hC, hmr⟩ := hrel
    clear hm7 hCl
    by_cases hlt : k < o.n + 64
    · have wrapk : wrap64 ((k : Int) + 1) = (k : Int) + 1 := IntWalk.wrap64_in _ (by omega)
      have hC' : (C.take (k * 2) ++ [(.int .i64 77 : Value), .int .i64 (k : Int)] ++ C.drop (k * 2 + 2)).length = (o.n + 64) * 2 := by simp only [List.length_append, List.length_take, List.length_drop, List.length_cons, List.length_nil, hC]; omega
      replace hC' := Fact.mk hC'
      replace hC := Fact.mk hC
      go_wp2_with (refine wp_ownrow rfl 27 _ _ rfl (bo + k * 2) (k * 2) rfl rfl [.int .i64 77, .int .i64 (k : Int)] rfl hmr sz_V (by rw [hC.out]; simp; omega) (cV_one (77, (k : Int))) ?_; intro w9 hm9)
      go_roundw
      case rel => exact ⟨k + 1, _, by go_num, by omega, hC'.out, hm9⟩
      case measure => exact measP_lt hlt
    · obtain rfl : k = o.n + 64 := by omega
      go_wp2_with (first | (refine wp_rng rfl 84 _ rfl g3 0 rfl (sdC R A c1 K k1 LA lc) (rng_blk hmr m1) row_S sz_S ?_) | (refine wp_setrow rfl 84 _ _ rfl (g + 1) rfl 84 _ (sdC R A c1 K k1 LA lc) rfl hmr.pull6 sz_S rfl (sC_one _ _ _ _ _ _ _ _ _ _ _ _ _ _ _ _ _ _) ?_; intro w9 hm9))
      have hz := (hm9.tail.tail.tail).sub (List.Sublist.cons_cons _ (List.Sublist.cons_cons _ (List.Sublist.cons_cons _ (List.Sublist.cons_cons _ (List.sublist_cons_self _ _)))))
      refine bodyPost_ret (Mm.res_cell_tmp rfl _ (g + 1) 84 (sdC R A c1 K k1 LA lc) (0, 0) rfl hm9 m0 row_S sz_S) rfl ⟨_, rfl, h', hg', ha', hok', ?_⟩
      exact ⟨A, c1, K, k1, LA, lc, rfl, hz⟩
theorem askArray_ok (w0 w : World) (L : List Chunk) (h : Hp) (hm : Mem w0 w (HpC h :: L)) (hok : Fact h.Ok) (o : HOp) (hx : Fact (RdC w0 2 (.slice o.A o.n o.c) (fV o.items))) (hn : o.n ≤ 1048576) (hl : h.ths.length < 16777216) :
    Calls Try.prog 47 #[.pointer (some ⟨h.g, 0, none⟩), .int .i64 3, .agg (cHO o).toArray] w fun e w' => ∃ v, e = .returned (.tuple #[v, .bool true]) ∧ AskQ w0 L h.g (h.abs.make (decide (o.n ≤ 4096)) (2 + o.n) ⟨6, o.items, [], 0, 0, false⟩) (h.abs.makeV (decide (o.n ≤ 4096)) (2 + o.n) 6) v w' := by
  have hil := Fact.mk (rdV_len hx.out)
  go_enter Try.func47, Try.ntmps47
  go_upto_region 1 with (fail)
  have hm1 := (hm.alloc (.cells (cHO o).toArray 32)).alloc (.cells (sC 0 0 0 0 false 0 none 0 0 none 0 0 0 0 false none 0 0).toArray 84)
  simp only [World.size_alloc] at hm1
  generalize hgb : w.heap.size = g at hm1 ⊢
  generalize hw1 : (w.alloc (.cells (cHO o).toArray 32)).alloc (.cells (sC 0 0 0 0 false 0 none 0 0 none 0 0 0 0 false none 0 0).toArray 84) = w1 at hm1
  try refine wp_world hw1 ?_
  clear hw1 hgb hm
  have x8 := hm1.cell m1 8 rfl
  go_wp2_with fail
  refine (lentValues_ok w1 o.A o.n o.c o.items ⟨hx.out.gr hm1.below⟩ (by omega)).mono ?_
  rintro e w2 ⟨B, d, rfl, hn2⟩
  have hm2 := hm1.new hn2
  clear hm1 x8 hn2
  have hcap := OwnAt.cap (hm2.ok _ m0)
  have hcap1 : o.n ≤ d := by omega
  obtain ⟨bg, bo, hB⟩ := OwnAt.addr (hm2.ok _ m0) (by omega)
  subst hB
  have x8 := hm2.cell m2 8 rfl
  go_upto_region 4 with (fail)
  have hm3 := hm2.alloc (.cells (sC 0 0 0 0 false 0 none 0 0 none 0 0 0 0 false none 0 0).toArray 84)
  generalize hgb : w2.heap.size = g3 at hm3 ⊢
  generalize hw1 : w2.alloc (.cells (sC 0 0 0 0 false 0 none 0 0 none 0 0 0 0 false none 0 0).toArray 84) = w3 at hm3
  try refine wp_world hw1 ?_
  clear hw1 hgb hm2 x8
  have hr4 := Fact.mk (rd_pre cV_len (hm3.rd m1) hil.out)
  have hm4 := hm3.pull4
  go_wp2_with fail
  refine (array_ok w0 w3 _ h hm4 hok (some ⟨bg, bo, none⟩) o.n d o.items hr4 (by omega) hl).mono ?_
  rintro e w4 ⟨rfl, h', hg', ha', hok', hm5⟩
  obtain ⟨a, b, t, hr, hr2⟩ := makeR_parts h.abs (decide (o.n ≤ 4096)) (2 + o.n) 6
  rw [hr]
  replace hr := Fact.mk hr
  replace hr2 := Fact.mk hr2
  go_wp2_with (first | (refine wp_setat rfl 27 _ _ rfl g3 0 rfl 84 _ [.int .i64 a, .int .i64 b] (sC a b 0 0 false 0 none 0 0 none 0 0 0 0 false none 0 0) (.agg #[.int .i64 a, .int .i64 b]) rfl rfl hm5.swap sz_V (by simp [sC]) (cV_one (a, b)) rfl ?_; intro w5 hs5) | (refine wp_setat rfl 4 _ _ rfl g3 4 rfl 84 _ [.bool t] (sC a b 0 0 t 0 none 0 0 none 0 0 0 0 false none 0 0) (.bool t) rfl rfl hs5 sz_bool (by simp [sC]) (one_one rfl) rfl ?_; intro w6 hs6; have hm6 := hs6.nil3; have x8 := hm6.cell m7 8 rfl))
  refine (keptValues_ok w6 (some ⟨bg, bo, none⟩) o.n d o.A o.c o.items ⟨hm6.rd m5⟩ ⟨hx.out.gr hm6.below⟩ (by omega)).mono ?_
  rintro e w7 ⟨rfl, hg7⟩
  have hm7 := (hm6.gr hg7).pull5
  clear hm6 x8 hg7
  obtain ⟨C0, hC0⟩ : ∃ C0, C0 = fV (o.items ++ marksV 64) := ⟨_, rfl⟩
  have hCl : C0.length = (o.n + 64) * 2 := by rw [hC0]; exact OwnAt.len (hm7.ok _ m0)
  rw [← hC0] at hm7
  clear hC0
  go_wp2
  go_loopw [12] (fun s12 W => ∃ (k : Nat) (C : List Value), s12 = .int .i64 k ∧ k ≤ o.n + 64 ∧ C.length = (o.n + 64) * 2 ∧ Mem w0 W (Own 2 (.slice (some ⟨bg, bo, none⟩) (o.n + 64) d) C :: Blk g3 (.cells (sC a b 0 0 t 0 none 0 0 none 0 0 0 0 false none 0 0).toArray 84) :: Own 2 (.slice none 0 0) [] :: Own 1 (.slice none 0 0) [] :: Own 1 (.slice none 0 0) [] :: HpC h' :: Blk (g + 1) (.cells (sC 0 0 0 0 false 0 none 0 0 none 0 0 0 0 false none 0 0).toArray 84) :: Blk g (.cells (cHO o).toArray 32) :: L)) (fun s12 _ => o.n + 64 - (intOf s12).toNat)
  case atStart => exact ⟨0, C0, rfl, by omega, hCl, hm7⟩
  case round =>
    obtain ⟨k, C, rfl, hk, hC, hmr⟩ := hrel
    clear hm7 hCl
    by_cases hlt : k < o.n + 64
    · have wrapk : wrap64 ((k : Int) + 1) = (k : Int) + 1 := IntWalk.wrap64_in _ (by omega)
      have hC' : (C.take (k * 2) ++ [(.int .i64 77 : Value), .int .i64 (k : Int)] ++ C.drop (k * 2 + 2)).length = (o.n + 64) * 2 := by simp only [List.length_append, List.length_take, List.length_drop, List.length_cons, List.length_nil, hC]; omega
      replace hC' := Fact.mk hC'
      replace hC := Fact.mk hC
      go_wp2_with (refine wp_ownrow rfl 27 _ _ rfl (bo + k * 2) (k * 2) rfl rfl [.int .i64 77, .int .i64 (k : Int)] rfl hmr sz_V (by rw [hC.out]; simp; omega) (cV_one (77, (k : Int))) ?_; intro w9 hm9)
      go_roundw
      case rel => exact ⟨k + 1, _, by go_num, by omega, hC'.out, hm9⟩
      case measure => exact measP_lt hlt
    · obtain rfl : k = o.n + 64 := by omega
      go_wp2_with (first | (refine wp_rng rfl 84 _ rfl g3 0 rfl (sC a b 0 0 t 0 none 0 0 none 0 0 0 0 false none 0 0) (rng_blk hmr m1) row_S sz_S ?_) | (refine wp_setrow rfl 84 _ _ rfl (g + 1) rfl 84 _ (sC a b 0 0 t 0 none 0 0 none 0 0 0 0 false none 0 0) rfl hmr.pull6 sz_S rfl (sC_one _ _ _ _ _ _ _ _ _ _ _ _ _ _ _ _ _ _) ?_; intro w9 hm9))
      have hz := (hm9.tail.tail.tail).sub (List.Sublist.cons_cons _ (List.Sublist.cons_cons _ (List.Sublist.cons_cons _ (List.Sublist.cons_cons _ (List.sublist_cons_self _ _)))))
      refine bodyPost_ret (Mm.res_cell_tmp rfl _ (g + 1) 84 (sC a b 0 0 t 0 none 0 0 none 0 0 0 0 false none 0 0) (0, 0) rfl hm9 m0 row_S sz_S) rfl ⟨_, rfl, h', hg', ha', hok', ?_⟩
      rw [hr2.out]
      exact ⟨none, 0, none, 0, none, 0, rfl, hz⟩
theorem askBound_ok (w0 w : World) (L : List Chunk) (h : Hp) (hm : Mem w0 w (HpC h :: L)) (hok : Fact h.Ok) (o : HOp) (hx : Fact (RdC w0 2 (.slice o.A o.n o.c) (fV o.items))) (hn : o.n ≤ 1048576) (hl : h.ths.length < 16777216) :
    Calls Try.prog 47 #[.pointer (some ⟨h.g, 0, none⟩), .int .i64 5, .agg (cHO o).toArray] w fun e w' => ∃ v, e = .returned (.tuple #[v, .bool true]) ∧ AskQ w0 L h.g (h.abs.make (decide (0 ≤ o.M) && decide (o.n ≤ 4096)) (2 + o.n) ⟨8, o.items, [], o.M, 0, false⟩) (h.abs.makeV (decide (0 ≤ o.M) && decide (o.n ≤ 4096)) (2 + o.n) 8) v w' := by
  have hil := Fact.mk (rdV_len hx.out)
  go_enter Try.func47, Try.ntmps47
  go_upto_region 1 with (fail)
  have hm1 := (hm.alloc (.cells (cHO o).toArray 32)).alloc (.cells (sC 0 0 0 0 false 0 none 0 0 none 0 0 0 0 false none 0 0).toArray 84)
  simp only [World.size_alloc] at hm1
  generalize hgb : w.heap.size = g at hm1 ⊢
  generalize hw1 : (w.alloc (.cells (cHO o).toArray 32)).alloc (.cells (sC 0 0 0 0 false 0 none 0 0 none 0 0 0 0 false none 0 0).toArray 84) = w1 at hm1
  try refine wp_world hw1 ?_
  clear hw1 hgb hm
  have x8 := hm1.cell m1 8 rfl
  go_wp2_with fail
  refine (lentValues_ok w1 o.A o.n o.c o.items ⟨hx.out.gr hm1.below⟩ (by omega)).mono ?_
  rintro e w2 ⟨B, d, rfl, hn2⟩
  have hm2 := hm1.new hn2
  clear hm1 x8 hn2
  have hcap := OwnAt.cap (hm2.ok _ m0)
  have hcap1 : o.n ≤ d := by omega
  obtain ⟨bg, bo, hB⟩ := OwnAt.addr (hm2.ok _ m0) (by omega)
  subst hB
  have x8 := hm2.cell m2 8 rfl
  go_upto_region 4 with (fail)
  have hm3 := hm2.alloc (.cells (sC 0 0 0 0 false 0 none 0 0 none 0 0 0 0 false none 0 0).toArray 84)
  generalize hgb : w2.heap.size = g3 at hm3 ⊢
  generalize hw1 : w2.alloc (.cells (sC 0 0 0 0 false 0 none 0 0 none 0 0 0 0 false none 0 0).toArray 84) = w3 at hm3
  try refine wp_world hw1 ?_
  clear hw1 hgb hm2 x8
  have hr4 := Fact.mk (rd_pre cV_len (hm3.rd m1) hil.out)
  have hm4 := hm3.pull4
  have x7 := hm4.cell m4 7 rfl
  go_wp2_with fail
  refine (bound_ok w0 w3 _ h hm4 hok o.M (some ⟨bg, bo, none⟩) o.n d o.items hr4 (by omega) hl).mono ?_
  rintro e w4 ⟨rfl, h', hg', ha', hok', hm5⟩
  obtain ⟨a, b, t, hr, hr2⟩ := makeR_parts h.abs (decide (0 ≤ o.M) && decide (o.n ≤ 4096)) (2 + o.n) 8
  rw [hr]
  replace hr := Fact.mk hr
  replace hr2 := Fact.mk hr2
  go_wp2_with (first | (refine wp_setat rfl 27 _ _ rfl g3 0 rfl 84 _ [.int .i64 a, .int .i64 b] (sC a b 0 0 false 0 none 0 0 none 0 0 0 0 false none 0 0) (.agg #[.int .i64 a, .int .i64 b]) rfl rfl hm5.swap sz_V (by simp [sC]) (cV_one (a, b)) rfl ?_; intro w5 hs5) | (refine wp_setat rfl 4 _ _ rfl g3 4 rfl 84 _ [.bool t] (sC a b 0 0 t 0 none 0 0 none 0 0 0 0 false none 0 0) (.bool t) rfl rfl hs5 sz_bool (by simp [sC]) (one_one rfl) rfl ?_; intro w6 hs6; have hm6 := hs6.nil3; have x8 := hm6.cell m7 8 rfl))
  refine (keptValues_ok w6 (some ⟨bg, bo, none⟩) o.n d o.A o.c o.items ⟨hm6.rd m5⟩ ⟨hx.out.gr hm6.below⟩ (by omega)).mono ?_
  rintro e w7 ⟨rfl, hg7⟩
  have hm7 := (hm6.gr hg7).pull5
  clear hm6 x8 hg7
  obtain ⟨C0, hC0⟩ : ∃ C0, C0 = fV (o.items ++ marksV 64) := ⟨_, rfl⟩
  have hCl : C0.length = (o.n + 64) * 2 := by rw [hC0]; exact OwnAt.len (hm7.ok _ m0)
  rw [← hC0] at hm7
  clear hC0
  go_wp2
  go_loopw [12] (fun s12 W => ∃ (k : Nat) (C : List Value), s12 = .int .i64 k ∧ k ≤ o.n + 64 ∧ C.length = (o.n + 64) * 2 ∧ Mem w0 W (Own 2 (.slice (some ⟨bg, bo, none⟩) (o.n + 64) d) C :: Blk g3 (.cells (sC a b 0 0 t 0 none 0 0 none 0 0 0 0 false none 0 0).toArray 84) :: Own 2 (.slice none 0 0) [] :: Own 1 (.slice none 0 0) [] :: Own 1 (.slice none 0 0) [] :: HpC h' :: Blk (g + 1) (.cells (sC 0 0 0 0 false 0 none 0 0 none 0 0 0 0 false none 0 0).toArray 84) :: Blk g (.cells (cHO o).toArray 32) :: L)) (fun s12 _ => o.n + 64 - (intOf s12).toNat)
  case atStart => exact ⟨0, C0, rfl, by omega, hCl, hm7⟩
  case round =>
    obtain ⟨k, C, rfl, hk, hC, hmr⟩ := hrel
    clear hm7 hCl
    by_cases hlt : k < o.n + 64
    · have wrapk : wrap64 ((k : Int) + 1) = (k : Int) + 1 := IntWalk.wrap64_in _ (by omega)
      have hC' : (C.take (k * 2) ++ [(.int .i64 77 : Value), .int .i64 (k : Int)] ++ C.drop (k * 2 + 2)).length = (o.n + 64) * 2 := by simp only [List.length_append, List.length_take, List.length_drop, List.length_cons, List.length_nil, hC]; omega
      replace hC' := Fact.mk hC'
      replace hC := Fact.mk hC
      go_wp2_with (refine wp_ownrow rfl 27 _ _ rfl (bo + k * 2) (k * 2) rfl rfl [.int .i64 77, .int .i64 (k : Int)] rfl hmr sz_V (by rw [hC.out]; simp; omega) (cV_one (77, (k : Int))) ?_; intro w9 hm9)
      go_roundw
      case rel => exact ⟨k + 1, _, by go_num, by omega, hC'.out, hm9⟩
      case measure => exact measP_lt hlt
    · obtain rfl : k = o.n + 64 := by omega
      go_wp2_with (first | (refine wp_rng rfl 84 _ rfl g3 0 rfl (sC a b 0 0 t 0 none 0 0 none 0 0 0 0 false none 0 0) (rng_blk hmr m1) row_S sz_S ?_) | (refine wp_setrow rfl 84 _ _ rfl (g + 1) rfl 84 _ (sC a b 0 0 t 0 none 0 0 none 0 0 0 0 false none 0 0) rfl hmr.pull6 sz_S rfl (sC_one _ _ _ _ _ _ _ _ _ _ _ _ _ _ _ _ _ _) ?_; intro w9 hm9))
      have hz := (hm9.tail.tail.tail).sub (List.Sublist.cons_cons _ (List.Sublist.cons_cons _ (List.Sublist.cons_cons _ (List.Sublist.cons_cons _ (List.sublist_cons_self _ _)))))
      refine bodyPost_ret (Mm.res_cell_tmp rfl _ (g + 1) 84 (sC a b 0 0 t 0 none 0 0 none 0 0 0 0 false none 0 0) (0, 0) rfl hm9 m0 row_S sz_S) rfl ⟨_, rfl, h', hg', ha', hok', ?_⟩
      rw [hr2.out]
      exact ⟨none, 0, none, 0, none, 0, rfl, hz⟩
end Go.Proofs.Ytpibchjkmaghnaa
