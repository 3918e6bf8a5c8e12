/- askPlain: the calls one by one. -/
import Derived.Test.YtpibchjkmaghnaaHpSaid
namespace Go.Proofs.Ytpibchjkmaghnaa
open Go.RowKit Go.Mm
set_option maxHeartbeats 4000000
set_option maxRecDepth 100000
set_option linter.unusedSimpArgs false
theorem askP_spend (w0 w : World) (L : List Chunk) (h : Hp) (hm : Mem w0 w (HpC h :: L)) (hok : Fact h.Ok) (o : HOp) :
    Calls Try.prog 77 #[.pointer (some ⟨h.g, 0, none⟩), .int .i64 0, .agg (cHO o).toArray] w fun e w' => ∃ v, e = .returned v ∧ AskQ w0 L h.g (h.abs.spend o.M) (sdV (0, 0) 0 0 (h.abs.room o.M)) v w' := by
  go_enter Try.func77, Try.ntmps77
  go_upto_region 2 with (fail)
  have hm1 := ((hm.alloc (.cells (cHO o).toArray 32)).alloc (.cells (sC 0 0 0 0 false 0 none 0 0 none 0 0 0 0 false none 0 0).toArray 84)).alloc (.cells (sC 0 0 0 0 false 0 none 0 0 none 0 0 0 0 false none 0 0).toArray 84)
  simp only [World.size_alloc] at hm1
  generalize hgb : w.heap.size = g at hm1 ⊢
  generalize hw1 : ((w.alloc (.cells (cHO o).toArray 32)).alloc (.cells (sC 0 0 0 0 false 0 none 0 0 none 0 0 0 0 false none 0 0).toArray 84)).alloc (.cells (sC 0 0 0 0 false 0 none 0 0 none 0 0 0 0 false none 0 0).toArray 84) = w1 at hm1
  try refine wp_world hw1 ?_
  clear hw1 hgb
  replace hm1 := hm1.pull3
  have x7 := hm1.cell m3 7 rfl
  go_wp2_with fail
  refine (heapSpend_ok w0 w1 (Blk (g + 1 + 1) (.cells (sC 0 0 0 0 false 0 none 0 0 none 0 0 0 0 false none 0 0).toArray 84) :: Blk (g + 1) (.cells (sC 0 0 0 0 false 0 none 0 0 none 0 0 0 0 false none 0 0).toArray 84) :: Blk g (.cells (cHO o).toArray 32) :: L) h hm1 hok o.M).mono ?_
  rintro e w2 ⟨rfl, hm2⟩
  go_wp2_with (first | (refine wp_setat rfl 4 _ _ rfl (g + 1 + 1) 4 rfl 84 _ [.bool (h.room o.M)] (sC 0 0 0 0 (h.room o.M) 0 none 0 0 none 0 0 0 0 false none 0 0) (.bool (h.room o.M)) rfl rfl hm2.swap sz_bool (by simp [sC, obC]) (one_one rfl) rfl ?_; intro w3 hs3) | (refine wp_rng rfl 84 _ rfl (g + 1 + 1) 0 rfl (sC 0 0 0 0 (h.room o.M) 0 none 0 0 none 0 0 0 0 false none 0 0) (rng_blk hs3 m0) row_S sz_S ?_) | (refine wp_setrow rfl 84 _ _ rfl (g + 1) rfl 84 _ (sC 0 0 0 0 (h.room o.M) 0 none 0 0 none 0 0 0 0 false none 0 0) rfl hs3.pull2 sz_S rfl (sC_one _ _ _ _ _ _ _ _ _ _ _ _ _ _ _ _ _ _) ?_; intro w4 hs4))
  have hz := hs4.tail.tail.drop2
  refine bodyPost_ret (Mm.res_cell rfl _ (g + 1) 84 (sC 0 0 0 0 (h.room o.M) 0 none 0 0 none 0 0 0 0 false none 0 0) (0, 0) rfl hs4 m0 row_S sz_S) rfl ?_
  exact ⟨_, rfl, h.spend o.M, h.spend_g _, h.spend_abs _, Hp.spend_ok hok.out _, SdQ.plain 0 0 0 0 (h.room o.M) hz⟩
theorem askP_counts (w0 w : World) (L : List Chunk) (h : Hp) (hm : Mem w0 w (HpC h :: L)) (hok : Fact h.Ok) (o : HOp) :
    Calls Try.prog 77 #[.pointer (some ⟨h.g, 0, none⟩), .int .i64 1, .agg (cHO o).toArray] w fun e w' => ∃ v, e = .returned v ∧ AskQ w0 L h.g (h.abs) (sdV (0, 0) h.abs.objs.length h.abs.spent false) v w' := by
  go_enter Try.func77, Try.ntmps77
  go_upto_region 2 with (fail)
  have hm1 := ((hm.alloc (.cells (cHO o).toArray 32)).alloc (.cells (sC 0 0 0 0 false 0 none 0 0 none 0 0 0 0 false none 0 0).toArray 84)).alloc (.cells (sC 0 0 0 0 false 0 none 0 0 none 0 0 0 0 false none 0 0).toArray 84)
  simp only [World.size_alloc] at hm1
  generalize hgb : w.heap.size = g at hm1 ⊢
  generalize hw1 : ((w.alloc (.cells (cHO o).toArray 32)).alloc (.cells (sC 0 0 0 0 false 0 none 0 0 none 0 0 0 0 false none 0 0).toArray 84)).alloc (.cells (sC 0 0 0 0 false 0 none 0 0 none 0 0 0 0 false none 0 0).toArray 84) = w1 at hm1
  try refine wp_world hw1 ?_
  clear hw1 hgb
  replace hm1 := hm1.pull3
  go_wp2_with fail
  refine (heapLen_ok w0 w1 _ h hm1 m0).mono ?_
  rintro e w2 ⟨rfl, rfl⟩
  go_wp2_with (first | (refine wp_setat rfl 2 _ _ rfl (g + 1 + 1) 2 rfl 84 _ [.int .i64 h.ths.length] (sC 0 0 h.ths.length 0 false 0 none 0 0 none 0 0 0 0 false none 0 0) (.int .i64 h.ths.length) rfl rfl hm1.swap sz_i64 (by simp [sC, obC]) (one_one rfl) rfl ?_; intro w3 hs3))
  have hz4 := hs3.swap
  refine (heapSpent_ok w0 w3 _ h hz4 m0).mono ?_
  rintro e w4 ⟨rfl, rfl⟩
  go_wp2_with (first | (refine wp_setat rfl 3 _ _ rfl (g + 1 + 1) 3 rfl 84 _ [.int .i64 h.spent] (sC 0 0 h.ths.length h.spent false 0 none 0 0 none 0 0 0 0 false none 0 0) (.int .i64 h.spent) rfl rfl hz4.swap sz_int (by simp [sC, obC]) (one_one rfl) rfl ?_; intro w5 hs5) | (refine wp_rng rfl 84 _ rfl (g + 1 + 1) 0 rfl (sC 0 0 h.ths.length h.spent false 0 none 0 0 none 0 0 0 0 false none 0 0) (rng_blk hs5 m0) row_S sz_S ?_) | (refine wp_setrow rfl 84 _ _ rfl (g + 1) rfl 84 _ (sC 0 0 h.ths.length h.spent false 0 none 0 0 none 0 0 0 0 false none 0 0) rfl hs5.pull2 sz_S rfl (sC_one _ _ _ _ _ _ _ _ _ _ _ _ _ _ _ _ _ _) ?_; intro w6 hs6))
  have hz := hs6.tail.tail.drop2
  refine bodyPost_ret (Mm.res_cell rfl _ (g + 1) 84 (sC 0 0 h.ths.length h.spent false 0 none 0 0 none 0 0 0 0 false none 0 0) (0, 0) rfl hs6 m0 row_S sz_S) rfl ?_
  have hl : h.abs.objs.length = h.ths.length := h.abs_len
  rw [hl]
  exact ⟨_, rfl, h, rfl, rfl, hok.out, SdQ.plain 0 0 _ _ false hz⟩
theorem askP_record (w0 w : World) (L : List Chunk) (h : Hp) (hm : Mem w0 w (HpC h :: L)) (hok : Fact h.Ok) (o : HOp) (hl : h.ths.length < 16777216) :
    Calls Try.prog 77 #[.pointer (some ⟨h.g, 0, none⟩), .int .i64 4, .agg (cHO o).toArray] w fun e w' => ∃ v, e = .returned v ∧ AskQ w0 L h.g (h.abs.make true 2 ⟨7, [], [], 0, 0, false⟩) (h.abs.makeV true 2 7) v w' := by
  go_enter Try.func77, Try.ntmps77
  go_upto_region 2 with (fail)
  have hm1 := ((hm.alloc (.cells (cHO o).toArray 32)).alloc (.cells (sC 0 0 0 0 false 0 none 0 0 none 0 0 0 0 false none 0 0).toArray 84)).alloc (.cells (sC 0 0 0 0 false 0 none 0 0 none 0 0 0 0 false none 0 0).toArray 84)
  simp only [World.size_alloc] at hm1
  generalize hgb : w.heap.size = g at hm1 ⊢
  generalize hw1 : ((w.alloc (.cells (cHO o).toArray 32)).alloc (.cells (sC 0 0 0 0 false 0 none 0 0 none 0 0 0 0 false none 0 0).toArray 84)).alloc (.cells (sC 0 0 0 0 false 0 none 0 0 none 0 0 0 0 false none 0 0).toArray 84) = w1 at hm1
  try refine wp_world hw1 ?_
  clear hw1 hgb
  replace hm1 := hm1.pull3
  go_wp2_with fail
  refine (record_ok w0 w1 (Blk (g + 1 + 1) (.cells (sC 0 0 0 0 false 0 none 0 0 none 0 0 0 0 false none 0 0).toArray 84) :: Blk (g + 1) (.cells (sC 0 0 0 0 false 0 none 0 0 none 0 0 0 0 false none 0 0).toArray 84) :: Blk g (.cells (cHO o).toArray 32) :: L) h hm1 hok hl).mono ?_
  rintro e w2 ⟨rfl, h', hg', ha', hok', hm2⟩
  obtain ⟨a, b, d, hr, hr2⟩ := makeR_parts h.abs true 2 7
  rw [hr]
  replace hr := Fact.mk hr
  replace hr2 := Fact.mk hr2
  go_wp2_with (first | (refine wp_setat rfl 27 _ _ rfl (g + 1 + 1) 0 rfl 84 _ [.int .i64 a, .int .i64 b] (sC a b 0 0 false 0 none 0 0 none 0 0 0 0 false none 0 0) (.agg #[.int .i64 a, .int .i64 b]) rfl rfl hm2.swap sz_V (by simp [sC, obC]) (cV_one (a, b)) rfl ?_; intro w3 hs3) | (refine wp_setat rfl 4 _ _ rfl (g + 1 + 1) 4 rfl 84 _ [.bool d] (sC a b 0 0 d 0 none 0 0 none 0 0 0 0 false none 0 0) (.bool d) rfl rfl hs3 sz_bool (by simp [sC, obC]) (one_one rfl) rfl ?_; intro w4 hs4) | (refine wp_rng rfl 84 _ rfl (g + 1 + 1) 0 rfl (sC a b 0 0 d 0 none 0 0 none 0 0 0 0 false none 0 0) (rng_blk hs4 m0) row_S sz_S ?_) | (refine wp_setrow rfl 84 _ _ rfl (g + 1) rfl 84 _ (sC a b 0 0 d 0 none 0 0 none 0 0 0 0 false none 0 0) rfl hs4.pull2 sz_S rfl (sC_one _ _ _ _ _ _ _ _ _ _ _ _ _ _ _ _ _ _) ?_; intro w5 hs5))
  have hz := hs5.tail.tail.drop2
  refine bodyPost_ret (Mm.res_cell rfl _ (g + 1) 84 (sC a b 0 0 d 0 none 0 0 none 0 0 0 0 false none 0 0) (0, 0) rfl hs5 m0 row_S sz_S) rfl ?_
  rw [hr2.out]
  exact ⟨_, rfl, h', hg', ha', hok', SdQ.plain a b 0 0 d hz⟩
theorem askP_chan (w0 w : World) (L : List Chunk) (h : Hp) (hm : Mem w0 w (HpC h :: L)) (hok : Fact h.Ok) (o : HOp) (hl : h.ths.length < 16777216) :
    Calls Try.prog 77 #[.pointer (some ⟨h.g, 0, none⟩), .int .i64 6, .agg (cHO o).toArray] w fun e w' => ∃ v, e = .returned v ∧ AskQ w0 L h.g (h.abs.make (decide (1 ≤ o.M) && decide (o.M ≤ 64)) (2 + o.M) ⟨9, [], [], 0, o.M, false⟩) (h.abs.makeV (decide (1 ≤ o.M) && decide (o.M ≤ 64)) (2 + o.M) 9) v w' := by
  go_enter Try.func77, Try.ntmps77
  go_upto_region 2 with (fail)
  have hm1 := ((hm.alloc (.cells (cHO o).toArray 32)).alloc (.cells (sC 0 0 0 0 false 0 none 0 0 none 0 0 0 0 false none 0 0).toArray 84)).alloc (.cells (sC 0 0 0 0 false 0 none 0 0 none 0 0 0 0 false none 0 0).toArray 84)
  simp only [World.size_alloc] at hm1
  generalize hgb : w.heap.size = g at hm1 ⊢
  generalize hw1 : ((w.alloc (.cells (cHO o).toArray 32)).alloc (.cells (sC 0 0 0 0 false 0 none 0 0 none 0 0 0 0 false none 0 0).toArray 84)).alloc (.cells (sC 0 0 0 0 false 0 none 0 0 none 0 0 0 0 false none 0 0).toArray 84) = w1 at hm1
  try refine wp_world hw1 ?_
  clear hw1 hgb
  replace hm1 := hm1.pull3
  have x7 := hm1.cell m3 7 rfl
  go_wp2_with fail
  refine (chan_ok w0 w1 (Blk (g + 1 + 1) (.cells (sC 0 0 0 0 false 0 none 0 0 none 0 0 0 0 false none 0 0).toArray 84) :: Blk (g + 1) (.cells (sC 0 0 0 0 false 0 none 0 0 none 0 0 0 0 false none 0 0).toArray 84) :: Blk g (.cells (cHO o).toArray 32) :: L) h hm1 hok o.M hl).mono ?_
  rintro e w2 ⟨rfl, h', hg', ha', hok', hm2⟩
  obtain ⟨a, b, d, hr, hr2⟩ := makeR_parts h.abs (decide (1 ≤ o.M) && decide (o.M ≤ 64)) (2 + o.M) 9
  rw [hr]
  replace hr := Fact.mk hr
  replace hr2 := Fact.mk hr2
  go_wp2_with (first | (refine wp_setat rfl 27 _ _ rfl (g + 1 + 1) 0 rfl 84 _ [.int .i64 a, .int .i64 b] (sC a b 0 0 false 0 none 0 0 none 0 0 0 0 false none 0 0) (.agg #[.int .i64 a, .int .i64 b]) rfl rfl hm2.swap sz_V (by simp [sC, obC]) (cV_one (a, b)) rfl ?_; intro w3 hs3) | (refine wp_setat rfl 4 _ _ rfl (g + 1 + 1) 4 rfl 84 _ [.bool d] (sC a b 0 0 d 0 none 0 0 none 0 0 0 0 false none 0 0) (.bool d) rfl rfl hs3 sz_bool (by simp [sC, obC]) (one_one rfl) rfl ?_; intro w4 hs4) | (refine wp_rng rfl 84 _ rfl (g + 1 + 1) 0 rfl (sC a b 0 0 d 0 none 0 0 none 0 0 0 0 false none 0 0) (rng_blk hs4 m0) row_S sz_S ?_) | (refine wp_setrow rfl 84 _ _ rfl (g + 1) rfl 84 _ (sC a b 0 0 d 0 none 0 0 none 0 0 0 0 false none 0 0) rfl hs4.pull2 sz_S rfl (sC_one _ _ _ _ _ _ _ _ _ _ _ _ _ _ _ _ _ _) ?_; intro w5 hs5))
  have hz := hs5.tail.tail.drop2
  refine bodyPost_ret (Mm.res_cell rfl _ (g + 1) 84 (sC a b 0 0 d 0 none 0 0 none 0 0 0 0 false none 0 0) (0, 0) rfl hs5 m0 row_S sz_S) rfl ?_
  rw [hr2.out]
  exact ⟨_, rfl, h', hg', ha', hok', SdQ.plain a b 0 0 d hz⟩
theorem askP_object (w0 w : World) (L : List Chunk) (h : Hp) (hm : Mem w0 w (HpC h :: L)) (hok : Fact h.Ok) (o : HOp) :
    Calls Try.prog 77 #[.pointer (some ⟨h.g, 0, none⟩), .int .i64 2, .agg (cHO o).toArray] w fun e w' => ∃ v, e = .returned v ∧ AskQ w0 L h.g (h.abs) (⟨(0, 0), 0, 0, h.abs.is o.M, h.abs.at o.M, []⟩) v w' := by
  go_enter Try.func77, Try.ntmps77
  go_upto_region 2 with (fail)
  have hm1 := ((hm.alloc (.cells (cHO o).toArray 32)).alloc (.cells (sC 0 0 0 0 false 0 none 0 0 none 0 0 0 0 false none 0 0).toArray 84)).alloc (.cells (sC 0 0 0 0 false 0 none 0 0 none 0 0 0 0 false none 0 0).toArray 84)
  simp only [World.size_alloc] at hm1
  generalize hgb : w.heap.size = g at hm1 ⊢
  generalize hw1 : ((w.alloc (.cells (cHO o).toArray 32)).alloc (.cells (sC 0 0 0 0 false 0 none 0 0 none 0 0 0 0 false none 0 0).toArray 84)).alloc (.cells (sC 0 0 0 0 false 0 none 0 0 none 0 0 0 0 false none 0 0).toArray 84) = w1 at hm1
  try refine wp_world hw1 ?_
  clear hw1 hgb
  replace hm1 := hm1.pull3
  have x7 := hm1.cell m3 7 rfl
  go_wp2_with fail
  refine (object_ok w0 w1 (Blk (g + 1 + 1) (.cells (sC 0 0 0 0 false 0 none 0 0 none 0 0 0 0 false none 0 0).toArray 84) :: Blk (g + 1) (.cells (sC 0 0 0 0 false 0 none 0 0 none 0 0 0 0 false none 0 0).toArray 84) :: Blk g (.cells (cHO o).toArray 32) :: L) h hm1 hok o.M).mono ?_
  rintro e w2 ⟨v, rfl, A2, d2, K2, k2, rfl, hm2⟩
  obtain ⟨ob, hob⟩ : ∃ ob, ob = h.abs.at o.M := ⟨_, rfl⟩
  obtain ⟨is, his⟩ : ∃ is, is = h.abs.is o.M := ⟨_, rfl⟩
  rw [← hob] at hm2 ⊢
  rw [← his]
  replace hob := Fact.mk hob
  replace his := Fact.mk his
  go_wp2_with (first | (refine wp_setat rfl 71 _ _ rfl (g + 1 + 1) 5 rfl 84 _ (obC ob.kind A2 ob.items.length d2 K2 ob.keys.length k2 ob.fn ob.cap ob.shut) (sC 0 0 0 0 false ob.kind A2 ob.items.length d2 K2 ob.keys.length k2 ob.fn ob.cap ob.shut none 0 0) (.agg (obC ob.kind A2 ob.items.length d2 K2 ob.keys.length k2 ob.fn ob.cap ob.shut).toArray) rfl rfl hm2.pull3 sz_O (by simp [sC, obC]) (obC_one _ _ _ _ _ _ _ _ _ _) rfl ?_; intro w3 hs3) | (refine wp_setat rfl 4 _ _ rfl (g + 1 + 1) 4 rfl 84 _ [.bool is] (sC 0 0 0 0 is ob.kind A2 ob.items.length d2 K2 ob.keys.length k2 ob.fn ob.cap ob.shut none 0 0) (.bool is) rfl rfl hs3 sz_bool (by simp [sC, obC]) (one_one rfl) rfl ?_; intro w4 hs4) | (refine wp_rng rfl 84 _ rfl (g + 1 + 1) 0 rfl (sC 0 0 0 0 is ob.kind A2 ob.items.length d2 K2 ob.keys.length k2 ob.fn ob.cap ob.shut none 0 0) (rng_blk hs4 m0) row_S sz_S ?_) | (refine wp_setrow rfl 84 _ _ rfl (g + 1) rfl 84 _ (sC 0 0 0 0 is ob.kind A2 ob.items.length d2 K2 ob.keys.length k2 ob.fn ob.cap ob.shut none 0 0) rfl hs4.pull4 sz_S rfl (sC_one _ _ _ _ _ _ _ _ _ _ _ _ _ _ _ _ _ _) ?_; intro w5 hs5))
  have hz := hs5.tail.tail.sub (List.Sublist.cons_cons _ (List.Sublist.cons_cons _ (List.Sublist.cons_cons _ (List.sublist_cons_self _ _))))
  refine bodyPost_ret (Mm.res_cell rfl _ (g + 1) 84 (sC 0 0 0 0 is ob.kind A2 ob.items.length d2 K2 ob.keys.length k2 ob.fn ob.cap ob.shut none 0 0) (0, 0) rfl hs5 m0 row_S sz_S) rfl ?_
  rw [← hob.out, ← his.out]
  exact ⟨_, rfl, h, rfl, rfl, hok.out, A2, d2, K2, k2, none, 0, rfl, (Mem.nil hz 1 none).back2⟩
end Go.Proofs.Ytpibchjkmaghnaa
