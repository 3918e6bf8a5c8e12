/- Lemmas for the row HeapStillRow (contracts of functions, laws of memory). Conditions: those that each lemma states. -/
import Derived.Test.YtpibchjkmaghnaaHSa
import Derived.Test.YtpibchjkmaghnaaHSb
import Derived.Test.YtpibchjkmaghnaaHSc
import Derived.Test.YtpibchjkmaghnaaHSd
namespace Go.Proofs.Ytpibchjkmaghnaa
open Go.RowKit Go.Mm
set_option maxHeartbeats 4000000
set_option maxRecDepth 100000
set_option linter.unusedSimpArgs false
theorem told_get (w0 w : World) (L : List Chunk) (h : Rf) (hm : Mem w0 w (RfC h :: L)) (hok : Fact h.Ok) (o : HOp) (hg : Fact h.abs.Good) :
    Calls Try.prog 75 #[.pointer (some ⟨h.g, 0, none⟩), .int .i64 7, .agg (cHO o).toArray] w fun e w' => ∃ v, e = .returned v ∧ TellQ w0 L h.g (h.abs) (sdV (getV h.abs o.v o.I) 0 (getT h.abs o.v o.I) false) v w' := by
  go_enter Try.func75, Try.ntmps75
  go_upto_region 2 with (fail)
  have hm1 := ((hm.alloc (.cells (cHO o).toArray 32)).alloc (.cells (sC 0 0 0 0 false 0 none 0 0 none 0 0 0 0 false none 0 0).toArray 84)).alloc (.cells (sC 0 0 0 0 false 0 none 0 0 none 0 0 0 0 false none 0 0).toArray 84)
  simp only [World.size_alloc] at hm1
  generalize hgb : w.heap.size = g at hm1 ⊢
  generalize hw1 : ((w.alloc (.cells (cHO o).toArray 32)).alloc (.cells (sC 0 0 0 0 false 0 none 0 0 none 0 0 0 0 false none 0 0).toArray 84)).alloc (.cells (sC 0 0 0 0 false 0 none 0 0 none 0 0 0 0 false none 0 0).toArray 84) = w1 at hm1
  try refine wp_world hw1 ?_
  clear hw1 hgb
  replace hm1 := hm1.pull3
  have x2 := hm1.cell m3 2 rfl
  have x3 := hm1.cell m3 3 rfl
  have x6 := hm1.cell m3 6 rfl
  go_wp2_with (first | (refine wp_rng rfl 27 _ rfl g 2 rfl (cV o.v) (rng2 x2 x3) row_V sz_V ?_))
  refine (refGet_ok w0 w1 (Blk (g + 1 + 1) (.cells (sC 0 0 0 0 false 0 none 0 0 none 0 0 0 0 false none 0 0).toArray 84) :: Blk (g + 1) (.cells (sC 0 0 0 0 false 0 none 0 0 none 0 0 0 0 false none 0 0).toArray 84) :: Blk g (.cells (cHO o).toArray 32) :: L) h hm1 hok hg o.v.1 o.v.2 o.I).mono ?_
  rintro e w2 ⟨rfl, hm2⟩
  rw [show ((o.v.1, o.v.2) : V2) = o.v from rfl]
  obtain ⟨gv, hgv⟩ : ∃ z, z = getV h.abs o.v o.I := ⟨_, rfl⟩
  rw [← hgv]
  replace hgv := Fact.mk hgv
  obtain ⟨gt, hgt⟩ : ∃ z, z = getT h.abs o.v o.I := ⟨_, rfl⟩
  rw [← hgt]
  replace hgt := Fact.mk hgt
  go_wp2_with (first | (refine wp_setat rfl 27 _ _ rfl (g + 1 + 1) 0 rfl 84 _ [.int .i64 gv.1, .int .i64 gv.2] (sC gv.1 gv.2 0 0 false 0 none 0 0 none 0 0 0 0 false none 0 0) (.agg #[.int .i64 gv.1, .int .i64 gv.2]) rfl rfl hm2.swap sz_V (by simp [sC, obC]) (cV_one gv) rfl ?_; intro w3 hs3) | (refine wp_setat rfl 3 _ _ rfl (g + 1 + 1) 3 rfl 84 _ [.int .i64 gt] (sC gv.1 gv.2 0 gt false 0 none 0 0 none 0 0 0 0 false none 0 0) (.int .i64 gt) rfl rfl hs3 sz_int (by simp [sC, obC]) (one_one rfl) rfl ?_; intro w4 hs4) | (refine wp_rng rfl 84 _ rfl (g + 1 + 1) 0 rfl (sC gv.1 gv.2 0 gt false 0 none 0 0 none 0 0 0 0 false none 0 0) (rng_blk hs4 m0) row_S sz_S ?_) | (refine wp_setrow rfl 84 _ _ rfl (g + 1) rfl 84 _ (sC gv.1 gv.2 0 gt false 0 none 0 0 none 0 0 0 0 false none 0 0) rfl hs4.pull2 sz_S rfl (sC_one _ _ _ _ _ _ _ _ _ _ _ _ _ _ _ _ _ _) ?_; intro w5 hs5))
  have hz := hs5.tail.tail.drop2
  refine bodyPost_ret (Mm.res_cell rfl _ (g + 1) 84 (sC gv.1 gv.2 0 gt false 0 none 0 0 none 0 0 0 0 false none 0 0) (0, 0) rfl hs5 m0 row_S sz_S) rfl ?_
  rw [← hgv.out]
  rw [← hgt.out]
  exact ⟨_, rfl, h, rfl, rfl, hok.out, SdQ.plain gv.1 gv.2 0 gt false hz⟩
theorem told_set (w0 w : World) (L : List Chunk) (h : Rf) (hm : Mem w0 w (RfC h :: L)) (hok : Fact h.Ok) (o : HOp) (hg : Fact h.abs.Good) :
    Calls Try.prog 75 #[.pointer (some ⟨h.g, 0, none⟩), .int .i64 8, .agg (cHO o).toArray] w fun e w' => ∃ v, e = .returned v ∧ TellQ w0 L h.g (setS h.abs o.v o.I o.x) (sdV (0, 0) 0 (getT h.abs o.v o.I) false) v w' := by
  go_enter Try.func75, Try.ntmps75
  go_upto_region 2 with (fail)
  have hm1 := ((hm.alloc (.cells (cHO o).toArray 32)).alloc (.cells (sC 0 0 0 0 false 0 none 0 0 none 0 0 0 0 false none 0 0).toArray 84)).alloc (.cells (sC 0 0 0 0 false 0 none 0 0 none 0 0 0 0 false none 0 0).toArray 84)
  simp only [World.size_alloc] at hm1
  generalize hgb : w.heap.size = g at hm1 ⊢
  generalize hw1 : ((w.alloc (.cells (cHO o).toArray 32)).alloc (.cells (sC 0 0 0 0 false 0 none 0 0 none 0 0 0 0 false none 0 0).toArray 84)).alloc (.cells (sC 0 0 0 0 false 0 none 0 0 none 0 0 0 0 false none 0 0).toArray 84) = w1 at hm1
  try refine wp_world hw1 ?_
  clear hw1 hgb
  replace hm1 := hm1.pull3
  have x2 := hm1.cell m3 2 rfl
  have x3 := hm1.cell m3 3 rfl
  have x6 := hm1.cell m3 6 rfl
  have x4 := hm1.cell m3 4 rfl
  have x5 := hm1.cell m3 5 rfl
  go_wp2_with (first | (refine wp_rng rfl 27 _ rfl g 2 rfl (cV o.v) (rng2 x2 x3) row_V sz_V ?_) | (refine wp_rng rfl 27 _ rfl g 4 rfl (cV o.x) (rng2 x4 x5) row_V sz_V ?_))
  refine (refSet_ok w0 w1 (Blk (g + 1 + 1) (.cells (sC 0 0 0 0 false 0 none 0 0 none 0 0 0 0 false none 0 0).toArray 84) :: Blk (g + 1) (.cells (sC 0 0 0 0 false 0 none 0 0 none 0 0 0 0 false none 0 0).toArray 84) :: Blk g (.cells (cHO o).toArray 32) :: L) h hm1 hok hg o.v.1 o.v.2 o.I o.x.1 o.x.2).mono ?_
  rintro e w2 ⟨rfl, h', hg', ha', hok', hm2⟩
  rw [show ((o.v.1, o.v.2) : V2) = o.v from rfl]
  obtain ⟨gt, hgt⟩ : ∃ z, z = getT h.abs o.v o.I := ⟨_, rfl⟩
  rw [← hgt]
  replace hgt := Fact.mk hgt
  go_wp2_with (first | (refine wp_setat rfl 3 _ _ rfl (g + 1 + 1) 3 rfl 84 _ [.int .i64 gt] (sC 0 0 0 gt false 0 none 0 0 none 0 0 0 0 false none 0 0) (.int .i64 gt) rfl rfl hm2.swap sz_int (by simp [sC, obC]) (one_one rfl) rfl ?_; intro w3 hs3) | (refine wp_rng rfl 84 _ rfl (g + 1 + 1) 0 rfl (sC 0 0 0 gt false 0 none 0 0 none 0 0 0 0 false none 0 0) (rng_blk hs3 m0) row_S sz_S ?_) | (refine wp_setrow rfl 84 _ _ rfl (g + 1) rfl 84 _ (sC 0 0 0 gt false 0 none 0 0 none 0 0 0 0 false none 0 0) rfl hs3.pull2 sz_S rfl (sC_one _ _ _ _ _ _ _ _ _ _ _ _ _ _ _ _ _ _) ?_; intro w4 hs4))
  have hz := hs4.tail.tail.drop2
  refine bodyPost_ret (Mm.res_cell rfl _ (g + 1) 84 (sC 0 0 0 gt false 0 none 0 0 none 0 0 0 0 false none 0 0) (0, 0) rfl hs4 m0 row_S sz_S) rfl ?_
  rw [← hgt.out]
  exact ⟨_, rfl, h', hg', ha', hok', SdQ.plain 0 0 0 gt false hz⟩
theorem told_push (w0 w : World) (L : List Chunk) (h : Rf) (hm : Mem w0 w (RfC h :: L)) (hok : Fact h.Ok) (o : HOp) (hg : Fact h.abs.Good) :
    Calls Try.prog 75 #[.pointer (some ⟨h.g, 0, none⟩), .int .i64 9, .agg (cHO o).toArray] w fun e w' => ∃ v, e = .returned v ∧ TellQ w0 L h.g (pushS h.abs o.v o.x) (sdV (0, 0) 0 (pushT h.abs o.v) (pushB h.abs o.v)) v w' := by
  go_enter Try.func75, Try.ntmps75
  go_upto_region 2 with (fail)
  have hm1 := ((hm.alloc (.cells (cHO o).toArray 32)).alloc (.cells (sC 0 0 0 0 false 0 none 0 0 none 0 0 0 0 false none 0 0).toArray 84)).alloc (.cells (sC 0 0 0 0 false 0 none 0 0 none 0 0 0 0 false none 0 0).toArray 84)
  simp only [World.size_alloc] at hm1
  generalize hgb : w.heap.size = g at hm1 ⊢
  generalize hw1 : ((w.alloc (.cells (cHO o).toArray 32)).alloc (.cells (sC 0 0 0 0 false 0 none 0 0 none 0 0 0 0 false none 0 0).toArray 84)).alloc (.cells (sC 0 0 0 0 false 0 none 0 0 none 0 0 0 0 false none 0 0).toArray 84) = w1 at hm1
  try refine wp_world hw1 ?_
  clear hw1 hgb
  replace hm1 := hm1.pull3
  have x2 := hm1.cell m3 2 rfl
  have x3 := hm1.cell m3 3 rfl
  have x4 := hm1.cell m3 4 rfl
  have x5 := hm1.cell m3 5 rfl
  go_wp2_with (first | (refine wp_rng rfl 27 _ rfl g 2 rfl (cV o.v) (rng2 x2 x3) row_V sz_V ?_) | (refine wp_rng rfl 27 _ rfl g 4 rfl (cV o.x) (rng2 x4 x5) row_V sz_V ?_))
  refine (refPush_ok w0 w1 (Blk (g + 1 + 1) (.cells (sC 0 0 0 0 false 0 none 0 0 none 0 0 0 0 false none 0 0).toArray 84) :: Blk (g + 1) (.cells (sC 0 0 0 0 false 0 none 0 0 none 0 0 0 0 false none 0 0).toArray 84) :: Blk g (.cells (cHO o).toArray 32) :: L) h hm1 hok hg o.v.1 o.v.2 o.x.1 o.x.2).mono ?_
  rintro e w2 ⟨rfl, h', hg', ha', hok', hm2⟩
  rw [show ((o.v.1, o.v.2) : V2) = o.v from rfl]
  obtain ⟨gt, hgt⟩ : ∃ z, z = pushT h.abs o.v := ⟨_, rfl⟩
  rw [← hgt]
  replace hgt := Fact.mk hgt
  obtain ⟨gb, hgb⟩ : ∃ z, z = pushB h.abs o.v := ⟨_, rfl⟩
  rw [← hgb]
  replace hgb := Fact.mk hgb
  go_wp2_with (first | (refine wp_setat rfl 3 _ _ rfl (g + 1 + 1) 3 rfl 84 _ [.int .i64 gt] (sC 0 0 0 gt false 0 none 0 0 none 0 0 0 0 false none 0 0) (.int .i64 gt) rfl rfl hm2.swap sz_int (by simp [sC, obC]) (one_one rfl) rfl ?_; intro w3 hs3) | (refine wp_setat rfl 4 _ _ rfl (g + 1 + 1) 4 rfl 84 _ [.bool gb] (sC 0 0 0 gt gb 0 none 0 0 none 0 0 0 0 false none 0 0) (.bool gb) rfl rfl hs3 sz_bool (by simp [sC, obC]) (one_one rfl) rfl ?_; intro w4 hs4) | (refine wp_rng rfl 84 _ rfl (g + 1 + 1) 0 rfl (sC 0 0 0 gt gb 0 none 0 0 none 0 0 0 0 false none 0 0) (rng_blk hs4 m0) row_S sz_S ?_) | (refine wp_setrow rfl 84 _ _ rfl (g + 1) rfl 84 _ (sC 0 0 0 gt gb 0 none 0 0 none 0 0 0 0 false none 0 0) rfl hs4.pull2 sz_S rfl (sC_one _ _ _ _ _ _ _ _ _ _ _ _ _ _ _ _ _ _) ?_; intro w5 hs5))
  have hz := hs5.tail.tail.drop2
  refine bodyPost_ret (Mm.res_cell rfl _ (g + 1) 84 (sC 0 0 0 gt gb 0 none 0 0 none 0 0 0 0 false none 0 0) (0, 0) rfl hs5 m0 row_S sz_S) rfl ?_
  rw [← hgt.out]
  rw [← hgb.out]
  exact ⟨_, rfl, h', hg', ha', hok', SdQ.plain 0 0 0 gt gb hz⟩
theorem told_size (w0 w : World) (L : List Chunk) (h : Rf) (hm : Mem w0 w (RfC h :: L)) (hok : Fact h.Ok) (o : HOp) (hg : Fact h.abs.Good) :
    Calls Try.prog 75 #[.pointer (some ⟨h.g, 0, none⟩), .int .i64 10, .agg (cHO o).toArray] w fun e w' => ∃ v, e = .returned v ∧ TellQ w0 L h.g (h.abs) (sdV (0, 0) (sizeN h.abs o.v) (sizeT h.abs o.v) false) v w' := by
  go_enter Try.func75, Try.ntmps75
  go_upto_region 2 with (fail)
  have hm1 := ((hm.alloc (.cells (cHO o).toArray 32)).alloc (.cells (sC 0 0 0 0 false 0 none 0 0 none 0 0 0 0 false none 0 0).toArray 84)).alloc (.cells (sC 0 0 0 0 false 0 none 0 0 none 0 0 0 0 false none 0 0).toArray 84)
  simp only [World.size_alloc] at hm1
  generalize hgb : w.heap.size = g at hm1 ⊢
  generalize hw1 : ((w.alloc (.cells (cHO o).toArray 32)).alloc (.cells (sC 0 0 0 0 false 0 none 0 0 none 0 0 0 0 false none 0 0).toArray 84)).alloc (.cells (sC 0 0 0 0 false 0 none 0 0 none 0 0 0 0 false none 0 0).toArray 84) = w1 at hm1
  try refine wp_world hw1 ?_
  clear hw1 hgb
  replace hm1 := hm1.pull3
  have x2 := hm1.cell m3 2 rfl
  have x3 := hm1.cell m3 3 rfl
  go_wp2_with (first | (refine wp_rng rfl 27 _ rfl g 2 rfl (cV o.v) (rng2 x2 x3) row_V sz_V ?_))
  refine (refSize_ok w0 w1 (Blk (g + 1 + 1) (.cells (sC 0 0 0 0 false 0 none 0 0 none 0 0 0 0 false none 0 0).toArray 84) :: Blk (g + 1) (.cells (sC 0 0 0 0 false 0 none 0 0 none 0 0 0 0 false none 0 0).toArray 84) :: Blk g (.cells (cHO o).toArray 32) :: L) h hm1 hok hg o.v.1 o.v.2).mono ?_
  rintro e w2 ⟨rfl, hm2⟩
  rw [show ((o.v.1, o.v.2) : V2) = o.v from rfl]
  obtain ⟨gn, hgn⟩ : ∃ z, z = sizeN h.abs o.v := ⟨_, rfl⟩
  rw [← hgn]
  replace hgn := Fact.mk hgn
  obtain ⟨gt, hgt⟩ : ∃ z, z = sizeT h.abs o.v := ⟨_, rfl⟩
  rw [← hgt]
  replace hgt := Fact.mk hgt
  go_wp2_with (first | (refine wp_setat rfl 2 _ _ rfl (g + 1 + 1) 2 rfl 84 _ [.int .i64 gn] (sC 0 0 gn 0 false 0 none 0 0 none 0 0 0 0 false none 0 0) (.int .i64 gn) rfl rfl hm2.swap sz_i64 (by simp [sC, obC]) (one_one rfl) rfl ?_; intro w3 hs3) | (refine wp_setat rfl 3 _ _ rfl (g + 1 + 1) 3 rfl 84 _ [.int .i64 gt] (sC 0 0 gn gt false 0 none 0 0 none 0 0 0 0 false none 0 0) (.int .i64 gt) rfl rfl hs3 sz_int (by simp [sC, obC]) (one_one rfl) rfl ?_; intro w4 hs4) | (refine wp_rng rfl 84 _ rfl (g + 1 + 1) 0 rfl (sC 0 0 gn gt false 0 none 0 0 none 0 0 0 0 false none 0 0) (rng_blk hs4 m0) row_S sz_S ?_) | (refine wp_setrow rfl 84 _ _ rfl (g + 1) rfl 84 _ (sC 0 0 gn gt false 0 none 0 0 none 0 0 0 0 false none 0 0) rfl hs4.pull2 sz_S rfl (sC_one _ _ _ _ _ _ _ _ _ _ _ _ _ _ _ _ _ _) ?_; intro w5 hs5))
  have hz := hs5.tail.tail.drop2
  refine bodyPost_ret (Mm.res_cell rfl _ (g + 1) 84 (sC 0 0 gn gt false 0 none 0 0 none 0 0 0 0 false none 0 0) (0, 0) rfl hs5 m0 row_S sz_S) rfl ?_
  rw [← hgn.out]
  rw [← hgt.out]
  exact ⟨_, rfl, h, rfl, rfl, hok.out, SdQ.plain 0 0 gn gt false hz⟩
theorem tellM_field (w0 w : World) (L : List Chunk) (h : Rf) (hm : Mem w0 w (RfC h :: L)) (hok : Fact h.Ok) (o : HOp) (hg : Fact h.abs.Good) :
    Calls Try.prog 96 #[.pointer (some ⟨h.g, 0, none⟩), .int .i64 11, .agg (cHO o).toArray] w fun e w' => ∃ v, e = .returned v ∧ TellQ w0 L h.g (h.abs) (sdV (fieldV h.abs o.v o.I) 0 (fieldT h.abs o.v o.I) false) v w' := by
  go_enter Try.func96, Try.ntmps96
  go_upto_region 2 with (fail)
  have hm1 := ((hm.alloc (.cells (cHO o).toArray 32)).alloc (.cells (sC 0 0 0 0 false 0 none 0 0 none 0 0 0 0 false none 0 0).toArray 84)).alloc (.cells (sC 0 0 0 0 false 0 none 0 0 none 0 0 0 0 false none 0 0).toArray 84)
  simp only [World.size_alloc] at hm1
  generalize hgb : w.heap.size = g at hm1 ⊢
  generalize hw1 : ((w.alloc (.cells (cHO o).toArray 32)).alloc (.cells (sC 0 0 0 0 false 0 none 0 0 none 0 0 0 0 false none 0 0).toArray 84)).alloc (.cells (sC 0 0 0 0 false 0 none 0 0 none 0 0 0 0 false none 0 0).toArray 84) = w1 at hm1
  try refine wp_world hw1 ?_
  clear hw1 hgb
  replace hm1 := hm1.pull3
  have x2 := hm1.cell m3 2 rfl
  have x3 := hm1.cell m3 3 rfl
  have x6 := hm1.cell m3 6 rfl
  go_wp2_with (first | (refine wp_rng rfl 27 _ rfl g 2 rfl (cV o.v) (rng2 x2 x3) row_V sz_V ?_))
  refine (refField_ok w0 w1 (Blk (g + 1 + 1) (.cells (sC 0 0 0 0 false 0 none 0 0 none 0 0 0 0 false none 0 0).toArray 84) :: Blk (g + 1) (.cells (sC 0 0 0 0 false 0 none 0 0 none 0 0 0 0 false none 0 0).toArray 84) :: Blk g (.cells (cHO o).toArray 32) :: L) h hm1 hok hg o.v.1 o.v.2 o.I).mono ?_
  rintro e w2 ⟨rfl, hm2⟩
  rw [show ((o.v.1, o.v.2) : V2) = o.v from rfl]
  obtain ⟨gv, hgv⟩ : ∃ z, z = fieldV h.abs o.v o.I := ⟨_, rfl⟩
  rw [← hgv]
  replace hgv := Fact.mk hgv
  obtain ⟨gt, hgt⟩ : ∃ z, z = fieldT h.abs o.v o.I := ⟨_, rfl⟩
  rw [← hgt]
  replace hgt := Fact.mk hgt
  go_wp2_with (first | (refine wp_setat rfl 27 _ _ rfl (g + 1 + 1) 0 rfl 84 _ [.int .i64 gv.1, .int .i64 gv.2] (sC gv.1 gv.2 0 0 false 0 none 0 0 none 0 0 0 0 false none 0 0) (.agg #[.int .i64 gv.1, .int .i64 gv.2]) rfl rfl hm2.swap sz_V (by simp [sC, obC]) (cV_one gv) rfl ?_; intro w3 hs3) | (refine wp_setat rfl 3 _ _ rfl (g + 1 + 1) 3 rfl 84 _ [.int .i64 gt] (sC gv.1 gv.2 0 gt false 0 none 0 0 none 0 0 0 0 false none 0 0) (.int .i64 gt) rfl rfl hs3 sz_int (by simp [sC, obC]) (one_one rfl) rfl ?_; intro w4 hs4) | (refine wp_rng rfl 84 _ rfl (g + 1 + 1) 0 rfl (sC gv.1 gv.2 0 gt false 0 none 0 0 none 0 0 0 0 false none 0 0) (rng_blk hs4 m0) row_S sz_S ?_) | (refine wp_setrow rfl 84 _ _ rfl (g + 1) rfl 84 _ (sC gv.1 gv.2 0 gt false 0 none 0 0 none 0 0 0 0 false none 0 0) rfl hs4.pull2 sz_S rfl (sC_one _ _ _ _ _ _ _ _ _ _ _ _ _ _ _ _ _ _) ?_; intro w5 hs5))
  have hz := hs5.tail.tail.drop2
  refine bodyPost_ret (Mm.res_cell rfl _ (g + 1) 84 (sC gv.1 gv.2 0 gt false 0 none 0 0 none 0 0 0 0 false none 0 0) (0, 0) rfl hs5 m0 row_S sz_S) rfl ?_
  rw [← hgv.out]
  rw [← hgt.out]
  exact ⟨_, rfl, h, rfl, rfl, hok.out, SdQ.plain gv.1 gv.2 0 gt false hz⟩
theorem tellM_setf (w0 w : World) (L : List Chunk) (h : Rf) (hm : Mem w0 w (RfC h :: L)) (hok : Fact h.Ok) (o : HOp) (hg : Fact h.abs.Good) :
    Calls Try.prog 96 #[.pointer (some ⟨h.g, 0, none⟩), .int .i64 12, .agg (cHO o).toArray] w fun e w' => ∃ v, e = .returned v ∧ TellQ w0 L h.g (setFS h.abs o.v o.I o.x) (sdV (0, 0) 0 (setFT h.abs o.v o.I) (setFB h.abs o.v o.I)) v w' := by
  go_enter Try.func96, Try.ntmps96
  go_upto_region 2 with (fail)
  have hm1 := ((hm.alloc (.cells (cHO o).toArray 32)).alloc (.cells (sC 0 0 0 0 false 0 none 0 0 none 0 0 0 0 false none 0 0).toArray 84)).alloc (.cells (sC 0 0 0 0 false 0 none 0 0 none 0 0 0 0 false none 0 0).toArray 84)
  simp only [World.size_alloc] at hm1
  generalize hgb : w.heap.size = g at hm1 ⊢
  generalize hw1 : ((w.alloc (.cells (cHO o).toArray 32)).alloc (.cells (sC 0 0 0 0 false 0 none 0 0 none 0 0 0 0 false none 0 0).toArray 84)).alloc (.cells (sC 0 0 0 0 false 0 none 0 0 none 0 0 0 0 false none 0 0).toArray 84) = w1 at hm1
  try refine wp_world hw1 ?_
  clear hw1 hgb
  replace hm1 := hm1.pull3
  have x2 := hm1.cell m3 2 rfl
  have x3 := hm1.cell m3 3 rfl
  have x6 := hm1.cell m3 6 rfl
  have x4 := hm1.cell m3 4 rfl
  have x5 := hm1.cell m3 5 rfl
  go_wp2_with (first | (refine wp_rng rfl 27 _ rfl g 2 rfl (cV o.v) (rng2 x2 x3) row_V sz_V ?_) | (refine wp_rng rfl 27 _ rfl g 4 rfl (cV o.x) (rng2 x4 x5) row_V sz_V ?_))
  refine (refSetF_ok w0 w1 (Blk (g + 1 + 1) (.cells (sC 0 0 0 0 false 0 none 0 0 none 0 0 0 0 false none 0 0).toArray 84) :: Blk (g + 1) (.cells (sC 0 0 0 0 false 0 none 0 0 none 0 0 0 0 false none 0 0).toArray 84) :: Blk g (.cells (cHO o).toArray 32) :: L) h hm1 hok hg o.v.1 o.v.2 o.I o.x.1 o.x.2).mono ?_
  rintro e w2 ⟨rfl, h', hg', ha', hok', hm2⟩
  rw [show ((o.v.1, o.v.2) : V2) = o.v from rfl]
  obtain ⟨gt, hgt⟩ : ∃ z, z = setFT h.abs o.v o.I := ⟨_, rfl⟩
  rw [← hgt]
  replace hgt := Fact.mk hgt
  obtain ⟨gb, hgb⟩ : ∃ z, z = setFB h.abs o.v o.I := ⟨_, rfl⟩
  rw [← hgb]
  replace hgb := Fact.mk hgb
  go_wp2_with (first | (refine wp_setat rfl 3 _ _ rfl (g + 1 + 1) 3 rfl 84 _ [.int .i64 gt] (sC 0 0 0 gt false 0 none 0 0 none 0 0 0 0 false none 0 0) (.int .i64 gt) rfl rfl hm2.swap sz_int (by simp [sC, obC]) (one_one rfl) rfl ?_; intro w3 hs3) | (refine wp_setat rfl 4 _ _ rfl (g + 1 + 1) 4 rfl 84 _ [.bool gb] (sC 0 0 0 gt gb 0 none 0 0 none 0 0 0 0 false none 0 0) (.bool gb) rfl rfl hs3 sz_bool (by simp [sC, obC]) (one_one rfl) rfl ?_; intro w4 hs4) | (refine wp_rng rfl 84 _ rfl (g + 1 + 1) 0 rfl (sC 0 0 0 gt gb 0 none 0 0 none 0 0 0 0 false none 0 0) (rng_blk hs4 m0) row_S sz_S ?_) | (refine wp_setrow rfl 84 _ _ rfl (g + 1) rfl 84 _ (sC 0 0 0 gt gb 0 none 0 0 none 0 0 0 0 false none 0 0) rfl hs4.pull2 sz_S rfl (sC_one _ _ _ _ _ _ _ _ _ _ _ _ _ _ _ _ _ _) ?_; intro w5 hs5))
  have hz := hs5.tail.tail.drop2
  refine bodyPost_ret (Mm.res_cell rfl _ (g + 1) 84 (sC 0 0 0 gt gb 0 none 0 0 none 0 0 0 0 false none 0 0) (0, 0) rfl hs5 m0 row_S sz_S) rfl ?_
  rw [← hgt.out]
  rw [← hgb.out]
  exact ⟨_, rfl, h', hg', ha', hok', SdQ.plain 0 0 0 gt gb hz⟩
theorem tellM_has (w0 w : World) (L : List Chunk) (h : Rf) (hm : Mem w0 w (RfC h :: L)) (hok : Fact h.Ok) (o : HOp) (hg : Fact h.abs.Good) :
    Calls Try.prog 96 #[.pointer (some ⟨h.g, 0, none⟩), .int .i64 13, .agg (cHO o).toArray] w fun e w' => ∃ v, e = .returned v ∧ TellQ w0 L h.g (h.abs) (sdV (0, 0) 0 (hasT h.abs o.v) (hasB h.abs o.v o.I)) v w' := by
  go_enter Try.func96, Try.ntmps96
  go_upto_region 2 with (fail)
  have hm1 := ((hm.alloc (.cells (cHO o).toArray 32)).alloc (.cells (sC 0 0 0 0 false 0 none 0 0 none 0 0 0 0 false none 0 0).toArray 84)).alloc (.cells (sC 0 0 0 0 false 0 none 0 0 none 0 0 0 0 false none 0 0).toArray 84)
  simp only [World.size_alloc] at hm1
  generalize hgb : w.heap.size = g at hm1 ⊢
  generalize hw1 : ((w.alloc (.cells (cHO o).toArray 32)).alloc (.cells (sC 0 0 0 0 false 0 none 0 0 none 0 0 0 0 false none 0 0).toArray 84)).alloc (.cells (sC 0 0 0 0 false 0 none 0 0 none 0 0 0 0 false none 0 0).toArray 84) = w1 at hm1
  try refine wp_world hw1 ?_
  clear hw1 hgb
  replace hm1 := hm1.pull3
  have x2 := hm1.cell m3 2 rfl
  have x3 := hm1.cell m3 3 rfl
  have x6 := hm1.cell m3 6 rfl
  go_wp2_with (first | (refine wp_rng rfl 27 _ rfl g 2 rfl (cV o.v) (rng2 x2 x3) row_V sz_V ?_))
  refine (refHas_ok w0 w1 (Blk (g + 1 + 1) (.cells (sC 0 0 0 0 false 0 none 0 0 none 0 0 0 0 false none 0 0).toArray 84) :: Blk (g + 1) (.cells (sC 0 0 0 0 false 0 none 0 0 none 0 0 0 0 false none 0 0).toArray 84) :: Blk g (.cells (cHO o).toArray 32) :: L) h hm1 hok hg o.v.1 o.v.2 o.I).mono ?_
  rintro e w2 ⟨rfl, hm2⟩
  rw [show ((o.v.1, o.v.2) : V2) = o.v from rfl]
  obtain ⟨gb, hgb⟩ : ∃ z, z = hasB h.abs o.v o.I := ⟨_, rfl⟩
  rw [← hgb]
  replace hgb := Fact.mk hgb
  obtain ⟨gt, hgt⟩ : ∃ z, z = hasT h.abs o.v := ⟨_, rfl⟩
  rw [← hgt]
  replace hgt := Fact.mk hgt
  go_wp2_with (first | (refine wp_setat rfl 4 _ _ rfl (g + 1 + 1) 4 rfl 84 _ [.bool gb] (sC 0 0 0 0 gb 0 none 0 0 none 0 0 0 0 false none 0 0) (.bool gb) rfl rfl hm2.swap sz_bool (by simp [sC, obC]) (one_one rfl) rfl ?_; intro w3 hs3) | (refine wp_setat rfl 3 _ _ rfl (g + 1 + 1) 3 rfl 84 _ [.int .i64 gt] (sC 0 0 0 gt gb 0 none 0 0 none 0 0 0 0 false none 0 0) (.int .i64 gt) rfl rfl hs3 sz_int (by simp [sC, obC]) (one_one rfl) rfl ?_; intro w4 hs4) | (refine wp_rng rfl 84 _ rfl (g + 1 + 1) 0 rfl (sC 0 0 0 gt gb 0 none 0 0 none 0 0 0 0 false none 0 0) (rng_blk hs4 m0) row_S sz_S ?_) | (refine wp_setrow rfl 84 _ _ rfl (g + 1) rfl 84 _ (sC 0 0 0 gt gb 0 none 0 0 none 0 0 0 0 false none 0 0) rfl hs4.pull2 sz_S rfl (sC_one _ _ _ _ _ _ _ _ _ _ _ _ _ _ _ _ _ _) ?_; intro w5 hs5))
  have hz := hs5.tail.tail.drop2
  refine bodyPost_ret (Mm.res_cell rfl _ (g + 1) 84 (sC 0 0 0 gt gb 0 none 0 0 none 0 0 0 0 false none 0 0) (0, 0) rfl hs5 m0 row_S sz_S) rfl ?_
  rw [← hgb.out]
  rw [← hgt.out]
  exact ⟨_, rfl, h, rfl, rfl, hok.out, SdQ.plain 0 0 0 gt gb hz⟩
theorem tellM_delete (w0 w : World) (L : List Chunk) (h : Rf) (hm : Mem w0 w (RfC h :: L)) (hok : Fact h.Ok) (o : HOp) (hg : Fact h.abs.Good) :
    Calls Try.prog 96 #[.pointer (some ⟨h.g, 0, none⟩), .int .i64 14, .agg (cHO o).toArray] w fun e w' => ∃ v, e = .returned v ∧ TellQ w0 L h.g (delS h.abs o.v o.I) (sdV (0, 0) 0 (delT h.abs o.v o.I) false) v w' := by
  go_enter Try.func96, Try.ntmps96
  go_upto_region 2 with (fail)
  have hm1 := ((hm.alloc (.cells (cHO o).toArray 32)).alloc (.cells (sC 0 0 0 0 false 0 none 0 0 none 0 0 0 0 false none 0 0).toArray 84)).alloc (.cells (sC 0 0 0 0 false 0 none 0 0 none 0 0 0 0 false none 0 0).toArray 84)
  simp only [World.size_alloc] at hm1
  generalize hgb : w.heap.size = g at hm1 ⊢
  generalize hw1 : ((w.alloc (.cells (cHO o).toArray 32)).alloc (.cells (sC 0 0 0 0 false 0 none 0 0 none 0 0 0 0 false none 0 0).toArray 84)).alloc (.cells (sC 0 0 0 0 false 0 none 0 0 none 0 0 0 0 false none 0 0).toArray 84) = w1 at hm1
  try refine wp_world hw1 ?_
  clear hw1 hgb
  replace hm1 := hm1.pull3
  have x2 := hm1.cell m3 2 rfl
  have x3 := hm1.cell m3 3 rfl
  have x6 := hm1.cell m3 6 rfl
  go_wp2_with (first | (refine wp_rng rfl 27 _ rfl g 2 rfl (cV o.v) (rng2 x2 x3) row_V sz_V ?_))
  refine (refDelete_ok w0 w1 (Blk (g + 1 + 1) (.cells (sC 0 0 0 0 false 0 none 0 0 none 0 0 0 0 false none 0 0).toArray 84) :: Blk (g + 1) (.cells (sC 0 0 0 0 false 0 none 0 0 none 0 0 0 0 false none 0 0).toArray 84) :: Blk g (.cells (cHO o).toArray 32) :: L) h hm1 hok hg o.v.1 o.v.2 o.I).mono ?_
  rintro e w2 ⟨rfl, h', hg', ha', hok', hm2⟩
  rw [show ((o.v.1, o.v.2) : V2) = o.v from rfl]
  obtain ⟨gt, hgt⟩ : ∃ z, z = delT h.abs o.v o.I := ⟨_, rfl⟩
  rw [← hgt]
  replace hgt := Fact.mk hgt
  go_wp2_with (first | (refine wp_setat rfl 3 _ _ rfl (g + 1 + 1) 3 rfl 84 _ [.int .i64 gt] (sC 0 0 0 gt false 0 none 0 0 none 0 0 0 0 false none 0 0) (.int .i64 gt) rfl rfl hm2.swap sz_int (by simp [sC, obC]) (one_one rfl) rfl ?_; intro w3 hs3) | (refine wp_rng rfl 84 _ rfl (g + 1 + 1) 0 rfl (sC 0 0 0 gt false 0 none 0 0 none 0 0 0 0 false none 0 0) (rng_blk hs3 m0) row_S sz_S ?_) | (refine wp_setrow rfl 84 _ _ rfl (g + 1) rfl 84 _ (sC 0 0 0 gt false 0 none 0 0 none 0 0 0 0 false none 0 0) rfl hs3.pull2 sz_S rfl (sC_one _ _ _ _ _ _ _ _ _ _ _ _ _ _ _ _ _ _) ?_; intro w4 hs4))
  have hz := hs4.tail.tail.drop2
  refine bodyPost_ret (Mm.res_cell rfl _ (g + 1) 84 (sC 0 0 0 gt false 0 none 0 0 none 0 0 0 0 false none 0 0) (0, 0) rfl hs4 m0 row_S sz_S) rfl ?_
  rw [← hgt.out]
  exact ⟨_, rfl, h', hg', ha', hok', SdQ.plain 0 0 0 gt false hz⟩
theorem tellM_keys (w0 w : World) (L : List Chunk) (h : Rf) (hm : Mem w0 w (RfC h :: L)) (hok : Fact h.Ok) (o : HOp) (hg : Fact h.abs.Good) (hl : h.xs.length < 16777216) :
    Calls Try.prog 96 #[.pointer (some ⟨h.g, 0, none⟩), .int .i64 15, .agg (cHO o).toArray] w fun e w' => ∃ v, e = .returned v ∧ TellQ w0 L h.g (keysS h.abs o.v) (sdV ((keysW h.abs o.v).v) 0 ((keysW h.abs o.v).trap) ((keysW h.abs o.v).ok)) v w' := by
  go_enter Try.func96, Try.ntmps96
  go_upto_region 2 with (fail)
  have hm1 := ((hm.alloc (.cells (cHO o).toArray 32)).alloc (.cells (sC 0 0 0 0 false 0 none 0 0 none 0 0 0 0 false none 0 0).toArray 84)).alloc (.cells (sC 0 0 0 0 false 0 none 0 0 none 0 0 0 0 false none 0 0).toArray 84)
  simp only [World.size_alloc] at hm1
  generalize hgb : w.heap.size = g at hm1 ⊢
  generalize hw1 : ((w.alloc (.cells (cHO o).toArray 32)).alloc (.cells (sC 0 0 0 0 false 0 none 0 0 none 0 0 0 0 false none 0 0).toArray 84)).alloc (.cells (sC 0 0 0 0 false 0 none 0 0 none 0 0 0 0 false none 0 0).toArray 84) = w1 at hm1
  try refine wp_world hw1 ?_
  clear hw1 hgb
  replace hm1 := hm1.pull3
  have x2 := hm1.cell m3 2 rfl
  have x3 := hm1.cell m3 3 rfl
  go_wp2_with (first | (refine wp_rng rfl 27 _ rfl g 2 rfl (cV o.v) (rng2 x2 x3) row_V sz_V ?_))
  refine (refKeys_ok w0 w1 (Blk (g + 1 + 1) (.cells (sC 0 0 0 0 false 0 none 0 0 none 0 0 0 0 false none 0 0).toArray 84) :: Blk (g + 1) (.cells (sC 0 0 0 0 false 0 none 0 0 none 0 0 0 0 false none 0 0).toArray 84) :: Blk g (.cells (cHO o).toArray 32) :: L) h hm1 hok hg o.v.1 o.v.2 hl).mono ?_
  rintro e w2 ⟨rfl, h', hg', ha', hok', hm2⟩
  rw [show ((o.v.1, o.v.2) : V2) = o.v from rfl]
  obtain ⟨gv, hgv⟩ : ∃ z, z = (keysW h.abs o.v).v := ⟨_, rfl⟩
  rw [← hgv]
  replace hgv := Fact.mk hgv
  obtain ⟨gt, hgt⟩ : ∃ z, z = (keysW h.abs o.v).trap := ⟨_, rfl⟩
  rw [← hgt]
  replace hgt := Fact.mk hgt
  obtain ⟨gb, hgb⟩ : ∃ z, z = (keysW h.abs o.v).ok := ⟨_, rfl⟩
  rw [← hgb]
  replace hgb := Fact.mk hgb
  go_wp2_with (first | (refine wp_setat rfl 27 _ _ rfl (g + 1 + 1) 0 rfl 84 _ [.int .i64 gv.1, .int .i64 gv.2] (sC gv.1 gv.2 0 0 false 0 none 0 0 none 0 0 0 0 false none 0 0) (.agg #[.int .i64 gv.1, .int .i64 gv.2]) rfl rfl hm2.swap sz_V (by simp [sC, obC]) (cV_one gv) rfl ?_; intro w3 hs3) | (refine wp_setat rfl 3 _ _ rfl (g + 1 + 1) 3 rfl 84 _ [.int .i64 gt] (sC gv.1 gv.2 0 gt false 0 none 0 0 none 0 0 0 0 false none 0 0) (.int .i64 gt) rfl rfl hs3 sz_int (by simp [sC, obC]) (one_one rfl) rfl ?_; intro w4 hs4) | (refine wp_setat rfl 4 _ _ rfl (g + 1 + 1) 4 rfl 84 _ [.bool gb] (sC gv.1 gv.2 0 gt gb 0 none 0 0 none 0 0 0 0 false none 0 0) (.bool gb) rfl rfl hs4 sz_bool (by simp [sC, obC]) (one_one rfl) rfl ?_; intro w5 hs5) | (refine wp_rng rfl 84 _ rfl (g + 1 + 1) 0 rfl (sC gv.1 gv.2 0 gt gb 0 none 0 0 none 0 0 0 0 false none 0 0) (rng_blk hs5 m0) row_S sz_S ?_) | (refine wp_setrow rfl 84 _ _ rfl (g + 1) rfl 84 _ (sC gv.1 gv.2 0 gt gb 0 none 0 0 none 0 0 0 0 false none 0 0) rfl hs5.pull2 sz_S rfl (sC_one _ _ _ _ _ _ _ _ _ _ _ _ _ _ _ _ _ _) ?_; intro w6 hs6))
  have hz := hs6.tail.tail.drop2
  refine bodyPost_ret (Mm.res_cell rfl _ (g + 1) 84 (sC gv.1 gv.2 0 gt gb 0 none 0 0 none 0 0 0 0 false none 0 0) (0, 0) rfl hs6 m0 row_S sz_S) rfl ?_
  rw [← hgv.out]
  rw [← hgt.out]
  rw [← hgb.out]
  exact ⟨_, rfl, h', hg', ha', hok', SdQ.plain gv.1 gv.2 0 gt gb hz⟩
theorem tellM_send (w0 w : World) (L : List Chunk) (h : Rf) (hm : Mem w0 w (RfC h :: L)) (hok : Fact h.Ok) (o : HOp) (hg : Fact h.abs.Good) :
    Calls Try.prog 96 #[.pointer (some ⟨h.g, 0, none⟩), .int .i64 16, .agg (cHO o).toArray] w fun e w' => ∃ v, e = .returned v ∧ TellQ w0 L h.g (sendS h.abs o.v o.x) (sdV (0, 0) 0 (sendT h.abs o.v) (sendB h.abs o.v)) v w' := by
  go_enter Try.func96, Try.ntmps96
  go_upto_region 2 with (fail)
  have hm1 := ((hm.alloc (.cells (cHO o).toArray 32)).alloc (.cells (sC 0 0 0 0 false 0 none 0 0 none 0 0 0 0 false none 0 0).toArray 84)).alloc (.cells (sC 0 0 0 0 false 0 none 0 0 none 0 0 0 0 false none 0 0).toArray 84)
  simp only [World.size_alloc] at hm1
  generalize hgb : w.heap.size = g at hm1 ⊢
  generalize hw1 : ((w.alloc (.cells (cHO o).toArray 32)).alloc (.cells (sC 0 0 0 0 false 0 none 0 0 none 0 0 0 0 false none 0 0).toArray 84)).alloc (.cells (sC 0 0 0 0 false 0 none 0 0 none 0 0 0 0 false none 0 0).toArray 84) = w1 at hm1
  try refine wp_world hw1 ?_
  clear hw1 hgb
  replace hm1 := hm1.pull3
  have x2 := hm1.cell m3 2 rfl
  have x3 := hm1.cell m3 3 rfl
  have x4 := hm1.cell m3 4 rfl
  have x5 := hm1.cell m3 5 rfl
  go_wp2_with (first | (refine wp_rng rfl 27 _ rfl g 2 rfl (cV o.v) (rng2 x2 x3) row_V sz_V ?_) | (refine wp_rng rfl 27 _ rfl g 4 rfl (cV o.x) (rng2 x4 x5) row_V sz_V ?_))
  refine (refSend_ok w0 w1 (Blk (g + 1 + 1) (.cells (sC 0 0 0 0 false 0 none 0 0 none 0 0 0 0 false none 0 0).toArray 84) :: Blk (g + 1) (.cells (sC 0 0 0 0 false 0 none 0 0 none 0 0 0 0 false none 0 0).toArray 84) :: Blk g (.cells (cHO o).toArray 32) :: L) h hm1 hok hg o.v.1 o.v.2 o.x.1 o.x.2).mono ?_
  rintro e w2 ⟨rfl, h', hg', ha', hok', hm2⟩
  rw [show ((o.v.1, o.v.2) : V2) = o.v from rfl]
  obtain ⟨gb, hgb⟩ : ∃ z, z = sendB h.abs o.v := ⟨_, rfl⟩
  rw [← hgb]
  replace hgb := Fact.mk hgb
  obtain ⟨gt, hgt⟩ : ∃ z, z = sendT h.abs o.v := ⟨_, rfl⟩
  rw [← hgt]
  replace hgt := Fact.mk hgt
  go_wp2_with (first | (refine wp_setat rfl 4 _ _ rfl (g + 1 + 1) 4 rfl 84 _ [.bool gb] (sC 0 0 0 0 gb 0 none 0 0 none 0 0 0 0 false none 0 0) (.bool gb) rfl rfl hm2.swap sz_bool (by simp [sC, obC]) (one_one rfl) rfl ?_; intro w3 hs3) | (refine wp_setat rfl 3 _ _ rfl (g + 1 + 1) 3 rfl 84 _ [.int .i64 gt] (sC 0 0 0 gt gb 0 none 0 0 none 0 0 0 0 false none 0 0) (.int .i64 gt) rfl rfl hs3 sz_int (by simp [sC, obC]) (one_one rfl) rfl ?_; intro w4 hs4) | (refine wp_rng rfl 84 _ rfl (g + 1 + 1) 0 rfl (sC 0 0 0 gt gb 0 none 0 0 none 0 0 0 0 false none 0 0) (rng_blk hs4 m0) row_S sz_S ?_) | (refine wp_setrow rfl 84 _ _ rfl (g + 1) rfl 84 _ (sC 0 0 0 gt gb 0 none 0 0 none 0 0 0 0 false none 0 0) rfl hs4.pull2 sz_S rfl (sC_one _ _ _ _ _ _ _ _ _ _ _ _ _ _ _ _ _ _) ?_; intro w5 hs5))
  have hz := hs5.tail.tail.drop2
  refine bodyPost_ret (Mm.res_cell rfl _ (g + 1) 84 (sC 0 0 0 gt gb 0 none 0 0 none 0 0 0 0 false none 0 0) (0, 0) rfl hs5 m0 row_S sz_S) rfl ?_
  rw [← hgb.out]
  rw [← hgt.out]
  exact ⟨_, rfl, h', hg', ha', hok', SdQ.plain 0 0 0 gt gb hz⟩
theorem tellM_recv (w0 w : World) (L : List Chunk) (h : Rf) (hm : Mem w0 w (RfC h :: L)) (hok : Fact h.Ok) (o : HOp) (hg : Fact h.abs.Good) :
    Calls Try.prog 96 #[.pointer (some ⟨h.g, 0, none⟩), .int .i64 17, .agg (cHO o).toArray] w fun e w' => ∃ v, e = .returned v ∧ TellQ w0 L h.g (recvS h.abs o.v) (sdV (recvV h.abs o.v) 0 (recvT h.abs o.v) (recvB h.abs o.v)) v w' := by
  go_enter Try.func96, Try.ntmps96
  go_upto_region 2 with (fail)
  have hm1 := ((hm.alloc (.cells (cHO o).toArray 32)).alloc (.cells (sC 0 0 0 0 false 0 none 0 0 none 0 0 0 0 false none 0 0).toArray 84)).alloc (.cells (sC 0 0 0 0 false 0 none 0 0 none 0 0 0 0 false none 0 0).toArray 84)
  simp only [World.size_alloc] at hm1
  generalize hgb : w.heap.size = g at hm1 ⊢
  generalize hw1 : ((w.alloc (.cells (cHO o).toArray 32)).alloc (.cells (sC 0 0 0 0 false 0 none 0 0 none 0 0 0 0 false none 0 0).toArray 84)).alloc (.cells (sC 0 0 0 0 false 0 none 0 0 none 0 0 0 0 false none 0 0).toArray 84) = w1 at hm1
  try refine wp_world hw1 ?_
  clear hw1 hgb
  replace hm1 := hm1.pull3
  have x2 := hm1.cell m3 2 rfl
  have x3 := hm1.cell m3 3 rfl
  go_wp2_with (first | (refine wp_rng rfl 27 _ rfl g 2 rfl (cV o.v) (rng2 x2 x3) row_V sz_V ?_))
  refine (refRecv_ok w0 w1 (Blk (g + 1 + 1) (.cells (sC 0 0 0 0 false 0 none 0 0 none 0 0 0 0 false none 0 0).toArray 84) :: Blk (g + 1) (.cells (sC 0 0 0 0 false 0 none 0 0 none 0 0 0 0 false none 0 0).toArray 84) :: Blk g (.cells (cHO o).toArray 32) :: L) h hm1 hok hg o.v.1 o.v.2).mono ?_
  rintro e w2 ⟨rfl, h', hg', ha', hok', hm2⟩
  rw [show ((o.v.1, o.v.2) : V2) = o.v from rfl]
  obtain ⟨gv, hgv⟩ : ∃ z, z = recvV h.abs o.v := ⟨_, rfl⟩
  rw [← hgv]
  replace hgv := Fact.mk hgv
  obtain ⟨gb, hgb⟩ : ∃ z, z = recvB h.abs o.v := ⟨_, rfl⟩
  rw [← hgb]
  replace hgb := Fact.mk hgb
  obtain ⟨gt, hgt⟩ : ∃ z, z = recvT h.abs o.v := ⟨_, rfl⟩
  rw [← hgt]
  replace hgt := Fact.mk hgt
  go_wp2_with (first | (refine wp_setat rfl 27 _ _ rfl (g + 1 + 1) 0 rfl 84 _ [.int .i64 gv.1, .int .i64 gv.2] (sC gv.1 gv.2 0 0 false 0 none 0 0 none 0 0 0 0 false none 0 0) (.agg #[.int .i64 gv.1, .int .i64 gv.2]) rfl rfl hm2.swap sz_V (by simp [sC, obC]) (cV_one gv) rfl ?_; intro w3 hs3) | (refine wp_setat rfl 4 _ _ rfl (g + 1 + 1) 4 rfl 84 _ [.bool gb] (sC gv.1 gv.2 0 0 gb 0 none 0 0 none 0 0 0 0 false none 0 0) (.bool gb) rfl rfl hs3 sz_bool (by simp [sC, obC]) (one_one rfl) rfl ?_; intro w4 hs4) | (refine wp_setat rfl 3 _ _ rfl (g + 1 + 1) 3 rfl 84 _ [.int .i64 gt] (sC gv.1 gv.2 0 gt gb 0 none 0 0 none 0 0 0 0 false none 0 0) (.int .i64 gt) rfl rfl hs4 sz_int (by simp [sC, obC]) (one_one rfl) rfl ?_; intro w5 hs5) | (refine wp_rng rfl 84 _ rfl (g + 1 + 1) 0 rfl (sC gv.1 gv.2 0 gt gb 0 none 0 0 none 0 0 0 0 false none 0 0) (rng_blk hs5 m0) row_S sz_S ?_) | (refine wp_setrow rfl 84 _ _ rfl (g + 1) rfl 84 _ (sC gv.1 gv.2 0 gt gb 0 none 0 0 none 0 0 0 0 false none 0 0) rfl hs5.pull2 sz_S rfl (sC_one _ _ _ _ _ _ _ _ _ _ _ _ _ _ _ _ _ _) ?_; intro w6 hs6))
  have hz := hs6.tail.tail.drop2
  refine bodyPost_ret (Mm.res_cell rfl _ (g + 1) 84 (sC gv.1 gv.2 0 gt gb 0 none 0 0 none 0 0 0 0 false none 0 0) (0, 0) rfl hs6 m0 row_S sz_S) rfl ?_
  rw [← hgv.out]
  rw [← hgb.out]
  rw [← hgt.out]
  exact ⟨_, rfl, h', hg', ha', hok', SdQ.plain gv.1 gv.2 0 gt gb hz⟩
theorem tellM_shut (w0 w : World) (L : List Chunk) (h : Rf) (hm : Mem w0 w (RfC h :: L)) (hok : Fact h.Ok) (o : HOp) (hg : Fact h.abs.Good) :
    Calls Try.prog 96 #[.pointer (some ⟨h.g, 0, none⟩), .int .i64 18, .agg (cHO o).toArray] w fun e w' => ∃ v, e = .returned v ∧ TellQ w0 L h.g (shutS h.abs o.v) (sdV (0, 0) 0 (shutT h.abs o.v) false) v w' := by
  go_enter Try.func96, Try.ntmps96
  go_upto_region 2 with (fail)
  have hm1 := ((hm.alloc (.cells (cHO o).toArray 32)).alloc (.cells (sC 0 0 0 0 false 0 none 0 0 none 0 0 0 0 false none 0 0).toArray 84)).alloc (.cells (sC 0 0 0 0 false 0 none 0 0 none 0 0 0 0 false none 0 0).toArray 84)
  simp only [World.size_alloc] at hm1
  generalize hgb : w.heap.size = g at hm1 ⊢
  generalize hw1 : ((w.alloc (.cells (cHO o).toArray 32)).alloc (.cells (sC 0 0 0 0 false 0 none 0 0 none 0 0 0 0 false none 0 0).toArray 84)).alloc (.cells (sC 0 0 0 0 false 0 none 0 0 none 0 0 0 0 false none 0 0).toArray 84) = w1 at hm1
  try refine wp_world hw1 ?_
  clear hw1 hgb
  replace hm1 := hm1.pull3
  have x2 := hm1.cell m3 2 rfl
  have x3 := hm1.cell m3 3 rfl
  go_wp2_with (first | (refine wp_rng rfl 27 _ rfl g 2 rfl (cV o.v) (rng2 x2 x3) row_V sz_V ?_))
  refine (refShut_ok w0 w1 (Blk (g + 1 + 1) (.cells (sC 0 0 0 0 false 0 none 0 0 none 0 0 0 0 false none 0 0).toArray 84) :: Blk (g + 1) (.cells (sC 0 0 0 0 false 0 none 0 0 none 0 0 0 0 false none 0 0).toArray 84) :: Blk g (.cells (cHO o).toArray 32) :: L) h hm1 hok hg o.v.1 o.v.2).mono ?_
  rintro e w2 ⟨rfl, h', hg', ha', hok', hm2⟩
  rw [show ((o.v.1, o.v.2) : V2) = o.v from rfl]
  obtain ⟨gt, hgt⟩ : ∃ z, z = shutT h.abs o.v := ⟨_, rfl⟩
  rw [← hgt]
  replace hgt := Fact.mk hgt
  go_wp2_with (first | (refine wp_setat rfl 3 _ _ rfl (g + 1 + 1) 3 rfl 84 _ [.int .i64 gt] (sC 0 0 0 gt false 0 none 0 0 none 0 0 0 0 false none 0 0) (.int .i64 gt) rfl rfl hm2.swap sz_int (by simp [sC, obC]) (one_one rfl) rfl ?_; intro w3 hs3) | (refine wp_rng rfl 84 _ rfl (g + 1 + 1) 0 rfl (sC 0 0 0 gt false 0 none 0 0 none 0 0 0 0 false none 0 0) (rng_blk hs3 m0) row_S sz_S ?_) | (refine wp_setrow rfl 84 _ _ rfl (g + 1) rfl 84 _ (sC 0 0 0 gt false 0 none 0 0 none 0 0 0 0 false none 0 0) rfl hs3.pull2 sz_S rfl (sC_one _ _ _ _ _ _ _ _ _ _ _ _ _ _ _ _ _ _) ?_; intro w4 hs4))
  have hz := hs4.tail.tail.drop2
  refine bodyPost_ret (Mm.res_cell rfl _ (g + 1) 84 (sC 0 0 0 gt false 0 none 0 0 none 0 0 0 0 false none 0 0) (0, 0) rfl hs4 m0 row_S sz_S) rfl ?_
  rw [← hgt.out]
  exact ⟨_, rfl, h', hg', ha', hok', SdQ.plain 0 0 0 gt false hz⟩
theorem told_more (w0 w : World) (L : List Chunk) (h : Rf) (hm : Mem w0 w (RfC h :: L)) (c : Nat) (hc0 : 11 ≤ c) (hc1 : c ≤ 19) (S : Hs) (R : Sd) (o : HOp) (hp : Fact (∀ (w1 : World) (L1 : List Chunk), Mem w0 w1 (RfC h :: L1) → Calls Try.prog 96 #[.pointer (some ⟨h.g, 0, none⟩), .int .i64 c, .agg (cHO o).toArray] w1 fun e w' => ∃ v, e = .returned v ∧ TellQ w0 L1 h.g S R v w')) :
    Calls Try.prog 75 #[.pointer (some ⟨h.g, 0, none⟩), .int .i64 c, .agg (cHO o).toArray] w fun e w' => ∃ v, e = .returned v ∧ TellQ w0 L h.g S R v w' := by
  have q0 : decide ((c : Int) = 0) = false := decide_eq_false (by omega)
  have p0 : ((c : Int) == 0) = false := beq_eq_false_iff_ne.2 (by omega)
  have q1 : decide ((c : Int) = 1) = false := decide_eq_false (by omega)
  have p1 : ((c : Int) == 1) = false := beq_eq_false_iff_ne.2 (by omega)
  have q2 : decide ((c : Int) = 2) = false := decide_eq_false (by omega)
  have p2 : ((c : Int) == 2) = false := beq_eq_false_iff_ne.2 (by omega)
  have q3 : decide ((c : Int) = 3) = false := decide_eq_false (by omega)
  have p3 : ((c : Int) == 3) = false := beq_eq_false_iff_ne.2 (by omega)
  have q4 : decide ((c : Int) = 4) = false := decide_eq_false (by omega)
  have p4 : ((c : Int) == 4) = false := beq_eq_false_iff_ne.2 (by omega)
  have q5 : decide ((c : Int) = 5) = false := decide_eq_false (by omega)
  have p5 : ((c : Int) == 5) = false := beq_eq_false_iff_ne.2 (by omega)
  have q6 : decide ((c : Int) = 6) = false := decide_eq_false (by omega)
  have p6 : ((c : Int) == 6) = false := beq_eq_false_iff_ne.2 (by omega)
  have q7 : decide ((c : Int) = 7) = false := decide_eq_false (by omega)
  have p7 : ((c : Int) == 7) = false := beq_eq_false_iff_ne.2 (by omega)
  have q8 : decide ((c : Int) = 8) = false := decide_eq_false (by omega)
  have p8 : ((c : Int) == 8) = false := beq_eq_false_iff_ne.2 (by omega)
  have q9 : decide ((c : Int) = 9) = false := decide_eq_false (by omega)
  have p9 : ((c : Int) == 9) = false := beq_eq_false_iff_ne.2 (by omega)
  have q10 : decide ((c : Int) = 10) = false := decide_eq_false (by omega)
  have p10 : ((c : Int) == 10) = false := beq_eq_false_iff_ne.2 (by omega)
  go_enter Try.func75, Try.ntmps75
  go_upto_region 2 with (fail)
  have hm1 := ((hm.alloc (.cells (cHO o).toArray 32)).alloc (.cells (sC 0 0 0 0 false 0 none 0 0 none 0 0 0 0 false none 0 0).toArray 84)).alloc (.cells (sC 0 0 0 0 false 0 none 0 0 none 0 0 0 0 false none 0 0).toArray 84)
  simp only [World.size_alloc] at hm1
  generalize hgb : w.heap.size = g at hm1 ⊢
  generalize hw1 : ((w.alloc (.cells (cHO o).toArray 32)).alloc (.cells (sC 0 0 0 0 false 0 none 0 0 none 0 0 0 0 false none 0 0).toArray 84)).alloc (.cells (sC 0 0 0 0 false 0 none 0 0 none 0 0 0 0 false none 0 0).toArray 84) = w1 at hm1
  try refine wp_world hw1 ?_
  clear hw1 hgb
  replace hm1 := hm1.pull3
  go_wp2_with (refine wp_rng rfl 32 _ rfl g 0 rfl (cHO o) (rng_blk hm1 m3) row_HO sz_HO ?_)
  refine (hp.out w1 _ hm1).mono ?_
  rintro e w4 ⟨v, rfl, h', hg', ha', hok', A, c1, K, k1, LA, lc, rfl, hm5⟩
  clear hm1
  go_wp2_with (first | (refine wp_setrow rfl 84 _ _ rfl (g + 1 + 1) rfl 84 _ (sdC R A c1 K k1 LA lc) rfl hm5.pull4 sz_S rfl (sC_one _ _ _ _ _ _ _ _ _ _ _ _ _ _ _ _ _ _) ?_; intro w6 hm6) | (refine wp_rng rfl 84 _ rfl (g + 1 + 1) 0 rfl (sdC R A c1 K k1 LA lc) (rng_blk hm6 m0) row_S sz_S ?_) | (refine wp_setrow rfl 84 _ _ rfl (g + 1) rfl 84 _ (sdC R A c1 K k1 LA lc) rfl hm6.pull5 sz_S rfl (sC_one _ _ _ _ _ _ _ _ _ _ _ _ _ _ _ _ _ _) ?_; intro w7 hm7))
  have hz := (hm7.tail.tail).sub (List.Sublist.cons_cons _ (List.Sublist.cons_cons _ (List.Sublist.cons_cons _ (List.Sublist.cons_cons _ (List.sublist_cons_self _ _)))))
  refine bodyPost_ret (Mm.res_cell rfl _ (g + 1) 84 (sdC R A c1 K k1 LA lc) (0, 0) rfl hm7 m0 row_S sz_S) rfl ⟨_, rfl, h', hg', ha', hok', ?_⟩
  exact ⟨A, c1, K, k1, LA, lc, rfl, hz⟩
end Go.Proofs.Ytpibchjkmaghnaa
namespace Go.Proofs.Ytpibchjkmaghnaa
open Go.RowKit Go.Mm
set_option maxHeartbeats 4000000
set_option maxRecDepth 100000
set_option linter.unusedSimpArgs false
def callS (c : Nat) (s : Hs) (o : HOp) : Hs := match c with
  | 0 => mkS 0 s o
  | 3 => mkS 3 s o
  | 4 => mkS 4 s o
  | 5 => mkS 5 s o
  | 6 => mkS 6 s o
  | 8 => setS s o.v o.I o.x
  | 9 => pushS s o.v o.x
  | 12 => setFS s o.v o.I o.x
  | 14 => delS s o.v o.I
  | 15 => keysS s o.v
  | 16 => sendS s o.v o.x
  | 17 => recvS s o.v
  | 18 => shutS s o.v
  | _ => s
def callR (c : Nat) (s : Hs) (o : HOp) : Sd := match c with
  | 0 => mkR 0 s o
  | 1 => mkR 1 s o
  | 2 => mkR 2 s o
  | 3 => mkR 3 s o
  | 4 => mkR 4 s o
  | 5 => mkR 5 s o
  | 6 => mkR 6 s o
  | 7 => sdV (getV s o.v o.I) 0 (getT s o.v o.I) false
  | 8 => sdV (0, 0) 0 (getT s o.v o.I) false
  | 9 => sdV (0, 0) 0 (pushT s o.v) (pushB s o.v)
  | 10 => sdV (0, 0) (sizeN s o.v) (sizeT s o.v) false
  | 11 => sdV (fieldV s o.v o.I) 0 (fieldT s o.v o.I) false
  | 12 => sdV (0, 0) 0 (setFT s o.v o.I) (setFB s o.v o.I)
  | 13 => sdV (0, 0) 0 (hasT s o.v) (hasB s o.v o.I)
  | 14 => sdV (0, 0) 0 (delT s o.v o.I) false
  | 15 => sdV (keysW s o.v).v 0 (keysW s o.v).trap (keysW s o.v).ok
  | 16 => sdV (0, 0) 0 (sendT s o.v) (sendB s o.v)
  | 17 => sdV (recvV s o.v) 0 (recvT s o.v) (recvB s o.v)
  | 18 => sdV (0, 0) 0 (shutT s o.v) false
  | _ => sd0
theorem put_len (s : Hs) (i : Nat) (o : Ob) : (s.put i o).objs.length = s.objs.length := by simp [Hs.put]
theorem spend_objs (s : Hs) (n : Int) : (s.spend n).objs = s.objs := by unfold Hs.spend; split <;> rfl
theorem few_at {s : Hs} (h : s.Few) (i : Nat) : (s.objs.getD i ob0).few := by
  by_cases hi : i < s.objs.length
  · exact h _ (by rw [List.getD_eq_getElem?_getD, List.getElem?_eq_getElem hi]; exact List.getElem_mem _)
  · rw [List.getD_eq_getElem?_getD, List.getElem?_eq_none (by omega)]
    exact ⟨fun h => (by cases h), fun h => (by cases h)⟩
theorem put_few {s : Hs} (h : s.Few) (i : Nat) {o : Ob} (ho : o.few) : (s.put i o).Few := fun u hu => by
  rcases List.mem_or_eq_of_mem_set hu with hu | rfl
  · exact h u hu
  · exact ho
theorem spend_few {s : Hs} (h : s.Few) (n : Int) : (s.spend n).Few := fun u hu => h u (by rwa [spend_objs] at hu)
theorem make_few {s : Hs} (h : s.Few) (may : Bool) (n : Int) (o : Ob) (ho : may = true → o.few) : (s.make may n o).Few := by
  unfold Hs.make
  split
  · rename_i q
    intro u hu
    rcases List.mem_append.1 hu with hu | hu
    · exact h u hu
    · simp at hu
      subst hu
      exact ho (by simp only [Bool.and_eq_true] at q; exact q.1)
  · exact h
theorem few_6 {o : Ob} (h : o.kind = 6 ∨ o.kind = 8) : o.few := ⟨fun h9 => by omega, fun h7 => by omega⟩
theorem callS_few (c : Nat) (s : Hs) (o : HOp) (h : s.Few) : (callS c s o).Few := by
  unfold callS
  split
  · exact spend_few h _
  · exact make_few h _ _ _ fun _ => few_6 (.inl rfl)
  · exact make_few h _ _ _ fun _ => ⟨fun h9 => (by cases h9), fun _ => (by simp)⟩
  · exact make_few h _ _ _ fun _ => few_6 (.inr rfl)
  · exact make_few h _ _ _ fun hq => ⟨fun _ => (by simp only [Bool.and_eq_true, decide_eq_true_eq] at hq; exact hq.2), fun h7 => (by cases h7)⟩
  · unfold setS
    split
    · exact h
    · split
      · exact put_few h _ (few_at h _)
      · exact h
  · unfold pushS
    split
    · exact h
    · split
      · exact h
      · split
        · exact put_few (spend_few h 1) _ (few_at h _)
        · exact h
  · unfold setFS
    split
    · exact h
    · split
      · exact put_few h _ (few_at h _)
      · split
        · exact h
        · split
          · refine put_few (spend_few h 2) _ ⟨(few_at h _).1, fun _ => ?_⟩
            simp only [List.length_append, List.length_singleton]
            omega
          · exact h
  · unfold delS
    split
    · exact h
    · split
      · refine put_few h _ ⟨(few_at h _).1, fun h7 => ?_⟩
        have := (few_at h _).2 h7
        rename_i i _ j hj
        have hd := dropK_len (idx_lt hj)
        show (dropK _ _).length ≤ 256
        rw [hd]
        omega
      · exact h
  · unfold keysS
    split
    · exact h
    · exact make_few h _ _ _ fun _ => few_6 (.inl rfl)
  · unfold sendS
    split
    · exact h
    · exact put_few h _ (few_at h _)
  · unfold recvS
    split
    · exact h
    · exact put_few h _ (few_at h _)
  · unfold shutS
    split
    · exact h
    · exact put_few h _ (few_at h _)
  · exact h
theorem callS_grow (c : Nat) (s : Hs) (o : HOp) : (callS c s o).objs.length ≤ s.objs.length + 1 := by
  unfold callS
  split
  · exact spend_len s _
  · exact make_len s _ _ _
  · exact make_len s _ _ _
  · exact make_len s _ _ _
  · exact make_len s _ _ _
  · unfold setS; split; · omega
    split <;> simp [put_len]
  · unfold pushS; split; · omega
    split; · omega
    split <;> simp [put_len, spend_objs]
  · unfold setFS; split; · omega
    split; · simp [put_len]
    split; · omega
    split <;> simp [put_len, spend_objs]
  · unfold delS; split; · omega
    split <;> simp [put_len]
  · unfold keysS; split; · omega
    exact make_len s _ _ _
  · unfold sendS; split <;> simp [put_len]
  · unfold recvS; split <;> simp [put_len]
  · unfold shutS; split <;> simp [put_len]
  · omega
theorem sdV_small (v : V2) (n trap : Int) (ok : Bool) : (sdV v n trap ok).ob.items.length ≤ 16777216 ∧ (sdV v n trap ok).ob.keys.length ≤ 16777216 ∧ (sdV v n trap ok).list.length ≤ 16777216 := ⟨by simp [sdV, ob0], by simp [sdV, ob0], by simp [sdV]⟩
theorem calls_play (w0 : World) : PlayG w0 [0, 1, 2, 3, 4, 5, 6, 7, 8, 9, 10, 11, 12, 13, 14, 15, 16, 17, 18] callS callR := by
  refine ⟨fun c hc r w L o hm hok hg hx hn hw hl => ?_, fun c hc h w L o hm hok hf hx hn hw hl => ?_, fun c hc s o => callS_grow c s o, fun c hc s o h => callS_few c s o h, fun c hc h o hok hn => ?_⟩
  all_goals
    simp only [List.mem_cons, List.not_mem_nil, or_false] at hc
    rcases hc with rfl | rfl | rfl | rfl | rfl | rfl | rfl | rfl | rfl | rfl | rfl | rfl | rfl | rfl | rfl | rfl | rfl | rfl | rfl
  · exact told_spend w0 w L r hm ⟨hok⟩ o
  · exact told_counts w0 w L r hm ⟨hok⟩ o
  · exact told_object w0 w L r hm ⟨hok⟩ o
  · exact told_array w0 w L r hm ⟨hok⟩ o ⟨hx⟩ hn (by omega)
  · exact told_record w0 w L r hm ⟨hok⟩ o (by omega)
  · exact told_bound w0 w L r hm ⟨hok⟩ o ⟨hx⟩ hn (by omega)
  · exact told_chan w0 w L r hm ⟨hok⟩ o (by omega)
  · exact told_get w0 w L r hm ⟨hok⟩ o ⟨hg⟩
  · exact told_set w0 w L r hm ⟨hok⟩ o ⟨hg⟩
  · exact told_push w0 w L r hm ⟨hok⟩ o ⟨hg⟩
  · exact told_size w0 w L r hm ⟨hok⟩ o ⟨hg⟩
  · exact told_more w0 w L r hm 11 (by omega) (by omega) _ _ o ⟨fun w1 L1 hm1 => tellM_field w0 w1 L1 r hm1 ⟨hok⟩ o ⟨hg⟩⟩
  · exact told_more w0 w L r hm 12 (by omega) (by omega) _ _ o ⟨fun w1 L1 hm1 => tellM_setf w0 w1 L1 r hm1 ⟨hok⟩ o ⟨hg⟩⟩
  · exact told_more w0 w L r hm 13 (by omega) (by omega) _ _ o ⟨fun w1 L1 hm1 => tellM_has w0 w1 L1 r hm1 ⟨hok⟩ o ⟨hg⟩⟩
  · exact told_more w0 w L r hm 14 (by omega) (by omega) _ _ o ⟨fun w1 L1 hm1 => tellM_delete w0 w1 L1 r hm1 ⟨hok⟩ o ⟨hg⟩⟩
  · exact told_more w0 w L r hm 15 (by omega) (by omega) _ _ o ⟨fun w1 L1 hm1 => tellM_keys w0 w1 L1 r hm1 ⟨hok⟩ o ⟨hg⟩ (by omega)⟩
  · exact told_more w0 w L r hm 16 (by omega) (by omega) _ _ o ⟨fun w1 L1 hm1 => tellM_send w0 w1 L1 r hm1 ⟨hok⟩ o ⟨hg⟩⟩
  · exact told_more w0 w L r hm 17 (by omega) (by omega) _ _ o ⟨fun w1 L1 hm1 => tellM_recv w0 w1 L1 r hm1 ⟨hok⟩ o ⟨hg⟩⟩
  · exact told_more w0 w L r hm 18 (by omega) (by omega) _ _ o ⟨fun w1 L1 hm1 => tellM_shut w0 w1 L1 r hm1 ⟨hok⟩ o ⟨hg⟩⟩
  · exact askPlain_ok w0 w L h hm 0 _ _ o ⟨hx⟩ hn (by decide) (by decide) (by decide) ⟨fun w1 L1 hm1 => askP_spend w0 w1 L1 h hm1 ⟨hok⟩ o⟩
  · exact askPlain_ok w0 w L h hm 1 _ _ o ⟨hx⟩ hn (by decide) (by decide) (by decide) ⟨fun w1 L1 hm1 => askP_counts w0 w1 L1 h hm1 ⟨hok⟩ o⟩
  · exact askPlain_ok w0 w L h hm 2 _ _ o ⟨hx⟩ hn (by decide) (by decide) (by decide) ⟨fun w1 L1 hm1 => askP_object w0 w1 L1 h hm1 ⟨hok⟩ o⟩
  · exact askArray_ok w0 w L h hm ⟨hok⟩ o ⟨hx⟩ hn (by omega)
  · exact askPlain_ok w0 w L h hm 4 _ _ o ⟨hx⟩ hn (by decide) (by decide) (by decide) ⟨fun w1 L1 hm1 => askP_record w0 w1 L1 h hm1 ⟨hok⟩ o (by omega)⟩
  · exact askBound_ok w0 w L h hm ⟨hok⟩ o ⟨hx⟩ hn (by omega)
  · exact askPlain_ok w0 w L h hm 6 _ _ o ⟨hx⟩ hn (by decide) (by decide) (by decide) ⟨fun w1 L1 hm1 => askP_chan w0 w1 L1 h hm1 ⟨hok⟩ o (by omega)⟩
  · exact askPlain_ok w0 w L h hm 7 _ _ o ⟨hx⟩ hn (by decide) (by decide) (by decide) ⟨fun w1 L1 hm1 => askP_get w0 w1 L1 h hm1 ⟨hok⟩ o⟩
  · exact askPlain_ok w0 w L h hm 8 _ _ o ⟨hx⟩ hn (by decide) (by decide) (by decide) ⟨fun w1 L1 hm1 => askP_set w0 w1 L1 h hm1 ⟨hok⟩ o⟩
  · exact askPlain_ok w0 w L h hm 9 _ _ o ⟨hx⟩ hn (by decide) (by decide) (by decide) ⟨fun w1 L1 hm1 => askP_push w0 w1 L1 h hm1 ⟨hok⟩ o⟩
  · exact askPlain_ok w0 w L h hm 10 _ _ o ⟨hx⟩ hn (by decide) (by decide) (by decide) ⟨fun w1 L1 hm1 => askP_size w0 w1 L1 h hm1 ⟨hok⟩ o⟩
  · exact askPlain_ok w0 w L h hm 11 _ _ o ⟨hx⟩ hn (by decide) (by decide) (by decide) ⟨fun w1 L1 hm1 => askPlain_more w0 w1 L1 h hm1 11 (by omega) (by omega) _ _ o ⟨fun w2 L2 hm2 => askM_field w0 w2 L2 h hm2 ⟨hok⟩ o ⟨hw⟩⟩⟩
  · exact askPlain_ok w0 w L h hm 12 _ _ o ⟨hx⟩ hn (by decide) (by decide) (by decide) ⟨fun w1 L1 hm1 => askPlain_more w0 w1 L1 h hm1 12 (by omega) (by omega) _ _ o ⟨fun w2 L2 hm2 => askM_setf w0 w2 L2 h hm2 ⟨hok⟩ o ⟨hw⟩⟩⟩
  · exact askPlain_ok w0 w L h hm 13 _ _ o ⟨hx⟩ hn (by decide) (by decide) (by decide) ⟨fun w1 L1 hm1 => askPlain_more w0 w1 L1 h hm1 13 (by omega) (by omega) _ _ o ⟨fun w2 L2 hm2 => askM_has w0 w2 L2 h hm2 ⟨hok⟩ o ⟨hw⟩⟩⟩
  · exact askPlain_ok w0 w L h hm 14 _ _ o ⟨hx⟩ hn (by decide) (by decide) (by decide) ⟨fun w1 L1 hm1 => askPlain_more w0 w1 L1 h hm1 14 (by omega) (by omega) _ _ o ⟨fun w2 L2 hm2 => askM_delete w0 w2 L2 h hm2 ⟨hok⟩ o ⟨hw⟩⟩⟩
  · exact askPlain_ok w0 w L h hm 15 _ _ o ⟨hx⟩ hn (by decide) (by decide) (by decide) ⟨fun w1 L1 hm1 => askPlain_more w0 w1 L1 h hm1 15 (by omega) (by omega) _ _ o ⟨fun w2 L2 hm2 => askM_keys w0 w2 L2 h hm2 ⟨hok⟩ o hf (by omega)⟩⟩
  · exact askPlain_ok w0 w L h hm 16 _ _ o ⟨hx⟩ hn (by decide) (by decide) (by decide) ⟨fun w1 L1 hm1 => askPlain_more w0 w1 L1 h hm1 16 (by omega) (by omega) _ _ o ⟨fun w2 L2 hm2 => askM_send w0 w2 L2 h hm2 ⟨hok⟩ o hf⟩⟩
  · exact askPlain_ok w0 w L h hm 17 _ _ o ⟨hx⟩ hn (by decide) (by decide) (by decide) ⟨fun w1 L1 hm1 => askPlain_more w0 w1 L1 h hm1 17 (by omega) (by omega) _ _ o ⟨fun w2 L2 hm2 => askM_recv w0 w2 L2 h hm2 ⟨hok⟩ o⟩⟩
  · exact askPlain_ok w0 w L h hm 18 _ _ o ⟨hx⟩ hn (by decide) (by decide) (by decide) ⟨fun w1 L1 hm1 => askPlain_more w0 w1 L1 h hm1 18 (by omega) (by omega) _ _ o ⟨fun w2 L2 hm2 => askM_shut w0 w2 L2 h hm2 ⟨hok⟩ o⟩⟩
  · exact sdV_small _ _ _ _
  · exact sdV_small _ _ _ _
  · exact ⟨(at_small hok _).1, (at_small hok _).2, by simp [callR, mkR]⟩
  · exact makeV_small _ _ _ _
  · exact makeV_small _ _ _ _
  · exact makeV_small _ _ _ _
  · exact makeV_small _ _ _ _
  all_goals exact sdV_small _ _ _ _
theorem PlayG.sub {w0 : World} {ks ks' : List Nat} {S : Nat → Hs → HOp → Hs} {R : Nat → Hs → HOp → Sd} (h : PlayG w0 ks S R) (hs : ∀ c, c ∈ ks' → c ∈ ks) : PlayG w0 ks' S R :=
  ⟨fun c hc => h.told c (hs c hc), fun c hc => h.ask c (hs c hc), fun c hc => h.grow c (hs c hc), fun c hc => h.few c (hs c hc), fun c hc => h.size c (hs c hc)⟩
end Go.Proofs.Ytpibchjkmaghnaa
namespace Go.Proofs.Ytpibchjkmaghnaa
open Go.RowKit Go.Mm
set_option maxHeartbeats 1000000
set_option maxRecDepth 100000
/-- What values name and was not met yet is put behind what was met. -/
def meetL (l : List Ob) : List Nat → List V2 → List Nat
  | out, [] => out
  | out, v :: vs => match nm l v with
    | some i => if i ∈ out then meetL l out vs else meetL l (out ++ [i]) vs
    | none => meetL l out vs
/-- The list of what was met is gone through from number i. -/
def reachL (l : List Ob) : Nat → Nat → List Nat → List Nat
  | 0, _, out => out
  | f + 1, i, out => if i < out.length then reachL l f (i + 1) (meetL l out (l.getD (out.getD i 0) ob0).items) else out
def reachR (l : List Ob) (vs : List V2) : List Nat := reachL l (l.length + 1) 0 (meetL l [] vs)
/-- What is met: each once, each of an object. -/
def MetOk (l : List Ob) (out : List Nat) : Prop := out.Nodup ∧ ∀ i, i ∈ out → i < l.length
theorem nm_lt {l : List Ob} {v : V2} {i : Nat} (h : nm l v = some i) : i < l.length ∧ v.2 = i := by
  unfold nm at h
  split at h
  · rename_i q
    cases h
    obtain ⟨q0, q1, _⟩ := q
    exact ⟨by omega, by omega⟩
  · cases h
theorem meetL_ok (l : List Ob) (vs : List V2) : ∀ (out : List Nat), MetOk l out → MetOk l (meetL l out vs) := by
  induction vs with
  | nil => exact fun out h => h
  | cons v vs ih =>
    intro out h
    unfold meetL
    cases hn : nm l v with
    | none => exact ih out h
    | some i =>
      simp only
      by_cases q : i ∈ out
      · rw [if_pos q]; exact ih out h
      · rw [if_neg q]
        refine ih _ ⟨?_, fun j hj => ?_⟩
        · rw [List.nodup_append]
          exact ⟨h.1, by simp, fun a ha b hb => by simp at hb; subst hb; exact fun e => q (by rw [← e]; exact ha)⟩
        · rcases List.mem_append.1 hj with hj | hj
          · exact h.2 j hj
          · simp at hj; subst hj; exact (nm_lt hn).1
theorem meetL_grow (l : List Ob) (vs : List V2) : ∀ (out : List Nat), out.length ≤ (meetL l out vs).length := by
  induction vs with
  | nil => exact fun out => Nat.le_refl _
  | cons v vs ih =>
    intro out
    unfold meetL
    cases nm l v with
    | none => exact ih out
    | some i =>
      simp only
      split
      · exact ih out
      · have := ih (out ++ [i])
        rw [List.length_append] at this
        simp only [List.length_singleton] at this
        omega
theorem nodup_len : ∀ (n : Nat) (out : List Nat), out.Nodup → (∀ i, i ∈ out → i < n) → out.length ≤ n
  | 0, out, _, h => by
    cases out with
    | nil => exact Nat.le_refl _
    | cons a l => exact absurd (h a (by simp)) (by omega)
  | n + 1, out, hd, h => by
    by_cases q : n ∈ out
    · have h1 := nodup_len n (out.erase n) (hd.erase n) (fun i hi => by
        have h2 := (List.Nodup.mem_erase_iff hd).1 hi
        have h3 := h i h2.2
        have h4 := h2.1
        omega)
      rw [List.length_erase_of_mem q] at h1
      omega
    · have h1 := nodup_len n out hd (fun i hi => by
        have h3 := h i hi
        have h4 : i ≠ n := fun e => q (by rw [← e]; exact hi)
        omega)
      omega
theorem MetOk.len {l : List Ob} {out : List Nat} (h : MetOk l out) : out.length ≤ l.length := nodup_len _ _ h.1 h.2
theorem meetL_snoc (l : List Ob) (vs : List V2) (v : V2) : ∀ (out : List Nat), meetL l out (vs ++ [v]) = match nm l v with | some i => if i ∈ meetL l out vs then meetL l out vs else meetL l out vs ++ [i] | none => meetL l out vs := by
  induction vs with
  | nil =>
    intro out
    show meetL l out [v] = _
    unfold meetL
    cases nm l v <;> rfl
  | cons u vs ih =>
    intro out
    rw [List.cons_append]
    unfold meetL
    cases nm l u with
    | none => exact ih out
    | some j =>
      simp only
      by_cases q : j ∈ out
      · rw [if_pos q, if_pos q]; exact ih out
      · rw [if_neg q, if_neg q]; exact ih _
theorem reachL_step (l : List Ob) (i : Nat) (out : List Nat) (hi : i < out.length) (hl : i < l.length) : reachL l (l.length + 1 - i) i out = reachL l (l.length + 1 - (i + 1)) (i + 1) (meetL l out (l.getD (out.getD i 0) ob0).items) := by
  rw [show l.length + 1 - i = (l.length + 1 - (i + 1)) + 1 by omega]
  conv => lhs; unfold reachL
  rw [if_pos hi]
theorem reachL_end (l : List Ob) (f i : Nat) (out : List Nat) (hi : out.length ≤ i) : reachL l f i out = out := by
  cases f with
  | zero => rfl
  | succ f => unfold reachL; rw [if_neg (by omega)]
theorem reachL_ok (l : List Ob) : ∀ (f i : Nat) (out : List Nat), MetOk l out → MetOk l (reachL l f i out) := by
  intro f
  induction f with
  | zero => exact fun i out h => h
  | succ f ih =>
    intro i out h
    unfold reachL
    split
    · exact ih _ _ (meetL_ok l _ out h)
    · exact h
theorem reachR_ok (l : List Ob) (vs : List V2) : MetOk l (reachR l vs) := reachL_ok l _ _ _ (meetL_ok l vs [] ⟨List.nodup_nil, fun i h => by cases h⟩)
/-- Numbers, as they lie in memory. -/
def outV (out : List Nat) : List Value := nums .i64 (out.map Int.ofNat)
/-- Which of n were met. -/
def metV (n : Nat) (out : List Nat) : List Value := (List.range n).map fun i => .bool (decide (i ∈ out))
theorem metV_len (n : Nat) (out : List Nat) : (metV n out).length = n := by simp [metV]
theorem metV_at (n : Nat) (out : List Nat) (i : Nat) (h : i < n) : (metV n out)[i]? = some (.bool (decide (i ∈ out))) := by simp [metV, h]
theorem metV_one (n : Nat) (out : List Nat) : One (metV n out) := fun u hu => by
  simp only [metV, List.mem_map] at hu
  obtain ⟨i, _, rfl⟩ := hu
  rfl
theorem metV_set (n : Nat) (out : List Nat) (i : Nat) (h : i < n) : (metV n out).take i ++ [.bool true] ++ (metV n out).drop (i + 1) = metV n (out ++ [i]) := by
  have e : (metV n out).take i ++ [.bool true] ++ (metV n out).drop (i + 1) = (metV n out).set i (.bool true) := by
    rw [List.set_eq_take_append_cons_drop, if_pos (by rw [metV_len]; exact h)]
    simp
  rw [e]
  apply List.ext_getElem?
  intro j
  by_cases hj : j < n
  · by_cases q : i = j
    · subst q
      rw [List.getElem?_set_self (by rw [metV_len]; exact h), metV_at n _ i h]
      simp
    · rw [List.getElem?_set_ne q, metV_at n _ j hj, metV_at n _ j hj]
      have : (decide (j ∈ out)) = decide (j ∈ out ++ [i]) := by
        apply decide_eq_decide.2
        simp only [List.mem_append, List.mem_singleton]
        constructor
        · exact .inl
        · rintro (h | h)
          · exact h
          · exact absurd h.symm q
      rw [this]
  · rw [List.getElem?_eq_none (by rw [List.length_set, metV_len]; omega), List.getElem?_eq_none (by rw [metV_len]; omega)]
theorem outV_snoc (out : List Nat) (i : Nat) : outV (out ++ [i]) = outV out ++ [.int .i64 (i : Int)] := by simp [outV, nums]
theorem outV_len (out : List Nat) : (outV out).length = out.length := by simp [outV]
theorem metV_nil (n : Nat) : metV n [] = List.replicate n (.bool false) := by
  apply List.ext_getElem?
  intro j
  by_cases hj : j < n
  · rw [metV_at n [] j hj]; simp [hj]
  · rw [List.getElem?_eq_none (by rw [metV_len]; omega), List.getElem?_eq_none (by simp; omega)]
end Go.Proofs.Ytpibchjkmaghnaa
namespace Go.Proofs.Ytpibchjkmaghnaa
open Go.RowKit Go.Mm
set_option maxHeartbeats 4000000
set_option maxRecDepth 100000
set_option linter.unusedSimpArgs false
theorem inf_int : (Try.prog.info? 3).map (fun i => (i.zero, i.size, i.bytes)) = some (some (.int .i64 0), 1, 8) := by kernel_rfl
theorem inf_bool : (Try.prog.info? 4).map (fun i => (i.zero, i.size, i.bytes)) = some (some (.bool false), 1, 1) := by kernel_rfl
theorem ty_ints : Try.prog.underlying 55 = some (.slice 3) := by kernel_rfl
theorem ty_bools : Try.prog.underlying 68 = some (.slice 4) := by kernel_rfl
theorem nmB_isSome {s : Hs} (hg : s.Good) (v : V2) : nmB s.objs v = (nm s.objs v).isSome := by
  cases hn : nm s.objs v with
  | none => unfold nmB; rw [hn]; simp
  | some i => rw [(nm_good hg hn).1]; rfl
theorem take_snocV (xs : List V2) (k : Nat) (h : k < xs.length) : xs.take (k + 1) = xs.take k ++ [xs.getD k (0, 0)] := by
  rw [List.take_succ_eq_append_getElem h]; simp [h]
theorem refMeet_ok (w0 w : World) (L : List Chunk) (r : Rf) (hh : RfC r ∈ L) (hok : Fact r.Ok) (hg : Fact r.abs.Good) (S : Option Addr) (sc : Nat) (O : Option Addr) (oc : Nat) (out : List Nat) (ho : MetOk r.abs.objs out)
    (hm : Mem w0 w (Own 1 (.slice S r.xs.length sc) (metV r.xs.length out) :: Own 1 (.slice O out.length oc) (outV out) :: L)) (V : Option Addr) (m c : Nat) (vs : List V2) (hvs : Fact (∀ W, Mem w0 W L → RdC W 2 (.slice V m c) (fV vs))) (hmm : m ≤ 16777216) :
    Calls Try.prog 65 #[.slice r.A r.xs.length r.c, .slice S r.xs.length sc, .slice O out.length oc, .slice V m c] w fun e w' => ∃ (O' : Option Addr) (oc' : Nat), e = .returned (.slice O' (meetL r.abs.objs out vs).length oc') ∧ Mem w0 w' (Own 1 (.slice S r.xs.length sc) (metV r.xs.length (meetL r.abs.objs out vs)) :: Own 1 (.slice O' (meetL r.abs.objs out vs).length oc') (outV (meetL r.abs.objs out vs)) :: L) := by
  obtain ⟨iI, hiI, yz0, yz1, yz2⟩ := info_parts inf_int
  have hxl := hok.out.size
  have hvl := Fact.mk (rdV_len (hvs.out w hm.tail.tail))
  have hol := r.abs_len
  have hnames := fun (W : World) (L1 : List Chunk) (h1 : Mem w0 W L1) (h2 : RfC r ∈ L1) (v : V2) => refNames_ok W r.A r.xs.length r.c r.xs ⟨(Rf.read h1 h2).2.2.2⟩ hxl v.1 v.2
  have hiso := fun v => nmB_isSome hg.out v
  rw [show r.xs.map (·.ob) = r.abs.objs from rfl] at hnames
  have hmet := fun k => meetL_ok r.abs.objs (vs.take k) out ho
  have hml := fun k => (hmet k).len
  generalize r.abs.objs = obs at hnames hiso hmet hml hol ho ⊢
  replace hnames := Fact.mk hnames
  replace hiso := Fact.mk hiso
  replace hmet := Fact.mk hmet
  replace hml := Fact.mk hml
  replace hol := Fact.mk hol
  go_enter Try.func65, Try.ntmps65
  go_wp2
  go_loopw [2, 9] (fun s2 s9 W => ∃ (k : Nat) (O1 : Option Addr) (oc1 : Nat) (o1 : List Nat), s9 = .int .i64 k ∧ k ≤ m ∧ Fact (o1 = meetL obs out (vs.take k)) ∧ s2 = .slice O1 o1.length oc1 ∧ Mem w0 W (Own 1 (.slice S r.xs.length sc) (metV r.xs.length o1) :: Own 1 (.slice O1 o1.length oc1) (outV o1) :: L)) (fun _ s9 _ => m - (intOf s9).toNat)
  case atStart => exact ⟨0, O, oc, out, rfl, by omega, ⟨rfl⟩, rfl, hm⟩
  case round =>
    obtain ⟨k, O1, oc1, o1, rfl, hk, ho1, rfl, hmr⟩ := hrel
    clear hm
    have hl1 : o1.length ≤ 16777216 := by have h1 := hml.out k; rw [← ho1.out, hol.out] at h1; omega
    by_cases hlt : k < m
    · obtain ⟨b, o, rfl, g1, g2, _, hkl⟩ := rdV_at (hvs.out wr hmr.tail.tail) k hlt
      have hsn := meetL_snoc obs (vs.take k) (vs.getD k (0, 0)) out
      rw [← take_snocV vs k hkl, ← ho1.out] at hsn
      have hnm := hnames.out wr _ hmr (.tail _ (.tail _ hh)) (vs.getD k (0, 0))
      have his := hiso.out (vs.getD k (0, 0))
      have hcell : ∀ W, Mem w0 W L → W.cell? ⟨b, o + k * 2 + 1, none⟩ = some (.int .i64 (vs.getD k (0, 0)).2) := fun W hW => by
        obtain ⟨b', o', hb', _, k4, _, _⟩ := rdV_at (hvs.out W hW) k hlt
        cases hb'
        exact k4
      generalize vs.getD k (0, 0) = v at g1 g2 hsn hnm his hcell
      replace hcell := Fact.mk hcell
      rw [show ((v.1, v.2) : V2) = v from rfl, his] at hnm
      cases hn : nm obs v with
      | none =>
        rw [hn] at hnm hsn
        simp only [Option.isSome_none] at hnm
        replace hnm := Fact.mk hnm
        replace hsn := Fact.mk hsn
        clear his hn
        go_wp2_with (refine wp_rng rfl 27 _ rfl b (o + k * 2) rfl (cV v) (rng2 g1 g2) row_V sz_V ?_)
        refine hnm.out.mono ?_
        rintro e w2 ⟨rfl, hg2⟩
        go_wp2
        go_roundw
        case rel => exact ⟨k + 1, O1, oc1, o1, by go_num, by omega, ⟨hsn.out.symm⟩, rfl, hmr.gr hg2⟩
        case measure => exact measP_lt hlt
      | some i =>
        obtain ⟨hil, hvi⟩ := nm_lt hn
        rw [hn] at hnm hsn
        simp only [Option.isSome_some] at hnm
        simp only at hsn
        replace hnm := Fact.mk hnm
        have hir : i < r.xs.length := by rw [← hol.out]; exact hil
        have hg2' := g2
        rw [hvi] at hg2'
        replace hvi := Fact.mk hvi
        clear his hn
        go_wp2_with (refine wp_rng rfl 27 _ rfl b (o + k * 2) rfl (cV v) (rng2 g1 g2) row_V sz_V ?_)
        refine hnm.out.mono ?_
        rintro e w2 ⟨rfl, hg2⟩
        have hm2 := hmr.gr hg2
        have k2 := Gr.cell hg2 hg2'
        clear g1 g2 hg2' hmr hg2
        obtain ⟨bs, os, hS⟩ := OwnAt.addr (hm2.ok _ m0) (by have := OwnAt.cap (hm2.ok _ m0); omega)
        have hs1 : w2.cell? ⟨bs, os + i, none⟩ = some (.bool (decide (i ∈ o1))) := by
          obtain ⟨bs', os', c0, hS', h1, h2, _⟩ := (hm2.rd m0).at1 i hir
          rw [hS] at hS'
          cases hS'
          rw [metV_at _ _ i hir] at h2
          rw [h1, h2]
        rw [hS] at hm2
        rw [hS]
        replace hS := Fact.mk hS
        by_cases q : i ∈ o1
        · rw [decide_eq_true q] at hs1
          rw [if_pos q] at hsn
          replace hsn := Fact.mk hsn
          clear q
          go_wp2
          try rw [← hS.out]
          go_roundw
          case rel => exact ⟨k + 1, O1, oc1, o1, by go_num, by omega, ⟨hsn.out.symm⟩, rfl, by rw [hS.out]; exact hm2⟩
          case measure => exact measP_lt hlt
        · rw [decide_eq_false q] at hs1
          rw [if_neg q] at hsn
          replace hsn := Fact.mk hsn
          have hset := metV_set r.xs.length o1 i hir
          replace hset := Fact.mk hset
          have hsl := Fact.mk (show i + [(.bool true : Value)].length ≤ (metV r.xs.length o1).length by rw [metV_len]; simp only [List.length_singleton]; omega)
          have hgl : Fact ((o1 ++ [i]).length = o1.length + 1) := ⟨by simp⟩
          clear q
          go_wp2_with (first | (refine wp_ownat rfl 4 _ _ rfl (os + i) i rfl rfl [.bool true] _ rfl rfl hm2 sz_bool hsl.out (one_one rfl) ?_; intro w4 hm4; have k4 := hcell.out w4 hm4.tail.tail; rw [hvi.out] at k4) | (at_builtin; refine wp_app rfl _ _ _ rfl 3 iI _ 1 8 ty_ints hiI yz0 yz1 yz2 rfl O1 o1.length oc1 _ rfl (hm4.alloc _).pull2 _ 1 1 [.int .i64 (i : Int)] rfl (RdC.lit _ _ _ _ _ rfl (by simp [maxLen]) (one_one rfl)) (by unfold maxLen; omega) (by omega) ?_; intro A5 c5 w5 HM5))
          have hm6 : Mem w0 w5 (Own 1 (.slice S r.xs.length sc) (metV r.xs.length (o1 ++ [i])) :: Own 1 (.slice A5 (o1 ++ [i]).length c5) (outV (o1 ++ [i])) :: L) := by
            rw [hgl.out, ← hset.out, outV_snoc, hS.out]
            exact HM5.drop2.swap
          rw [← hgl.out]
          try rw [← hS.out]
          go_roundw
          case rel => exact ⟨k + 1, A5, c5, o1 ++ [i], by go_num, by omega, ⟨hsn.out.symm⟩, rfl, hm6⟩
          case measure => exact measP_lt hlt
    · obtain rfl : k = m := by omega
      rw [List.take_of_length_le (by rw [hvl.out]; exact Nat.le_refl _)] at ho1
      have e := ho1.out
      subst e
      go_wp2
      go_ret
      exact ⟨O1, oc1, rfl, hmr⟩
theorem Rf.items_at {w0 w : World} {L : List Chunk} {r : Rf} (hm : Mem w0 w L) (hh : RfC r ∈ L) (j : Nat) (hj : j < r.xs.length) :
    ∃ b o, r.A = some ⟨b, o, none⟩ ∧ w.cell? ⟨b, o + j * 6 + 1, none⟩ = some (.slice (r.xs.getD j ro0).A (r.xs.getD j ro0).ob.items.length (r.xs.getD j ro0).c) ∧ RdC w 2 (.slice (r.xs.getD j ro0).A (r.xs.getD j ro0).ob.items.length (r.xs.getD j ro0).c) (fV (r.xs.getD j ro0).ob.items) := by
  obtain ⟨_, _, _, hobs⟩ := Rf.read hm hh
  obtain ⟨b, o, hA, hc, _, hrd⟩ := hobs.at j hj
  exact ⟨b, o, hA, hc 1 _ rfl, hrd.1⟩
theorem outV_at (out : List Nat) (i : Nat) (h : i < out.length) : (outV out)[i]? = some (.int .i64 (out.getD i 0 : Nat)) := by simp [outV, nums, h]
theorem refReach_ok (w0 w : World) (L : List Chunk) (r : Rf) (hm : Mem w0 w L) (hh : RfC r ∈ L) (hok : Fact r.Ok) (hg : Fact r.abs.Good) (V : Option Addr) (m c : Nat) (vs : List V2) (hvs : Fact (∀ W, Mem w0 W L → RdC W 2 (.slice V m c) (fV vs))) (hmm : m ≤ 16777216) :
    Calls Try.prog 26 #[.slice r.A r.xs.length r.c, .slice V m c] w fun e w' => ∃ (O' : Option Addr) (oc' : Nat), e = .returned (.slice O' (reachR r.abs.objs vs).length oc') ∧ Mem w0 w' (Own 1 (.slice O' (reachR r.abs.objs vs).length oc') (outV (reachR r.abs.objs vs)) :: L) := by
  obtain ⟨iB, hiB, yz0, yz1, yz2⟩ := info_parts inf_bool
  have hxl := hok.out.size
  have hol := Fact.mk r.abs_len
  have hszs : Fact (∀ j, j < r.xs.length → (r.xs.getD j ro0).ob.items.length ≤ 1048576) := ⟨fun j hj => (hok.out.each _ (by rw [List.getD_eq_getElem?_getD, List.getElem?_eq_getElem hj]; exact List.getElem_mem _)).1⟩
  have hat : Fact (∀ j, j < r.xs.length → r.abs.objs.getD j ob0 = (r.xs.getD j ro0).ob) := ⟨fun j hj => r.at_abs hj⟩
  have hread := fun (W : World) (L1 : List Chunk) (h1 : Mem w0 W L1) (h2 : RfC r ∈ L1) (j : Nat) (hj : j < r.xs.length) => Rf.items_at h1 h2 j hj
  have hmeet := fun (W : World) (S : Option Addr) (sc : Nat) (O : Option Addr) (oc : Nat) (out : List Nat) (ho : MetOk r.abs.objs out) (h1 : Mem w0 W (Own 1 (.slice S r.xs.length sc) (metV r.xs.length out) :: Own 1 (.slice O out.length oc) (outV out) :: L)) (V : Option Addr) (m c : Nat) (vs : List V2) (h2 : ∀ W, Mem w0 W L → RdC W 2 (.slice V m c) (fV vs)) (h3 : m ≤ 16777216) => refMeet_ok w0 W L r hh hok hg S sc O oc out ho h1 V m c vs ⟨h2⟩ h3
  obtain ⟨F, hF⟩ : ∃ F, reachR r.abs.objs vs = F := ⟨_, rfl⟩
  rw [hF]
  unfold reachR at hF
  generalize r.abs.objs = obs at hmeet hF hol hat
  replace hF := Fact.mk hF
  replace hread := Fact.mk hread
  replace hmeet := Fact.mk hmeet
  go_enter Try.func26, Try.ntmps26
  go_wp2
  go_loopw [5, 6] (fun s5 s6 W => ∃ (k : Nat) (S : Option Addr) (sc : Nat), s6 = .int .i64 k ∧ k ≤ r.xs.length ∧ s5 = .slice S k sc ∧ Mem w0 W (Own 1 (.slice S k sc) (List.replicate k (.bool false)) :: L)) (fun _ s6 _ => r.xs.length - (intOf s6).toNat)
  case atStart => exact ⟨0, none, 0, rfl, by omega, rfl, Mem.nil hm 1 none⟩
  case round =>
    obtain ⟨k, S, sc, rfl, hk, rfl, hmr⟩ := hrel
    clear hm
    by_cases hlt : k < r.xs.length
    · go_wp2_with (at_builtin; refine wp_app rfl _ _ _ rfl 4 iB _ 1 1 ty_bools hiB yz0 yz1 yz2 rfl S k sc _ rfl (hmr.alloc _).swap _ 1 1 [.bool false] rfl (RdC.lit _ _ _ _ _ rfl (by simp [maxLen]) (one_one rfl)) (by unfold maxLen; omega) (by omega) ?_; intro A5 c5 w5 HM5)
      go_roundw
      case rel => exact ⟨k + 1, A5, c5, by go_num, by omega, rfl, by rw [List.replicate_succ']; exact HM5.drop2⟩
      case measure => exact measP_lt hlt
    · obtain rfl : k = r.xs.length := by omega
      rw [← metV_nil] at hmr
      have hst := hmeet.out wr S sc none 0 [] ⟨List.nodup_nil, fun i h => by cases h⟩ ((Mem.nil hmr 1 none).swap) V m c vs hvs.out hmm
      replace hst := Fact.mk hst
      go_wp2_with fail
      refine hst.out.mono ?_
      rintro e w3 ⟨O3, oc3, rfl, hm3⟩
      have hmk0 : MetOk obs (meetL obs [] vs) := meetL_ok obs vs [] ⟨List.nodup_nil, fun i h => by cases h⟩
      obtain ⟨o0, ho0⟩ : ∃ o0, meetL obs [] vs = o0 := ⟨_, rfl⟩
      rw [ho0] at hm3 hmk0 hF ⊢
      rw [hol.out] at hF
      replace hmk0 := Fact.mk hmk0
      clear hst hmr ho0
      go_wp2
      go_loopw [7, 8] (fun s7 s8 W => ∃ (i : Nat) (O1 : Option Addr) (oc1 : Nat) (o1 : List Nat), s8 = .int .i64 i ∧ i ≤ o1.length ∧ Fact (MetOk obs o1) ∧ Fact (reachL obs (r.xs.length + 1 - i) i o1 = F) ∧ s7 = .slice O1 o1.length oc1 ∧ Mem w0 W (Own 1 (.slice S r.xs.length sc) (metV r.xs.length o1) :: Own 1 (.slice O1 o1.length oc1) (outV o1) :: L)) (fun _ s8 _ => r.xs.length - (intOf s8).toNat)
      case atStart => exact ⟨0, O3, oc3, o0, rfl, by omega, ⟨hmk0.out⟩, ⟨hF.out⟩, rfl, hm3⟩
      case round =>
        obtain ⟨i, O1, oc1, o1, rfl, hi, hmk, hrF, rfl, hmq⟩ := hrel
        clear hm3
        have hlen := hmk.out.len
        rw [hol.out] at hlen
        by_cases hit : i < o1.length
        · obtain ⟨bo, oo, c0, hO, h1, h2, _⟩ := (hmq.rd m1).at1 i hit
          have hji : o1.getD i 0 < r.xs.length := by
            have := hmk.out.2 (o1.getD i 0) (by rw [List.getD_eq_getElem?_getD, List.getElem?_eq_getElem hit]; exact List.getElem_mem _)
            rwa [hol.out] at this
          rw [outV_at _ _ hit] at h2
          have hstep := reachL_step obs i o1 hit (by rw [hol.out]; omega)
          rw [hol.out, hrF.out, hat.out _ hji] at hstep
          generalize o1.getD i 0 = j at h2 hji hstep
          cases h2
          obtain ⟨bx, ox, hA, f1, hr1⟩ := hread.out wr _ hmq (.tail _ (.tail _ hh)) j hji
          have hrr := fun (W : World) (h : Mem w0 W L) => hread.out W L h hh j hji
          have hszj := hszs.out j hji
          generalize r.xs.getD j ro0 = x at hstep f1 hr1 hrr hszj
          have hst := hmeet.out wr S sc O1 oc1 o1 hmk.out hmq x.A x.ob.items.length x.c x.ob.items (fun W h => by obtain ⟨_, _, _, _, h5⟩ := hrr W h; exact h5) (by omega)
          have hmk2 := meetL_ok obs x.ob.items o1 hmk.out
          replace hst := Fact.mk hst
          replace hstep := Fact.mk hstep
          replace hmk2 := Fact.mk hmk2
          have hge : i + 1 ≤ (meetL obs o1 x.ob.items).length := by
            have : o1.length ≤ (meetL obs o1 x.ob.items).length := meetL_grow obs x.ob.items o1
            omega
          rw [hO, hA]
          replace hO := Fact.mk hO
          replace hA := Fact.mk hA
          clear hr1 hrr
          go_wp2_with fail
          try rw [← hO.out]
          try rw [← hA.out]
          refine hst.out.mono ?_
          rintro e w4 ⟨O4, oc4, rfl, hm4⟩
          generalize meetL obs o1 x.ob.items = o2 at hm4 hstep hmk2 hge ⊢
          clear hst hmq
          go_wp2
          try rw [← hO.out]
          try rw [← hA.out]
          go_roundw
          case rel => exact ⟨i + 1, O4, oc4, o2, by go_num, hge, ⟨hmk2.out⟩, ⟨hstep.out.symm⟩, rfl, hm4⟩
          case measure => exact measP_lt (by omega)
        · have hil : i = o1.length := by omega
          have hFe : o1 = F := by rw [← hrF.out, reachL_end obs _ _ _ (by omega)]
          have hif : ((i : Int) < (o1.length : Int)) = False := eq_false (by omega)
          subst hFe
          go_wp2
          go_ret
          exact ⟨O1, oc1, rfl, hmq.tail⟩
end Go.Proofs.Ytpibchjkmaghnaa
namespace Go.Mm
open Go.RowKit
section
variable {P : Program} {ops : Array Oper} {Q : Exit → Act → World → Prop}
/-- A function's value, called. -/
def VCalls (P : Program) (v : Value) (args : List Value) (w : World) (R : Ending → World → Prop) : Prop :=
  ∃ f first cap bs, v = .func (.func f) first cap ∧ (callFunc f (first ++ args.toArray ++ cap)).run P w = .ok (.enter f bs) w ∧ Calls P f bs w R
theorem VCalls.mono {v : Value} {args : List Value} {w : World} {R R' : Ending → World → Prop} (h : VCalls P v args w R) (hr : ∀ e w', R e w' → R' e w') : VCalls P v args w R' :=
  let ⟨f, first, cap, bs, h1, h2, h3⟩ := h
  ⟨f, first, cap, bs, h1, h2, h3.mono hr⟩
theorem run_fnv {o : Oper} {a : Act} {w : World} (x : Operand) (xs : List Operand) (ts : Array TypeId) (ho : o.op = .call { callee := .value x, args := xs.toArray, argTypes := ts }) (f : FuncId) (first cap : Array Value) (hx : a.eval x = .func (.func f) first cap) (args : List Value) (ha : xs.map a.eval = args) :
    (execOp a.eval o).run P w = (callFunc f (first ++ args.toArray ++ cap)).run P w := by
  unfold execOp
  simp only [ho, resolve, Deferred.ofValue, Sem.run_bind, Sem.run_pure, Result.andThen_ok, hx, List.map_toArray, ha, invoke]
theorem step_fnv {o : Oper} {a : Act} {w : World} {K : Act → World → Prop} {E : Prop} (hw : Region.wanted o (yielded ops a.tmps) = true) (x : Operand) (xs : List Operand) (ts : Array TypeId) (ho : o.op = .call { callee := .value x, args := xs.toArray, argTypes := ts }) (v : Value) (hx : a.eval x = v) (args : List Value) (ha : xs.map a.eval = args)
    (h : VCalls P v args w fun e w' => ∃ r, e = .returned r ∧ K (a.put o.dst r) w') :
    if Region.wanted o (yielded ops a.tmps) = true then o.wp P a w K Q else E := by
  rw [if_pos hw]
  obtain ⟨f, first, cap, bs, h1, h2, h3⟩ := h
  unfold Oper.wp
  rw [run_fnv x xs ts ho f first cap (hx.trans h1) args ha, h2]
  exact h3.mono fun e w' he => by obtain ⟨r, rfl, hK⟩ := he; exact hK
theorem wp_fnv {o : Oper} {rest : List Oper} {a : Act} {w : World} (hw : Region.wanted o (yielded ops a.tmps) = true) (x : Operand) (xs : List Operand) (ts : Array TypeId) (ho : o.op = .call { callee := .value x, args := xs.toArray, argTypes := ts }) (v : Value) (hx : a.eval x = v) (args : List Value) (ha : xs.map a.eval = args)
    (h : VCalls P v args w fun e w' => ∃ r, e = .returned r ∧ wpList P ops Q rest (a.put o.dst r) w') : wpList P ops Q (o :: rest) a w := by
  refine wpList_want hw fun K hK => ?_
  obtain ⟨f, first, cap, bs, h1, h2, h3⟩ := h
  unfold Oper.wp
  rw [run_fnv x xs ts ho f first cap (hx.trans h1) args ha, h2]
  exact h3.mono fun e w' he => by obtain ⟨r, rfl, hr⟩ := he; exact hK _ _ hr
end
end Go.Mm
namespace Go.Proofs.Ytpibchjkmaghnaa
open Go.RowKit Go.Mm
set_option maxHeartbeats 4000000
set_option maxRecDepth 100000
set_option linter.unusedSimpArgs false
theorem and_top (N : Int) : bits BinOp.and IntKind.i64 N 9223372036854775807 = ((BitVec.ofInt 64 N &&& 9223372036854775807#64).toNat : Int) := by
  have h : (BitVec.ofInt 64 N &&& 9223372036854775807#64).toNat ≤ 9223372036854775807 := by
    rw [BitVec.toNat_and]
    exact Nat.and_le_right
  show IntKind.i64.wrap ((BitVec.ofInt 64 N &&& 9223372036854775807#64).toNat : Int) = _
  exact IntWalk.i64_in _ (by constructor <;> omega)
theorem and_topu (N : Int) : bits BinOp.and IntKind.u64 (IntKind.u64.wrap N) 9223372036854775807 = ((BitVec.ofInt 64 N &&& 9223372036854775807#64).toNat : Int) := by
  have e : BitVec.ofInt 64 (IntKind.u64.wrap N) = BitVec.ofInt 64 N := by
    apply BitVec.eq_of_toInt_eq
    simp only [BitVec.toInt_ofInt, IntKind.wrap, IntKind.bits, IntKind.signed, Bool.false_and, Bool.false_eq_true, if_false]
    rw [show ((2 : Int) ^ 64) = ((2 ^ 64 : Nat) : Int) from rfl]
    exact Int.emod_bmod ..
  have h : (BitVec.ofInt 64 N &&& 9223372036854775807#64).toNat ≤ 9223372036854775807 := by
    rw [BitVec.toNat_and]
    exact Nat.and_le_right
  show IntKind.u64.wrap ((BitVec.ofInt 64 (IntKind.u64.wrap N) &&& 9223372036854775807#64).toNat : Int) = _
  rw [e]
  generalize (BitVec.ofInt 64 N &&& 9223372036854775807#64).toNat = x at h
  simp only [IntKind.wrap, IntKind.bits, IntKind.signed, Bool.false_and, Bool.false_eq_true, if_false]
  omega
/-- A number that a real may have. -/
def realB (n : Int) : Bool := n == 9221120237041090560 || decide (bits BinOp.and IntKind.i64 n 9223372036854775807 ≤ 9218868437227405312)
theorem realB_ref (n : Int) (h0 : -9223372036854775808 ≤ n) (h1 : n ≤ 9223372036854775807) : (decide (bits BinOp.and IntKind.u64 (IntKind.u64.wrap n) 9223372036854775807 ≤ 9218868437227405312) || (IntKind.u64.wrap n == 9221120237041090560)) = realB n := by
  unfold realB
  rw [and_top, and_topu, Bool.or_comm]
  congr 1
  have e : IntKind.u64.wrap n = n % 18446744073709551616 := by simp [IntKind.wrap, IntKind.bits, IntKind.signed]
  rw [e]
  by_cases q : n = 9221120237041090560
  · subst q; rfl
  · rw [beq_eq_false_iff_ne.2 q, beq_eq_false_iff_ne.2 (by omega)]
theorem half_zero (n : Int) : (n / 2 == 0) = (n == 0 || n == 1) := by
  by_cases q : n = 0
  · subst q; rfl
  by_cases q1 : n = 1
  · subst q1; rfl
  rw [beq_eq_false_iff_ne.2 q, beq_eq_false_iff_ne.2 q1, beq_eq_false_iff_ne.2 (by omega)]
  rfl
/-- Values that name no object: are they right? none: it may name one. -/
def flatB (v : V2) : Option Bool :=
  if v.1 = 0 then some (v.2 == 0) else if v.1 = 1 then some (v.2 == 0 || v.2 == 1) else if v.1 = 2 then some true else if v.1 = 3 then some (realB v.2) else if v.1 = 4 ∨ v.1 = 5 then some (decide (0 ≤ v.2)) else none
/-- A value that an object of the program's heap may hold. -/
def rightP (l : List Ob) (v : V2) : Bool := (flatB v).getD (nm l v).isSome
/-- As the document says it. -/
def rightV (l : List Ob) (v : V2) : Bool := (flatB v).getD (nmB l v)
theorem rightP_eq {l : List Ob} (hk : ∀ o, o ∈ l → o.kind = 6 ∨ o.kind = 7 ∨ o.kind = 8 ∨ o.kind = 9) (v : V2) : rightP l v = rightV l v := by
  unfold rightP rightV
  congr 1
  unfold nmB
  cases hn : nm l v with
  | none => simp
  | some i =>
    unfold nm at hn
    split at hn
    · rename_i q
      obtain ⟨q0, q1, q2⟩ := q
      have := hk (l.getD v.2.toNat ob0) (by rw [List.getD_eq_getElem?_getD, List.getElem?_eq_getElem (by omega)]; exact List.getElem_mem _)
      rw [q2] at this
      rw [decide_eq_true (by omega), decide_eq_true (by omega)]
      rfl
    · cases hn
theorem right_ok (w0 w : World) (L : List Chunk) (h : Hp) (hm : Mem w0 w L) (hh : HpC h ∈ L) (hok : Fact h.Ok) (K N : Int) :
    Calls Try.prog 82 #[.pointer (some ⟨h.g, 0, none⟩), .agg #[.int .i64 K, .int .i64 N]] w fun e w' => e = .returned (.bool (rightP h.objs (K, N))) ∧ Gr w w' := by
  generalize hl : h.objs = l
  by_cases q0 : K = 0
  · subst q0
    rw [show rightP l (0, N) = (N == 0) from rfl]
    go_enter Try.func82, Try.ntmps82
    go_upto_region 1 with (fail)
    have hm1 := hm.alloc (.cells [.int .i64 0, .int .i64 N].toArray 27)
    generalize hgb : w.heap.size = gb at hm1 ⊢
    generalize hw1 : w.alloc (.cells [.int .i64 0, .int .i64 N].toArray 27) = w1 at hm1
    try refine wp_world hw1 ?_
    have hg1 : Gr w w1 := by rw [← hw1]; exact (Gr.refl w).alloc _
    clear hw1 hgb
    have d0 := hm1.cell m0 0 rfl
    have d1 := hm1.cell m0 1 rfl
    go_wp2
    all_goals
      go_ret
      exact ⟨by first | rfl | (congr 2; simp [*]) | simp [*], hg1⟩
  by_cases q1 : K = 1
  · subst q1
    rw [show rightP l (1, N) = (N == 0 || N == 1) from rfl]
    rw [← half_zero]
    go_enter Try.func82, Try.ntmps82
    go_upto_region 1 with (fail)
    have hm1 := hm.alloc (.cells [.int .i64 1, .int .i64 N].toArray 27)
    generalize hgb : w.heap.size = gb at hm1 ⊢
    generalize hw1 : w.alloc (.cells [.int .i64 1, .int .i64 N].toArray 27) = w1 at hm1
    try refine wp_world hw1 ?_
    have hg1 : Gr w w1 := by rw [← hw1]; exact (Gr.refl w).alloc _
    clear hw1 hgb
    have d0 := hm1.cell m0 0 rfl
    have d1 := hm1.cell m0 1 rfl
    go_wp2
    all_goals
      go_ret
      exact ⟨by first | rfl | (congr 2; simp [*]) | simp [*], hg1⟩
  by_cases q2 : K = 2
  · subst q2
    rw [show rightP l (2, N) = (true) from rfl]
    go_enter Try.func82, Try.ntmps82
    go_upto_region 1 with (fail)
    have hm1 := hm.alloc (.cells [.int .i64 2, .int .i64 N].toArray 27)
    generalize hgb : w.heap.size = gb at hm1 ⊢
    generalize hw1 : w.alloc (.cells [.int .i64 2, .int .i64 N].toArray 27) = w1 at hm1
    try refine wp_world hw1 ?_
    have hg1 : Gr w w1 := by rw [← hw1]; exact (Gr.refl w).alloc _
    clear hw1 hgb
    have d0 := hm1.cell m0 0 rfl
    have d1 := hm1.cell m0 1 rfl
    go_wp2
    all_goals
      go_ret
      exact ⟨by first | rfl | (congr 2; simp [*]) | simp [*], hg1⟩
  by_cases q3 : K = 3
  · subst q3
    rw [show rightP l (3, N) = (realB N) from rfl]
    unfold realB
    go_enter Try.func82, Try.ntmps82
    go_upto_region 1 with (fail)
    have hm1 := hm.alloc (.cells [.int .i64 3, .int .i64 N].toArray 27)
    generalize hgb : w.heap.size = gb at hm1 ⊢
    generalize hw1 : w.alloc (.cells [.int .i64 3, .int .i64 N].toArray 27) = w1 at hm1
    try refine wp_world hw1 ?_
    have hg1 : Gr w w1 := by rw [← hw1]; exact (Gr.refl w).alloc _
    clear hw1 hgb
    have d0 := hm1.cell m0 0 rfl
    have d1 := hm1.cell m0 1 rfl
    go_wp2
    all_goals
      go_ret
      exact ⟨by first | rfl | (congr 2; simp [*]) | simp [*], hg1⟩
  by_cases q4 : K = 4
  · subst q4
    rw [show rightP l (4, N) = (decide (0 ≤ N)) from rfl]
    go_enter Try.func82, Try.ntmps82
    go_upto_region 1 with (fail)
    have hm1 := hm.alloc (.cells [.int .i64 4, .int .i64 N].toArray 27)
    generalize hgb : w.heap.size = gb at hm1 ⊢
    generalize hw1 : w.alloc (.cells [.int .i64 4, .int .i64 N].toArray 27) = w1 at hm1
    try refine wp_world hw1 ?_
    have hg1 : Gr w w1 := by rw [← hw1]; exact (Gr.refl w).alloc _
    clear hw1 hgb
    have d0 := hm1.cell m0 0 rfl
    have d1 := hm1.cell m0 1 rfl
    go_wp2
    all_goals
      go_ret
      exact ⟨by first | rfl | (congr 2; simp [*]) | simp [*], hg1⟩
  by_cases q5 : K = 5
  · subst q5
    rw [show rightP l (5, N) = (decide (0 ≤ N)) from rfl]
    go_enter Try.func82, Try.ntmps82
    go_upto_region 1 with (fail)
    have hm1 := hm.alloc (.cells [.int .i64 5, .int .i64 N].toArray 27)
    generalize hgb : w.heap.size = gb at hm1 ⊢
    generalize hw1 : w.alloc (.cells [.int .i64 5, .int .i64 N].toArray 27) = w1 at hm1
    try refine wp_world hw1 ?_
    have hg1 : Gr w w1 := by rw [← hw1]; exact (Gr.refl w).alloc _
    clear hw1 hgb
    have d0 := hm1.cell m0 0 rfl
    have d1 := hm1.cell m0 1 rfl
    go_wp2
    all_goals
      go_ret
      exact ⟨by first | rfl | (congr 2; simp [*]) | simp [*], hg1⟩
  have hr : rightP l (K, N) = (nm l (K, N)).isSome := by
    unfold rightP flatB
    rw [if_neg q0, if_neg q1, if_neg q2, if_neg q3, if_neg (by simp [q4, q5])]
    rfl
  rw [hr]
  clear hr
  replace q0 : (K == 0) = false := beq_eq_false_iff_ne.2 q0
  replace q1 : (K == 1) = false := beq_eq_false_iff_ne.2 q1
  replace q2 : (K == 2) = false := beq_eq_false_iff_ne.2 q2
  replace q3 : (K == 3) = false := beq_eq_false_iff_ne.2 q3
  replace q4 : (K == 4) = false := beq_eq_false_iff_ne.2 q4
  replace q5 : (K == 5) = false := beq_eq_false_iff_ne.2 q5
  go_enter Try.func82, Try.ntmps82
  go_upto_region 1 with (fail)
  have hm1 := hm.alloc (.cells [.int .i64 K, .int .i64 N].toArray 27)
  generalize hgb : w.heap.size = gb at hm1 ⊢
  generalize hw1 : w.alloc (.cells [.int .i64 K, .int .i64 N].toArray 27) = w1 at hm1
  try refine wp_world hw1 ?_
  have hg1 : Gr w w1 := by rw [← hw1]; exact (Gr.refl w).alloc _
  clear hw1 hgb
  have d0 := hm1.cell m0 0 rfl
  have d1 := hm1.cell m0 1 rfl
  cases hn : nm l (K, N) with
  | none =>
    have hnv : namedV h (K, N) = .nilIface := by unfold namedV; rw [hl, hn]
    go_wp2_with (refine wp_rng rfl 27 _ rfl gb 0 rfl (cV (K, N)) (rng_blk hm1 m0) row_V sz_V ?_)
    refine (named_ok w0 w1 _ h hm1 (.tail _ hh) hok K N).mono ?_
    rintro e w2 ⟨rfl, hg2⟩
    rw [hnv]
    go_wp2
    go_ret
    exact ⟨by rw [hn]; rfl, hg1.trans hg2⟩
  | some i =>
    have hnv : namedV h (K, N) = .iface (thTy (h.ths.getD i th0).ob.kind) (.pointer (some ⟨(h.ths.getD i th0).g, 0, none⟩)) := by unfold namedV; rw [hl, hn]; rfl
    generalize thTy (h.ths.getD i th0).ob.kind = T at hnv
    generalize (h.ths.getD i th0).g = g at hnv
    go_wp2_with (refine wp_rng rfl 27 _ rfl gb 0 rfl (cV (K, N)) (rng_blk hm1 m0) row_V sz_V ?_)
    refine (named_ok w0 w1 _ h hm1 (.tail _ hh) hok K N).mono ?_
    rintro e w2 ⟨rfl, hg2⟩
    rw [hnv]
    go_wp2
    go_ret
    exact ⟨by rw [hn]; rfl, hg1.trans hg2⟩
theorem refRight_ok (w0 w : World) (L : List Chunk) (hm : Mem w0 w L) (A : Option Addr) (n c : Nat) (xs : List RO) (hx : Fact (ObsR w A n c xs)) (hn : n ≤ 16777216) (K N : Int) (hw0 : -9223372036854775808 ≤ N) (hw1 : N ≤ 9223372036854775807) :
    Calls Try.prog 101 #[.slice A n c, .agg #[.int .i64 K, .int .i64 N]] w fun e w' => e = .returned (.bool (rightV (xs.map (·.ob)) (K, N))) ∧ Gr w w' := by
  generalize hl : xs.map (·.ob) = l
  by_cases q0 : K = 0
  · subst q0
    rw [show rightV l (0, N) = (N == 0) from rfl]
    go_enter Try.func101, Try.ntmps101
    go_upto_region 1 with (fail)
    have hm1 := hm.alloc (.cells [.int .i64 0, .int .i64 N].toArray 27)
    generalize hgb : w.heap.size = gb at hm1 ⊢
    generalize hwA : w.alloc (.cells [.int .i64 0, .int .i64 N].toArray 27) = w1 at hm1
    try refine wp_world hwA ?_
    have hg1 : Gr w w1 := by rw [← hwA]; exact (Gr.refl w).alloc _
    clear hwA hgb
    have d0 := hm1.cell m0 0 rfl
    have d1 := hm1.cell m0 1 rfl
    go_wp2
    all_goals
      go_ret
      exact ⟨by first | rfl | (congr 2; simp [*]) | simp [*], hg1⟩
  by_cases q1 : K = 1
  · subst q1
    rw [show rightV l (1, N) = (N == 0 || N == 1) from rfl]
    go_enter Try.func101, Try.ntmps101
    go_upto_region 1 with (fail)
    have hm1 := hm.alloc (.cells [.int .i64 1, .int .i64 N].toArray 27)
    generalize hgb : w.heap.size = gb at hm1 ⊢
    generalize hwA : w.alloc (.cells [.int .i64 1, .int .i64 N].toArray 27) = w1 at hm1
    try refine wp_world hwA ?_
    have hg1 : Gr w w1 := by rw [← hwA]; exact (Gr.refl w).alloc _
    clear hwA hgb
    have d0 := hm1.cell m0 0 rfl
    have d1 := hm1.cell m0 1 rfl
    go_wp2
    all_goals
      go_ret
      exact ⟨by first | rfl | (congr 2; simp [*]) | simp [*], hg1⟩
  by_cases q2 : K = 2
  · subst q2
    rw [show rightV l (2, N) = (true) from rfl]
    go_enter Try.func101, Try.ntmps101
    go_upto_region 1 with (fail)
    have hm1 := hm.alloc (.cells [.int .i64 2, .int .i64 N].toArray 27)
    generalize hgb : w.heap.size = gb at hm1 ⊢
    generalize hwA : w.alloc (.cells [.int .i64 2, .int .i64 N].toArray 27) = w1 at hm1
    try refine wp_world hwA ?_
    have hg1 : Gr w w1 := by rw [← hwA]; exact (Gr.refl w).alloc _
    clear hwA hgb
    have d0 := hm1.cell m0 0 rfl
    have d1 := hm1.cell m0 1 rfl
    go_wp2
    all_goals
      go_ret
      exact ⟨by first | rfl | (congr 2; simp [*]) | simp [*], hg1⟩
  by_cases q3 : K = 3
  · subst q3
    rw [show rightV l (3, N) = (realB N) from rfl]
    rw [← realB_ref N hw0 hw1]
    go_enter Try.func101, Try.ntmps101
    go_upto_region 1 with (fail)
    have hm1 := hm.alloc (.cells [.int .i64 3, .int .i64 N].toArray 27)
    generalize hgb : w.heap.size = gb at hm1 ⊢
    generalize hwA : w.alloc (.cells [.int .i64 3, .int .i64 N].toArray 27) = w1 at hm1
    try refine wp_world hwA ?_
    have hg1 : Gr w w1 := by rw [← hwA]; exact (Gr.refl w).alloc _
    clear hwA hgb
    have d0 := hm1.cell m0 0 rfl
    have d1 := hm1.cell m0 1 rfl
    go_wp2
    all_goals
      go_ret
      exact ⟨by first | rfl | (congr 2; simp [*]) | simp [*], hg1⟩
  by_cases q4 : K = 4
  · subst q4
    rw [show rightV l (4, N) = (decide (0 ≤ N)) from rfl]
    go_enter Try.func101, Try.ntmps101
    go_upto_region 1 with (fail)
    have hm1 := hm.alloc (.cells [.int .i64 4, .int .i64 N].toArray 27)
    generalize hgb : w.heap.size = gb at hm1 ⊢
    generalize hwA : w.alloc (.cells [.int .i64 4, .int .i64 N].toArray 27) = w1 at hm1
    try refine wp_world hwA ?_
    have hg1 : Gr w w1 := by rw [← hwA]; exact (Gr.refl w).alloc _
    clear hwA hgb
    have d0 := hm1.cell m0 0 rfl
    have d1 := hm1.cell m0 1 rfl
    go_wp2
    all_goals
      go_ret
      exact ⟨by first | rfl | (congr 2; simp [*]) | simp [*], hg1⟩
  by_cases q5 : K = 5
  · subst q5
    rw [show rightV l (5, N) = (decide (0 ≤ N)) from rfl]
    go_enter Try.func101, Try.ntmps101
    go_upto_region 1 with (fail)
    have hm1 := hm.alloc (.cells [.int .i64 5, .int .i64 N].toArray 27)
    generalize hgb : w.heap.size = gb at hm1 ⊢
    generalize hwA : w.alloc (.cells [.int .i64 5, .int .i64 N].toArray 27) = w1 at hm1
    try refine wp_world hwA ?_
    have hg1 : Gr w w1 := by rw [← hwA]; exact (Gr.refl w).alloc _
    clear hwA hgb
    have d0 := hm1.cell m0 0 rfl
    have d1 := hm1.cell m0 1 rfl
    go_wp2
    all_goals
      go_ret
      exact ⟨by first | rfl | (congr 2; simp [*]) | simp [*], hg1⟩
  have hr : rightV l (K, N) = nmB l (K, N) := by
    unfold rightV flatB
    rw [if_neg q0, if_neg q1, if_neg q2, if_neg q3, if_neg (by simp [q4, q5])]
    rfl
  rw [hr]
  clear hr
  replace q0 : (K == 0) = false := beq_eq_false_iff_ne.2 q0
  replace q1 : (K == 1) = false := beq_eq_false_iff_ne.2 q1
  replace q2 : (K == 2) = false := beq_eq_false_iff_ne.2 q2
  replace q3 : (K == 3) = false := beq_eq_false_iff_ne.2 q3
  replace q4 : (K == 4) = false := beq_eq_false_iff_ne.2 q4
  replace q5 : (K == 5) = false := beq_eq_false_iff_ne.2 q5
  go_enter Try.func101, Try.ntmps101
  go_upto_region 1 with (fail)
  have hm1 := hm.alloc (.cells [.int .i64 K, .int .i64 N].toArray 27)
  generalize hgb : w.heap.size = gb at hm1 ⊢
  generalize hwA : w.alloc (.cells [.int .i64 K, .int .i64 N].toArray 27) = w1 at hm1
  try refine wp_world hwA ?_
  have hg1 : Gr w w1 := by rw [← hwA]; exact (Gr.refl w).alloc _
  clear hwA hgb
  have d0 := hm1.cell m0 0 rfl
  have d1 := hm1.cell m0 1 rfl
  have hnm := refNames_ok w1 A n c xs ⟨hx.out.gr hg1⟩ hn K N
  rw [hl] at hnm
  replace hnm := Fact.mk hnm
  go_wp2_with (refine wp_rng rfl 27 _ rfl gb 0 rfl (cV (K, N)) (rng_blk hm1 m0) row_V sz_V ?_)
  refine hnm.out.mono ?_
  rintro e w2 ⟨rfl, hg2⟩
  go_wp2
  go_ret
  exact ⟨rfl, hg1.trans hg2⟩
end Go.Proofs.Ytpibchjkmaghnaa
namespace Go.Proofs.Ytpibchjkmaghnaa
open Go.RowKit Go.Mm
set_option maxHeartbeats 4000000
set_option maxRecDepth 100000
set_option linter.unusedSimpArgs false
theorem itemsA_ok (g : Nat) (v : Value) (w : World) (h : w.cell? ⟨g, 0, none⟩ = some v) : Calls Try.prog 137 #[.pointer (some ⟨g, 0, none⟩)] w fun e w' => e = .returned v ∧ w' = w := by
  go_enter Try.func137, Try.ntmps137
  go_wp2
  go_ret
  exact ⟨rfl, rfl⟩
theorem itemsR_ok (g : Nat) (v : Value) (w : World) (h : w.cell? ⟨g, 1, none⟩ = some v) : Calls Try.prog 141 #[.pointer (some ⟨g, 0, none⟩)] w fun e w' => e = .returned v ∧ w' = w := by
  go_enter Try.func141, Try.ntmps141
  go_wp2
  go_ret
  exact ⟨rfl, rfl⟩
theorem itemsB_ok (g : Nat) (v : Value) (w : World) (h : w.cell? ⟨g, 1, none⟩ = some v) : Calls Try.prog 146 #[.pointer (some ⟨g, 0, none⟩)] w fun e w' => e = .returned v ∧ w' = w := by
  go_enter Try.func146, Try.ntmps146
  go_wp2
  go_ret
  exact ⟨rfl, rfl⟩
theorem itemsC_ok (g : Nat) (v : Value) (w : World) (h : w.cell? ⟨g, 1, none⟩ = some v) : Calls Try.prog 132 #[.pointer (some ⟨g, 0, none⟩)] w fun e w' => e = .returned v ∧ w' = w := by
  go_enter Try.func132, Try.ntmps132
  go_wp2
  go_ret
  exact ⟨rfl, rfl⟩
theorem mitA (a : Addr) (w : World) : (callMethod (.iface 104 (.pointer (some a))) "portage/heap.items" #[]).run Try.prog w = .ok (.enter 137 #[.pointer (some a)]) w := by kernel_rfl
theorem mitR (a : Addr) (w : World) : (callMethod (.iface 107 (.pointer (some a))) "portage/heap.items" #[]).run Try.prog w = .ok (.enter 141 #[.pointer (some a)]) w := by kernel_rfl
theorem mitB (a : Addr) (w : World) : (callMethod (.iface 145 (.pointer (some a))) "portage/heap.items" #[]).run Try.prog w = .ok (.enter 146 #[.pointer (some a)]) w := by kernel_rfl
theorem mitC (a : Addr) (w : World) : (callMethod (.iface 95 (.pointer (some a))) "portage/heap.items" #[]).run Try.prog w = .ok (.enter 132 #[.pointer (some a)]) w := by kernel_rfl
theorem itemsI_ok (w : World) (t : Th) (ht : t.Ok) (hc : ∀ c, c ∈ t.chunks → c.ok w) : ICalls Try.prog t.val "portage/heap.items" #[] w fun e w' => e = .returned (.slice t.A t.ob.items.length t.c) ∧ w' = w := by
  obtain ⟨h0, hx, hk⟩ := Th.reads hc
  have hl := rdV_len hx
  rw [hl]
  rcases t.val_of ht.kind with ⟨hkd, hv⟩ | ⟨hkd, hv⟩ | ⟨hkd, hv⟩ | ⟨hkd, hv⟩ <;> rw [hv] <;> simp only [Th.cells, hkd] at h0
  · exact ⟨_, _, mitA _ w, itemsA_ok t.g _ w (h0 0 _ rfl)⟩
  · exact ⟨_, _, mitR _ w, itemsR_ok t.g _ w (h0 1 _ rfl)⟩
  · exact ⟨_, _, mitB _ w, itemsB_ok t.g _ w (h0 1 _ rfl)⟩
  · exact ⟨_, _, mitC _ w, itemsC_ok t.g _ w (h0 1 _ rfl)⟩
/-- The variables that the closure captured. -/
def capC (h : Hp) (gh gm go : Nat) (S : Option Addr) (sc : Nat) (O : Option Addr) (oc : Nat) (out : List Nat) : List Chunk :=
  [Own 1 (.slice S h.ths.length sc) (metV h.ths.length out), Own 1 (.slice O out.length oc) (outV out), Blk gh (.cells [.pointer (some ⟨h.g, 0, none⟩)].toArray 24), Blk gm (.cells [.slice S h.ths.length sc].toArray 68), Blk go (.cells [.slice O out.length oc].toArray 55)]
theorem meetC_ok (w0 w : World) (L : List Chunk) (h : Hp) (hh : HpC h ∈ L) (hok : Fact h.Ok) (gh gm go : Nat) (S : Option Addr) (sc : Nat) (O : Option Addr) (oc : Nat) (out : List Nat) (ho : MetOk h.objs out)
    (hm : Mem w0 w (capC h gh gm go S sc O oc out ++ L)) (V : Option Addr) (m c : Nat) (vs : List V2) (hvs : Fact (∀ W, Mem w0 W L → RdC W 2 (.slice V m c) (fV vs))) (hmm : m ≤ 16777216) :
    Calls Try.prog 66 #[.slice V m c, .pointer (some ⟨gh, 0, none⟩), .pointer (some ⟨gm, 0, none⟩), .pointer (some ⟨go, 0, none⟩)] w fun e w' => e = .returned (.tuple #[]) ∧ ∃ (O' : Option Addr) (oc' : Nat), Mem w0 w' (capC h gh gm go S sc O' oc' (meetL h.objs out vs) ++ L) := by
  obtain ⟨iI, hiI, yz0, yz1, yz2⟩ := info_parts inf_int
  have hxl := hok.out.size
  have hvl := Fact.mk (rdV_len (hvs.out w (hm.sub (List.sublist_append_right _ _))))
  have hol : Fact (h.objs.length = h.ths.length) := ⟨h.abs_len⟩
  have hmet := fun k => meetL_ok h.objs (vs.take k) out ho
  have hml := fun k => (hmet k).len
  unfold capC at hm ⊢
  simp only [List.cons_append, List.nil_append] at hm ⊢
  have hnamed := fun (W : World) (L1 : List Chunk) (h1 : Mem w0 W L1) (h2 : HpC h ∈ L1) (v : V2) => named_ok w0 W L1 h h1 h2 hok v.1 v.2
  have hnv : ∀ v : V2, (nm h.objs v = none ∧ namedV h v = .nilIface) ∨ ∃ i T g, nm h.objs v = some i ∧ namedV h v = .iface T (.pointer (some ⟨g, 0, none⟩)) := fun v => by
    unfold namedV
    cases hn : nm h.objs v with
    | none => exact .inl ⟨rfl, rfl⟩
    | some i => exact .inr ⟨i, _, _, rfl, rfl⟩
  generalize h.objs = obs at hmet hml hol ho hnv ⊢
  replace hnamed := Fact.mk hnamed
  replace hnv := Fact.mk hnv
  replace hmet := Fact.mk hmet
  replace hml := Fact.mk hml
  go_enter Try.func66, Try.ntmps66
  go_wp2
  go_loopw [9] (fun s9 W => ∃ (k : Nat) (O1 : Option Addr) (oc1 : Nat) (o1 : List Nat), s9 = .int .i64 k ∧ k ≤ m ∧ Fact (o1 = meetL obs out (vs.take k)) ∧ Mem w0 W (Own 1 (.slice S h.ths.length sc) (metV h.ths.length o1) :: Own 1 (.slice O1 o1.length oc1) (outV o1) :: Blk gh (.cells [.pointer (some ⟨h.g, 0, none⟩)].toArray 24) :: Blk gm (.cells [.slice S h.ths.length sc].toArray 68) :: Blk go (.cells [.slice O1 o1.length oc1].toArray 55) :: L)) (fun s9 _ => m - (intOf s9).toNat)
  case atStart => exact ⟨0, O, oc, out, rfl, by omega, ⟨rfl⟩, hm⟩
  case round =>
    obtain ⟨k, O1, oc1, o1, rfl, hk, ho1, hmr⟩ := hrel
    clear hm
    have hl1 : o1.length ≤ 16777216 := by have h1 := hml.out k; rw [← ho1.out, hol.out] at h1; omega
    by_cases hlt : k < m
    · obtain ⟨b, o, rfl, g1, g2, _, hkl⟩ := rdV_at (hvs.out wr (hmr.sub (List.sublist_append_right [_, _, _, _, _] _))) k hlt
      have hsn := meetL_snoc obs (vs.take k) (vs.getD k (0, 0)) out
      rw [← take_snocV vs k hkl, ← ho1.out] at hsn
      have hnmv := hnv.out (vs.getD k (0, 0))
      generalize vs.getD k (0, 0) = v at g1 g2 hsn hnmv
      have hs := hmr.alloc (.cells [.int .i64 0, .int .i64 0].toArray 27)
      go_upto_region 3 with (first | (refine wp_rng rfl 27 _ rfl b (o + k * 2) rfl (cV v) (rng2 g1 g2) row_V sz_V ?_) | (refine wp_setrow rfl 27 _ _ rfl wr.heap.size rfl 27 _ (cV v) rfl hs sz_V rfl (cV_one v) ?_; intro w5 hm5))
      generalize wr.heap.size = g6 at hm5 ⊢
      clear hmr hs g1 g2
      have c1 := hm5.cell m3 0 rfl
      have hnam := hnamed.out w5 _ hm5 (.tail _ (.tail _ (.tail _ (.tail _ (.tail _ (.tail _ hh)))))) v
      rw [show ((v.1, v.2) : V2) = v from rfl] at hnam
      replace hnam := Fact.mk hnam
      go_wp2_with (refine wp_rng rfl 27 _ rfl g6 0 rfl (cV v) (rng_blk hm5 m0) row_V sz_V ?_)
      refine hnam.out.mono ?_
      rintro e w6 ⟨rfl, hg6⟩
      have hm6 := hm5.gr hg6
      clear hm5 hg6 c1 hnam
      rcases hnmv with ⟨hn, hnv1⟩ | ⟨i, T, g, hn, hnv1⟩
      · rw [hn] at hsn
        replace hsn := Fact.mk hsn
        rw [hnv1]
        clear hn hnv1
        go_wp2
        go_roundw
        case rel => exact ⟨k + 1, O1, oc1, o1, by go_num, by omega, ⟨hsn.out.symm⟩, hm6.tail⟩
        case measure => exact measP_lt hlt
      · obtain ⟨hil, hvi⟩ := nm_lt hn
        rw [hn] at hsn
        simp only at hsn
        rw [hnv1]
        have hir : i < h.ths.length := by rw [← hol.out]; exact hil
        have k2 := hm6.cell m0 1 rfl
        rw [hvi] at k2
        have s2 := hm6.cell m4 0 rfl
        clear hn hnv1
        replace hvi := Fact.mk hvi
        replace hm6 := hm6.swap
        obtain ⟨bs, os, hS⟩ := OwnAt.addr (hm6.ok _ m0) (by have := OwnAt.cap (hm6.ok _ m0); omega)
        have hs1 : w6.cell? ⟨bs, os + i, none⟩ = some (.bool (decide (i ∈ o1))) := by
          obtain ⟨bs', os', c0, hS', h1, h2, _⟩ := (hm6.rd m0).at1 i hir
          rw [hS] at hS'
          cases hS'
          rw [metV_at _ _ i hir] at h2
          rw [h1, h2]
        have hS' := Fact.mk hS
        rw [hS] at s2
        by_cases q : i ∈ o1
        · rw [decide_eq_true q] at hs1
          rw [if_pos q] at hsn
          replace hsn := Fact.mk hsn
          clear q hS
          go_wp2
          go_roundw
          case rel => exact ⟨k + 1, O1, oc1, o1, by go_num, by omega, ⟨hsn.out.symm⟩, hm6.swap.tail⟩
          case measure => exact measP_lt hlt
        · rw [decide_eq_false q] at hs1
          rw [if_neg q] at hsn
          replace hsn := Fact.mk hsn
          have hset := metV_set h.ths.length o1 i hir
          replace hset := Fact.mk hset
          have hsl := Fact.mk (show i + [(.bool true : Value)].length ≤ (metV h.ths.length o1).length by rw [metV_len]; simp only [List.length_singleton]; omega)
          have hgl : Fact ((o1 ++ [i]).length = o1.length + 1) := ⟨by simp⟩
          rw [hS] at hm6
          clear q
          go_wp2_with (first | (refine wp_ownat rfl 4 _ _ rfl (os + i) i rfl rfl [.bool true] _ rfl rfl hm6 sz_bool hsl.out (one_one rfl) ?_; intro w7 hm7; have k7 := hm7.cell m1 1 rfl; rw [hvi.out] at k7; have s7 := hm7.cell m5 0 rfl) | (at_builtin; refine wp_app rfl _ _ _ rfl 3 iI _ 1 8 ty_ints hiI yz0 yz1 yz2 rfl O1 o1.length oc1 _ rfl (hm7.alloc _).pull3 _ 1 1 [.int .i64 (i : Int)] rfl (RdC.lit _ _ _ _ _ rfl (by simp [maxLen]) (one_one rfl)) (by unfold maxLen; omega) (by omega) ?_; intro A8 c8 w8 hm8) | (refine wp_setat rfl 55 _ _ rfl go 0 rfl 55 [.slice O1 o1.length oc1] [.slice A8 (o1.length + 1) c8] [.slice A8 (o1.length + 1) c8] _ rfl rfl hm8.pull6 sz_ints (by simp) (one_one rfl) rfl ?_; intro w9 hm9))
          have hmX := ((((hm9.sub (.cons_cons _ (.cons_cons _ (.cons _ (.cons_cons _ (.cons _ (.refl _))))))).pull4).pull4).pull3).pull4
          have hmY : Mem w0 w9 (Own 1 (.slice S h.ths.length sc) (metV h.ths.length (o1 ++ [i])) :: Own 1 (.slice A8 (o1 ++ [i]).length c8) (outV (o1 ++ [i])) :: Blk gh (.cells [.pointer (some ⟨h.g, 0, none⟩)].toArray 24) :: Blk gm (.cells [.slice S h.ths.length sc].toArray 68) :: Blk go (.cells [.slice A8 (o1 ++ [i]).length c8].toArray 55) :: L) := by
            rw [hgl.out, ← hset.out, outV_snoc, hS]
            exact hmX
          go_roundw
          case rel => exact ⟨k + 1, A8, c8, o1 ++ [i], by go_num, by omega, ⟨hsn.out.symm⟩, hmY⟩
          case measure => exact measP_lt hlt
    · obtain rfl : k = m := by omega
      rw [List.take_of_length_le (by rw [hvl.out]; exact Nat.le_refl _)] at ho1
      have e := ho1.out
      subst e
      go_wp2
      go_end0
      exact ⟨rfl, O1, oc1, hmr⟩
theorem sz_bools : (Try.prog.info? 68).map (·.size) = some 1 := by kernel_rfl
theorem fnReach (s p q r : Value) (w : World) : (callFunc 66 #[s, p, q, r]).run Try.prog w = .ok (.enter 66 #[s, p, q, r]) w := by kernel_rfl
theorem bools_none : ∀ (n : Nat), (List.replicate n ()).flatMap (fun _ => [(.bool false : Value)]) = List.replicate n (.bool false)
  | 0 => rfl
  | n + 1 => by rw [List.replicate_succ, List.replicate_succ, List.flatMap_cons, bools_none n]; rfl
theorem reach_ok (w0 w : World) (L : List Chunk) (h : Hp) (hh : HpC h ∈ L) (hok : Fact h.Ok) (hm : Mem w0 w L) (V : Option Addr) (m c : Nat) (vs : List V2) (hvs : Fact (∀ W, Mem w0 W L → RdC W 2 (.slice V m c) (fV vs))) (hmm : m ≤ 16777216) :
    Calls Try.prog 28 #[.pointer (some ⟨h.g, 0, none⟩), .slice V m c] w fun e w' => ∃ (O' : Option Addr) (oc' : Nat), e = .returned (.slice O' (reachR h.objs vs).length oc') ∧ Mem w0 w' (Own 1 (.slice O' (reachR h.objs vs).length oc') (outV (reachR h.objs vs)) :: L) := by
  obtain ⟨iB, hiB, yz0, yz1, yz2⟩ := info_parts inf_bool
  have hxl := hok.out.size
  have hol : Fact (h.objs.length = h.ths.length) := ⟨h.abs_len⟩
  have hms := fun (W : World) (gh gm go : Nat) (S : Option Addr) (sc : Nat) (O : Option Addr) (oc : Nat) (out : List Nat) (ho : MetOk h.objs out) (h1 : Mem w0 W (capC h gh gm go S sc O oc out ++ L)) (V : Option Addr) (m c : Nat) (vs : List V2) (h2 : ∀ W, Mem w0 W L → RdC W 2 (.slice V m c) (fV vs)) (h3 : m ≤ 16777216) => meetC_ok w0 W L h hh hok gh gm go S sc O oc out ho h1 V m c vs ⟨h2⟩ h3
  replace hms := Fact.mk hms
  obtain ⟨F, hF⟩ : ∃ F, reachR h.objs vs = F := ⟨_, rfl⟩
  rw [hF]
  unfold reachR at hF
  replace hF := Fact.mk hF
  have hm1 := hm.alloc (.cells [.pointer (some ⟨h.g, 0, none⟩)].toArray 24)
  go_enter Try.func28, Try.ntmps28
  go_upto_region 1 with (fail)
  generalize hgb : w.heap.size = gh at hm1 ⊢
  generalize hw1 : w.alloc (.cells [.pointer (some ⟨h.g, 0, none⟩)].toArray 24) = w1 at hm1
  try refine wp_world hw1 ?_
  clear hw1 hgb
  obtain ⟨_, _, c2, _, _, _⟩ := Hp.read hm1 (.tail _ hh)
  have d0 := hm1.cell m0 0 rfl
  go_upto_region 2 with (first | (at_make; refine wp_make (fun _ : Unit => [(.bool false : Value)]) () 1 1 (by omega) (fun _ => rfl) (fun _ => one_one rfl) rfl _ _ _ 4 rfl ty_bools iB _ hiB yz0 yz1 yz2 rfl _ h.ths.length rfl rfl rfl (by omega) (by unfold maxLen; omega) hm1 ?_; intro gS w2 hm2; have hs2 := hm2.alloc (.cells [.slice none 0 0].toArray 68)) | (refine wp_setat rfl 68 _ _ rfl w2.heap.size 0 rfl 68 [.slice none 0 0] [.slice (some ⟨gS, 0, none⟩) h.ths.length h.ths.length] [.slice (some ⟨gS, 0, none⟩) h.ths.length h.ths.length] _ rfl rfl hs2 sz_bools (by simp) (one_one rfl) rfl ?_; intro w3 hm3))
  rw [bools_none, ← metV_nil] at hm3
  generalize w2.heap.size = gm at hm3 ⊢
  clear hs2 hm2 hm1 c2 d0
  have hm4 := hm3.alloc (.cells [.slice none 0 0].toArray 55)
  go_upto_region 3 with (fail)
  generalize hgb : w3.heap.size = go at hm4 ⊢
  generalize hw1 : w3.alloc (.cells [.slice none 0 0].toArray 55) = w4 at hm4
  try refine wp_world hw1 ?_
  clear hw1 hgb hm3
  have hm5 := (Mem.nil hm4.swap.pull3.pull3 1 none).swap
  obtain ⟨S, hS⟩ : ∃ S, (some ⟨gS, 0, none⟩ : Option Addr) = S := ⟨_, rfl⟩
  rw [hS] at hm5
  rw [hS]
  clear hS hm4
  have hst := hms.out w4 gh gm go S h.ths.length none 0 [] ⟨List.nodup_nil, fun i h => by cases h⟩ hm5 V m c vs hvs.out hmm
  have hvc : VCalls Try.prog (.func (.func 66) #[] #[.pointer (some ⟨gh, 0, none⟩), .pointer (some ⟨gm, 0, none⟩), .pointer (some ⟨go, 0, none⟩)]) [.slice V m c] w4 _ := ⟨_, _, _, _, rfl, fnReach _ _ _ _ _, hst⟩
  replace hvc := Fact.mk hvc
  clear hst
  go_wp2_with (refine wp_fnv rfl _ _ _ rfl (.func (.func 66) #[] #[.pointer (some ⟨gh, 0, none⟩), .pointer (some ⟨gm, 0, none⟩), .pointer (some ⟨go, 0, none⟩)]) (by rfl) [.slice V m c] (by rfl) (hvc.out.mono ?_); rintro e w5 ⟨rfl, O3, oc3, hm6⟩; refine ⟨_, rfl, ?_⟩)
  clear hvc hm5
  go_loopw [8] (fun s8 W => ∃ (i : Nat) (O1 : Option Addr) (oc1 : Nat) (o1 : List Nat), s8 = .int .i64 i ∧ i ≤ o1.length ∧ Fact (MetOk h.objs o1) ∧ Fact (reachL h.objs (h.ths.length + 1 - i) i o1 = F) ∧ Mem w0 W (capC h gh gm go S h.ths.length O1 oc1 o1 ++ L)) (fun s8 _ => h.ths.length - (intOf s8).toNat)
  case atStart => exact ⟨0, O3, oc3, _, rfl, by omega, ⟨meetL_ok h.objs vs [] ⟨List.nodup_nil, fun i h => by cases h⟩⟩, ⟨by rw [← hF.out, hol.out]; rfl⟩, hm6⟩
  case round =>
    obtain ⟨i, O1, oc1, o1, rfl, hi, hmk, hrF, hmq⟩ := hrel
    clear hm6
    have hlen := hmk.out.len
    rw [hol.out] at hlen
    have hmq1 : Mem w0 wr (Own 1 (.slice S h.ths.length h.ths.length) (metV h.ths.length o1) :: Own 1 (.slice O1 o1.length oc1) (outV o1) :: Blk gh (.cells [.pointer (some ⟨h.g, 0, none⟩)].toArray 24) :: Blk gm (.cells [.slice S h.ths.length h.ths.length].toArray 68) :: Blk go (.cells [.slice O1 o1.length oc1].toArray 55) :: L) := hmq
    have e2 := hmq1.cell m2 0 rfl
    have e4 := hmq1.cell m4 0 rfl
    by_cases hit : i < o1.length
    · obtain ⟨bo, oo, c0, hO, h1, h2, _⟩ := (hmq1.rd m1).at1 i hit
      have hji : o1.getD i 0 < h.ths.length := by
        have := hmk.out.2 (o1.getD i 0) (by rw [List.getD_eq_getElem?_getD, List.getElem?_eq_getElem hit]; exact List.getElem_mem _)
        rwa [hol.out] at this
      rw [outV_at _ _ hit] at h2
      have hstep := reachL_step h.objs i o1 hit (by rw [hol.out]; omega)
      rw [hol.out, hrF.out, ob_at hji] at hstep
      generalize o1.getD i 0 = j at h2 hji hstep
      cases h2
      obtain ⟨_, _, c2, _, _, hat⟩ := Hp.read hmq1 (.tail _ (.tail _ (.tail _ (.tail _ (.tail _ hh)))))
      obtain ⟨b3, o3, hA, r1, _⟩ := hat j hji
      have htj := th_ok hok.out hji
      have hrd := fun (W : World) (L1 : List Chunk) (h1 : Mem w0 W L1) (h2 : HpC h ∈ L1) => ((Hp.read h1 h2).2.2.2.2.2 j hji)
      have hrr : ∀ (W : World) (L1 : List Chunk), Mem w0 W L1 → HpC h ∈ L1 → ∀ c, c ∈ (h.ths.getD j th0).chunks → c.ok W := fun W L1 h1 h2 => by obtain ⟨_, _, _, _, h5⟩ := hrd W L1 h1 h2; exact h5
      clear hrd hat
      generalize h.ths.getD j th0 = t at r1 htj hstep hrr
      have hit2 := fun (W : World) (h1 : Mem w0 W (capC h gh gm go S h.ths.length O1 oc1 o1 ++ L)) => itemsI_ok W t htj (hrr W _ h1 (List.mem_append_right _ hh))
      have hvsj : ∀ (W : World), Mem w0 W L → RdC W 2 (.slice t.A t.ob.items.length t.c) (fV t.ob.items) := fun W h1 => by
        obtain ⟨_, h3, _⟩ := Th.reads (hrr W L h1 hh)
        rw [rdV_len h3]
        exact h3
      have hszj : t.ob.items.length ≤ 16777216 := by have := htj.size; omega
      have hst := fun (W : World) (h1 : Mem w0 W (capC h gh gm go S h.ths.length O1 oc1 o1 ++ L)) => hms.out W gh gm go S h.ths.length O1 oc1 o1 hmk.out h1 t.A t.ob.items.length t.c t.ob.items hvsj hszj
      have hmk2 := meetL_ok h.objs t.ob.items o1 hmk.out
      have hge : i + 1 ≤ (meetL h.objs o1 t.ob.items).length := by
        have : o1.length ≤ (meetL h.objs o1 t.ob.items).length := meetL_grow h.objs t.ob.items o1
        omega
      have hv : ∃ T p, t.val = .iface T (.pointer (some ⟨p, 0, none⟩)) := ⟨_, _, rfl⟩
      obtain ⟨T, p, hv⟩ := hv
      rw [hv] at r1 hit2
      rw [hO] at e4
      rw [hA] at c2
      replace hO := Fact.mk hO
      replace hA := Fact.mk hA
      replace hit2 := Fact.mk hit2
      replace hst := Fact.mk hst
      replace hstep := Fact.mk hstep
      replace hmk2 := Fact.mk hmk2
      clear hv hrr hvsj
      go_upto_region 8 with (fail)
      have hmd := hmq.drew
      go_region_law (first | (refine step_inv rfl _ _ _ _ (by rfl) (.iface T (.pointer (some ⟨p, 0, none⟩))) (by rfl) [] (by rfl) ((hit2.out _ hmd).mono ?_); rintro e w2 ⟨rfl, rfl⟩; refine ⟨_, rfl, ?_⟩) | (refine step_fnv rfl _ _ _ (by rfl) (.func (.func 66) #[] #[.pointer (some ⟨gh, 0, none⟩), .pointer (some ⟨gm, 0, none⟩), .pointer (some ⟨go, 0, none⟩)]) (by rfl) [.slice t.A t.ob.items.length t.c] (by rfl) (VCalls.mono ⟨_, _, _, _, rfl, fnReach _ _ _ _ _, hst.out _ hmd⟩ ?_); rintro e w9 ⟨rfl, O9, oc9, hm9⟩; refine ⟨_, rfl, ?_⟩))
      all_goals
        have hmz := hm9
        go_wp2
        go_roundw
        case rel => exact ⟨i + 1, O9, oc9, _, by go_num, hge, ⟨hmk2.out⟩, ⟨hstep.out.symm⟩, hmz⟩
        case measure => exact measP_lt (by omega)
    · have hil : i = o1.length := by omega
      have hFe : o1 = F := by rw [← hrF.out, reachL_end h.objs _ _ _ (by omega)]
      have hif : ((i : Int) < (o1.length : Int)) = False := eq_false (by omega)
      clear hF hrF
      subst hFe
      go_wp2
      go_ret
      exact ⟨O1, oc1, rfl, hmq1.tail.sub ((List.sublist_append_right [_, _, _] L).cons_cons _)⟩
end Go.Proofs.Ytpibchjkmaghnaa
namespace Go.Proofs.Ytpibchjkmaghnaa
open Go.RowKit Go.Mm
set_option maxHeartbeats 4000000
set_option maxRecDepth 100000
set_option linter.unusedSimpArgs false
def reachSd (s : Hs) (o : HOp) : Sd := ⟨(0, 0), 0, 0, false, ob0, (reachR s.objs o.items).map Int.ofNat⟩
theorem askReach_ok (w0 w : World) (L : List Chunk) (h : Hp) (hm : Mem w0 w (HpC h :: L)) (hok : Fact h.Ok) (o : HOp) (hx : Fact (RdC w0 2 (.slice o.A o.n o.c) (fV o.items))) (hn : o.n ≤ 1048576) :
    Calls Try.prog 47 #[.pointer (some ⟨h.g, 0, none⟩), .int .i64 19, .agg (cHO o).toArray] w fun e w' => ∃ v, e = .returned (.tuple #[v, .bool true]) ∧ AskQ w0 L h.g h.abs (reachSd h.abs o) v w' := by
  have hil := Fact.mk (rdV_len hx.out)
  go_enter Try.func47, Try.ntmps47
  go_upto_region 1 with (fail)
  have hm1 := (hm.alloc (.cells (cHO o).toArray 32)).alloc (.cells (sC 0 0 0 0 false 0 none 0 0 none 0 0 0 0 false none 0 0).toArray 84)
  simp only [World.size_alloc] at hm1
  generalize hgb : w.heap.size = g at hm1 ⊢
  generalize hw1 : (w.alloc (.cells (cHO o).toArray 32)).alloc (.cells (sC 0 0 0 0 false 0 none 0 0 none 0 0 0 0 false none 0 0).toArray 84) = w1 at hm1
  try refine wp_world hw1 ?_
  clear hw1 hgb hm
  have x8 := hm1.cell m1 8 rfl
  go_wp2_with fail
  refine (lentValues_ok w1 o.A o.n o.c o.items ⟨hx.out.gr hm1.below⟩ (by omega)).mono ?_
  rintro e w2 ⟨B, d, rfl, hn2⟩
  have hm2 := hm1.new hn2
  clear hm1 x8 hn2
  have hcap := OwnAt.cap (hm2.ok _ m0)
  have hcap1 : o.n ≤ d := by omega
  obtain ⟨bg, bo, hB⟩ := OwnAt.addr (hm2.ok _ m0) (by omega)
  subst hB
  have x8 := hm2.cell m2 8 rfl
  go_upto_region 4 with (fail)
  have hm3 := hm2.alloc (.cells (sC 0 0 0 0 false 0 none 0 0 none 0 0 0 0 false none 0 0).toArray 84)
  generalize hgb : w2.heap.size = g3 at hm3 ⊢
  generalize hw1 : w2.alloc (.cells (sC 0 0 0 0 false 0 none 0 0 none 0 0 0 0 false none 0 0).toArray 84) = w3 at hm3
  try refine wp_world hw1 ?_
  clear hw1 hgb hm2 x8
  have hm4 := hm3.pull4
  go_wp2_with fail
  refine (reach_ok w0 w3 _ h m0 hok hm4 (some ⟨bg, bo, none⟩) o.n d o.items ⟨fun W hW => rd_pre cV_len (hW.rd m2) hil.out⟩ (by omega)).mono ?_
  rintro e w4 ⟨RA, rc, rfl, hm5⟩
  obtain ⟨ls, hls, hlen⟩ : ∃ ls : List Int, ls = (reachR h.abs.objs o.items).map Int.ofNat ∧ (reachR h.objs o.items).length = ls.length := ⟨_, rfl, (List.length_map _).symm⟩
  rw [hlen, show outV (reachR h.objs o.items) = nums .i64 ls by rw [hls]; rfl] at hm5
  rw [hlen]
  replace hls := Fact.mk hls
  clear hlen
  go_wp2_with (refine wp_setat rfl 55 _ _ rfl g3 11 rfl 84 _ [.slice RA ls.length rc] (sC 0 0 0 0 false 0 none 0 0 none 0 0 0 0 false RA ls.length rc) (.slice RA ls.length rc) rfl rfl hm5.pull2 sz_ints (by simp [sC]) (one_one rfl) rfl ?_; intro w6 hs6; have hm6 := (Mem.nil (Mem.nil hs6 1 none) 2 none).pull2; have x8 := hm6.cell m7 8 rfl)
  refine (keptValues_ok w6 (some ⟨bg, bo, none⟩) o.n d o.A o.c o.items ⟨hm6.rd m5⟩ ⟨hx.out.gr hm6.below⟩ (by omega)).mono ?_
  rintro e w7 ⟨rfl, hg7⟩
  have hm7 := (hm6.gr hg7).pull5
  clear hm6 x8 hg7
  obtain ⟨C0, hC0⟩ : ∃ C0, C0 = fV (o.items ++ marksV 64) := ⟨_, rfl⟩
  have hCl : C0.length = (o.n + 64) * 2 := by rw [hC0]; exact OwnAt.len (hm7.ok _ m0)
  rw [← hC0] at hm7
  clear hC0
  go_wp2
  go_loopw [12] (fun s12 W => ∃ (k : Nat) (C : List Value), s12 = .int .i64 k ∧ k ≤ o.n + 64 ∧ C.length = (o.n + 64) * 2 ∧ Mem w0 W (Own 2 (.slice (some ⟨bg, bo, none⟩) (o.n + 64) d) C :: Blk g3 (.cells (sC 0 0 0 0 false 0 none 0 0 none 0 0 0 0 false RA ls.length rc).toArray 84) :: Own 2 (.slice none 0 0) [] :: Own 1 (.slice none 0 0) [] :: Own 1 (.slice RA ls.length rc) (nums .i64 ls) :: HpC h :: Blk (g + 1) (.cells (sC 0 0 0 0 false 0 none 0 0 none 0 0 0 0 false none 0 0).toArray 84) :: Blk g (.cells (cHO o).toArray 32) :: L)) (fun s12 _ => o.n + 64 - (intOf s12).toNat)
  case atStart => exact ⟨0, C0, rfl, by omega, hCl, hm7⟩
  case round =>
    obtain ⟨k, C, rfl, hk, hC, hmr⟩ := hrel
    clear hm7 hCl
    by_cases hlt : k < o.n + 64
    · have wrapk : wrap64 ((k : Int) + 1) = (k : Int) + 1 := IntWalk.wrap64_in _ (by omega)
      have hC' : (C.take (k * 2) ++ [(.int .i64 77 : Value), .int .i64 (k : Int)] ++ C.drop (k * 2 + 2)).length = (o.n + 64) * 2 := by simp only [List.length_append, List.length_take, List.length_drop, List.length_cons, List.length_nil, hC]; omega
      replace hC' := Fact.mk hC'
      replace hC := Fact.mk hC
      go_wp2_with (refine wp_ownrow rfl 27 _ _ rfl (bo + k * 2) (k * 2) rfl rfl [.int .i64 77, .int .i64 (k : Int)] rfl hmr sz_V (by rw [hC.out]; simp; omega) (cV_one (77, (k : Int))) ?_; intro w9 hm9)
      go_roundw
      case rel => exact ⟨k + 1, _, by go_num, by omega, hC'.out, hm9⟩
      case measure => exact measP_lt hlt
    · obtain rfl : k = o.n + 64 := by omega
      go_wp2_with (first | (refine wp_rng rfl 84 _ rfl g3 0 rfl (sC 0 0 0 0 false 0 none 0 0 none 0 0 0 0 false RA ls.length rc) (rng_blk hmr m1) row_S sz_S ?_) | (refine wp_setrow rfl 84 _ _ rfl (g + 1) rfl 84 _ (sC 0 0 0 0 false 0 none 0 0 none 0 0 0 0 false RA ls.length rc) rfl hmr.pull6 sz_S rfl (sC_one _ _ _ _ _ _ _ _ _ _ _ _ _ _ _ _ _ _) ?_; intro w9 hm9))
      have hz := (hm9.tail.tail.tail).sub (List.Sublist.cons_cons _ (List.Sublist.cons_cons _ (List.Sublist.cons_cons _ (List.Sublist.cons_cons _ (List.sublist_cons_self _ _)))))
      refine bodyPost_ret (Mm.res_cell_tmp rfl _ (g + 1) 84 (sC 0 0 0 0 false 0 none 0 0 none 0 0 0 0 false RA ls.length rc) (0, 0) rfl hm9 m0 row_S sz_S) rfl ⟨_, rfl, h, rfl, rfl, hok.out, ?_⟩
      rw [show reachSd h.abs o = ⟨(0, 0), 0, 0, false, ob0, ls⟩ by rw [hls.out]; rfl]
      exact ⟨none, 0, none, 0, RA, rc, rfl, hz⟩
theorem tellM_reach (w0 w : World) (L : List Chunk) (h : Rf) (hm : Mem w0 w (RfC h :: L)) (hok : Fact h.Ok) (o : HOp) (hg : Fact h.abs.Good) (hx : Fact (RdC w0 2 (.slice o.A o.n o.c) (fV o.items))) (hn : o.n ≤ 1048576) :
    Calls Try.prog 96 #[.pointer (some ⟨h.g, 0, none⟩), .int .i64 19, .agg (cHO o).toArray] w fun e w' => ∃ v, e = .returned v ∧ TellQ w0 L h.g h.abs (reachSd h.abs o) v w' := by
  go_enter Try.func96, Try.ntmps96
  go_upto_region 2 with (fail)
  have hm1 := ((hm.alloc (.cells (cHO o).toArray 32)).alloc (.cells (sC 0 0 0 0 false 0 none 0 0 none 0 0 0 0 false none 0 0).toArray 84)).alloc (.cells (sC 0 0 0 0 false 0 none 0 0 none 0 0 0 0 false none 0 0).toArray 84)
  simp only [World.size_alloc] at hm1
  generalize hgb : w.heap.size = g at hm1 ⊢
  generalize hw1 : ((w.alloc (.cells (cHO o).toArray 32)).alloc (.cells (sC 0 0 0 0 false 0 none 0 0 none 0 0 0 0 false none 0 0).toArray 84)).alloc (.cells (sC 0 0 0 0 false 0 none 0 0 none 0 0 0 0 false none 0 0).toArray 84) = w1 at hm1
  try refine wp_world hw1 ?_
  clear hw1 hgb
  replace hm1 := hm1.pull3
  have x8 := hm1.cell m3 8 rfl
  obtain ⟨_, _, c2, _⟩ := Rf.read hm1 m0
  have hmd := hm1.drew
  go_upto_region 20 with (fail)
  go_still_tail 6, (by kernel_rfl)
  change wpList _ _ _ _ _ w1.drew
  generalize w1.drew = w1 at hmd ⊢
  go_wp2_with fail
  refine (refReach_ok w0 w1 _ h hmd m0 hok hg o.A o.n o.c o.items ⟨fun W hW => hx.out.gr hW.below⟩ (by omega)).mono ?_
  rintro e w2 ⟨RA, rc, rfl, hm2⟩
  clear hm1 x8 c2 hmd
  obtain ⟨ls, hls, hlen⟩ : ∃ ls : List Int, ls = (reachR h.abs.objs o.items).map Int.ofNat ∧ (reachR h.abs.objs o.items).length = ls.length := ⟨_, rfl, (List.length_map _).symm⟩
  rw [hlen, show outV (reachR h.abs.objs o.items) = nums .i64 ls by rw [hls]; rfl] at hm2
  rw [hlen]
  replace hls := Fact.mk hls
  clear hlen
  go_wp2_with (first | (refine wp_setat rfl 55 _ _ rfl (g + 1 + 1) 11 rfl 84 _ [.slice RA ls.length rc] (sC 0 0 0 0 false 0 none 0 0 none 0 0 0 0 false RA ls.length rc) (.slice RA ls.length rc) rfl rfl hm2.pull2 sz_ints (by simp [sC, obC]) (one_one rfl) rfl ?_; intro w3 hs3) | (refine wp_rng rfl 84 _ rfl (g + 1 + 1) 0 rfl (sC 0 0 0 0 false 0 none 0 0 none 0 0 0 0 false RA ls.length rc) (rng_blk hs3 m0) row_S sz_S ?_) | (refine wp_setrow rfl 84 _ _ rfl (g + 1) rfl 84 _ (sC 0 0 0 0 false 0 none 0 0 none 0 0 0 0 false RA ls.length rc) rfl hs3.pull3 sz_S rfl (sC_one _ _ _ _ _ _ _ _ _ _ _ _ _ _ _ _ _ _) ?_; intro w4 hs4))
  have hz := Mem.nil (Mem.nil ((hs4.tail.tail).sub (List.Sublist.cons_cons _ (List.Sublist.cons_cons _ (List.sublist_cons_self _ _)))) 1 none) 2 none
  refine bodyPost_ret (Mm.res_cell rfl _ (g + 1) 84 (sC 0 0 0 0 false 0 none 0 0 none 0 0 0 0 false RA ls.length rc) (0, 0) rfl hs4 m0 row_S sz_S) rfl ⟨_, rfl, h, rfl, rfl, hok.out, ?_⟩
  rw [show reachSd h.abs o = ⟨(0, 0), 0, 0, false, ob0, ls⟩ by rw [hls.out]; rfl]
  exact ⟨none, 0, none, 0, RA, rc, rfl, hz⟩
end Go.Proofs.Ytpibchjkmaghnaa
namespace Go.Proofs.Ytpibchjkmaghnaa
open Go.RowKit Go.Mm
set_option maxHeartbeats 4000000
set_option maxRecDepth 100000
set_option linter.unusedSimpArgs false
def allR (c : Nat) (s : Hs) (o : HOp) : Sd := if c = 19 then reachSd s o else callR c s o
theorem mem_19 {c : Nat} (h : c ∈ [0, 1, 2, 3, 4, 5, 6, 7, 8, 9, 10, 11, 12, 13, 14, 15, 16, 17, 18, 19]) (h' : c ≠ 19) : c ∈ [0, 1, 2, 3, 4, 5, 6, 7, 8, 9, 10, 11, 12, 13, 14, 15, 16, 17, 18] := by
  simp only [List.mem_cons, List.not_mem_nil, or_false] at h ⊢
  omega
theorem reachSd_size {h : Hp} (hok : h.Ok) (o : HOp) : (reachSd h.abs o).ob.items.length ≤ 16777216 ∧ (reachSd h.abs o).ob.keys.length ≤ 16777216 ∧ (reachSd h.abs o).list.length ≤ 16777216 := by
  refine ⟨by simp [reachSd, ob0], by simp [reachSd, ob0], ?_⟩
  have h1 := (reachR_ok h.abs.objs o.items).len
  have h2 := hok.size
  have h3 := h.abs_len'
  simp only [reachSd, List.length_map]
  omega
theorem all_play (w0 : World) : PlayG w0 [0, 1, 2, 3, 4, 5, 6, 7, 8, 9, 10, 11, 12, 13, 14, 15, 16, 17, 18, 19] callS allR := by
  refine ⟨fun c hc r w L o hm hok hg hx hn hw hl => ?_, fun c hc h w L o hm hok hf hx hn hw hl => ?_, fun c hc s o => callS_grow c s o, fun c hc s o h => callS_few c s o h, fun c hc h o hok hn => ?_⟩
  · by_cases q : c = 19
    · subst q
      exact told_more w0 w L r hm 19 (by omega) (by omega) _ _ o ⟨fun w1 L1 hm1 => tellM_reach w0 w1 L1 r hm1 ⟨hok⟩ o ⟨hg⟩ ⟨hx⟩ hn⟩
    · rw [allR, if_neg q]
      exact (calls_play w0).told c (mem_19 hc q) r w L o hm hok hg hx hn hw hl
  · by_cases q : c = 19
    · subst q
      exact askReach_ok w0 w L h hm ⟨hok⟩ o ⟨hx⟩ hn
    · rw [allR, if_neg q]
      exact (calls_play w0).ask c (mem_19 hc q) h w L o hm hok hf hx hn hw hl
  · by_cases q : c = 19
    · subst q
      exact reachSd_size hok o
    · rw [allR, if_neg q]
      exact (calls_play w0).size c (mem_19 hc q) h o hok hn
theorem mem20 {j : Nat} (h : j < 20) : j ∈ [0, 1, 2, 3, 4, 5, 6, 7, 8, 9, 10, 11, 12, 13, 14, 15, 16, 17, 18, 19] := by
  simp only [List.mem_cons, List.not_mem_nil, or_false]
  omega
end Go.Proofs.Ytpibchjkmaghnaa
namespace Go.Proofs.Ytpibchjkmaghnaa
open Go.RowKit Go.Mm
set_option maxHeartbeats 4000000
set_option maxRecDepth 100000
set_option linter.unusedSimpArgs false
/-- Did the call answer that it has changed nothing? -/
def refuB (c : Nat) (r : Sd) : Bool :=
  if c = 1 ∨ c = 2 ∨ c = 7 ∨ c = 10 ∨ c = 11 ∨ c = 13 ∨ c = 19 then true
  else if c = 8 ∨ c = 14 ∨ c = 18 then decide (r.trap ≠ 0)
  else if c = 9 ∨ c = 12 ∨ c = 15 then decide (r.trap ≠ 0) || !r.ok
  else !r.ok
theorem put_same (s : Hs) (i : Nat) (o : Ob) (h : o = s.objs.getD i ob0) : s.put i o = s := by
  subst h
  unfold Hs.put
  have : s.objs.set i (s.objs.getD i ob0) = s.objs := by
    apply List.ext_getElem?
    intro j
    by_cases q : i = j
    · subst q
      by_cases h : i < s.objs.length
      · rw [List.getElem?_set_self h, List.getD_eq_getElem?_getD, List.getElem?_eq_getElem h]; rfl
      · rw [List.getElem?_eq_none (by rw [List.length_set]; omega), List.getElem?_eq_none (by omega)]
    · rw [List.getElem?_set_ne q]
  rw [this]
theorem make_no {s : Hs} {may : Bool} {n k : Int} {o : Ob} (h : (s.makeV may n k).ok = false) : s.make may n o = s := by
  unfold Hs.makeV at h
  unfold Hs.make
  cases q : may && s.room n
  · rfl
  · rw [q] at h; cases h
theorem still_S (c : Nat) (s : Hs) (o : HOp) (h : refuB c (allR c s o) = true) : callS c s o = s := by
  by_cases q19 : c = 19
  · subst q19; rfl
  rw [allR, if_neg q19] at h
  unfold callS callR at *
  split
  · simp only [refuB, mkR, mkS, sdV] at h ⊢
    simp only [show ¬ ((0 : Nat) = 1) by decide, show ¬ ((0 : Nat) = 2) by decide, show ¬ ((0 : Nat) = 7) by decide, show ¬ ((0 : Nat) = 10) by decide, show ¬ ((0 : Nat) = 11) by decide, show ¬ ((0 : Nat) = 13) by decide, show ¬ ((0 : Nat) = 19) by decide, show ¬ ((0 : Nat) = 8) by decide, show ¬ ((0 : Nat) = 14) by decide, show ¬ ((0 : Nat) = 18) by decide, show ¬ ((0 : Nat) = 9) by decide, show ¬ ((0 : Nat) = 12) by decide, show ¬ ((0 : Nat) = 15) by decide, or_self, if_false] at h
    have : s.room o.M = false := by simpa using h
    unfold Hs.spend
    rw [this]
  · exact make_no (k := 6) (by simpa [refuB, mkR] using h)
  · exact make_no (k := 7) (by simpa [refuB, mkR] using h)
  · exact make_no (k := 8) (by simpa [refuB, mkR] using h)
  · exact make_no (k := 9) (by simpa [refuB, mkR] using h)
  · have h : ¬ getT s o.v o.I = 0 := by simpa [refuB, sdV] using h
    unfold getT at h
    unfold setS
    split
    · rfl
    · rename_i i hi
      rw [hi] at h
      simp only at h
      split
      · rename_i q; rw [if_pos q] at h; exact absurd rfl h
      · rfl
  · have h : ¬ pushT s o.v = 0 ∨ pushB s o.v = false := by simpa [refuB, sdV] using h
    unfold pushT pushB at h
    unfold pushS
    split
    · rfl
    · rename_i i hi
      rw [hi] at h
      simp only at h
      split
      · rfl
      · rename_i q
        rw [if_neg q, if_neg q] at h
        have : s.room 1 = false := by simpa using h
        rw [this]
  · have h : ¬ setFT s o.v o.I = 0 ∨ setFB s o.v o.I = false := by simpa [refuB, sdV] using h
    unfold setFT setFB at h
    unfold setFS
    split
    · rfl
    · rename_i i hi
      rw [hi] at h
      simp only at h
      split
      · rename_i j hj
        rw [hj] at h
        simp at h
      · rename_i hj
        rw [hj] at h
        simp only at h
        split
        · rfl
        · rename_i q
          rw [if_neg q, if_neg q] at h
          have : s.room 2 = false := by simpa using h
          rw [this]
  · have h : ¬ delT s o.v o.I = 0 := by simpa [refuB, sdV] using h
    unfold delT at h
    unfold delS
    split
    · rfl
    · rename_i i hi
      rw [hi] at h
      simp only at h
      split
      · rename_i j hj
        rw [hj] at h
        exact absurd rfl h
      · rfl
  · have h : ¬ (keysW s o.v).trap = 0 ∨ (keysW s o.v).ok = false := by simpa [refuB, sdV] using h
    unfold keysW at h
    unfold keysS
    split
    · rfl
    · rename_i i hi
      rw [hi] at h
      simp only at h
      have ht : (s.makeV true (2 + ((s.objs.getD i ob0).keys.length : Int)) 6).trap = 0 := by
        unfold Hs.makeV
        split <;> rfl
      rcases h with h | h
      · exact absurd ht h
      · exact make_no (k := 6) h
  · have h : sendB s o.v = false := by simpa [refuB, sdV] using h
    unfold sendB at h
    unfold sendS
    split
    · rfl
    · rename_i i hi
      rw [hi] at h
      simp only at h
      refine put_same s i _ ?_
      unfold sendO
      by_cases q : (s.objs.getD i ob0).shut = true
      · rw [if_pos q]
      · rw [if_neg q] at h
        rw [if_neg q, if_neg (of_decide_eq_false h)]
  · have h : recvB s o.v = false := by simpa [refuB, sdV] using h
    unfold recvB at h
    unfold recvS
    split
    · rfl
    · rename_i i hi
      rw [hi] at h
      simp only at h
      refine put_same s i _ ?_
      by_cases q : (s.objs.getD i ob0).items = []
      · rw [q]
        conv => rhs; rw [show s.objs.getD i ob0 = { s.objs.getD i ob0 with items := (s.objs.getD i ob0).items } from rfl, q]
        rfl
      · rw [if_neg q] at h; cases h
  · have h : ¬ shutT s o.v = 0 := by simpa [refuB, sdV] using h
    unfold shutT shutR at h
    unfold shutS
    split
    · rfl
    · rename_i i hi
      rw [hi] at h
      simp only at h
      refine put_same s i _ ?_
      by_cases q : (s.objs.getD i ob0).shut = true
      · rw [show s.objs.getD i ob0 = { s.objs.getD i ob0 with shut := (s.objs.getD i ob0).shut } from rfl, q]
      · rw [if_neg q] at h; exact absurd rfl h
  · rfl
/-- The same, but with more room. -/
structure Hs.Wid (s t : Hs) : Prop where
  bud : s.budget ≤ t.budget
  spe : s.spent = t.spent
  obj : s.objs = t.objs
theorem Hs.Wid.room {s t : Hs} (h : s.Wid t) (n : Int) : s.room n = t.room n ∨ (s.room n = false ∧ t.room n = true ∧ s.budget < t.spent + n) := by
  have h1 := h.bud
  have h2 := h.spe
  unfold Hs.room
  by_cases q0 : 0 ≤ n
  · by_cases q1 : n ≤ s.budget - s.spent
    · left; rw [decide_eq_true q1, decide_eq_true (show n ≤ t.budget - t.spent by omega)]
    · by_cases q2 : n ≤ t.budget - t.spent
      · right; rw [decide_eq_true q0, decide_eq_false q1, decide_eq_true q2]; exact ⟨rfl, rfl, by omega⟩
      · left; rw [decide_eq_false q1, decide_eq_false q2]
  · left; rw [decide_eq_false q0]; simp
/-- What a call does with more room. -/
def WidQ (c : Nat) (s t s' t' : Hs) (x y : Sd) : Prop := (x = y ∧ s'.Wid t') ∨ (refuB c x = true ∧ x.trap = 0 ∧ x.ok = false ∧ refuB c y = false ∧ y.ok = true ∧ s.budget < t'.spent ∧ x.n = y.n ∧ x.trap = y.trap)
theorem Hs.Wid.put {s t : Hs} (h : s.Wid t) (i : Nat) (o : Ob) : (s.put i o).Wid (t.put i o) := ⟨h.bud, h.spe, by simp [Hs.put, h.obj]⟩
theorem Hs.Wid.spend {s t : Hs} (h : s.Wid t) {n : Int} (hs : s.room n = true) (ht : t.room n = true) : (s.spend n).Wid (t.spend n) := by
  unfold Hs.spend
  rw [hs, ht]
  exact ⟨h.bud, by simp [h.spe], h.obj⟩
theorem Hs.Wid.make {s t : Hs} (h : s.Wid t) (may : Bool) (n k : Int) (o : Ob) :
    (s.makeV may n k = t.makeV may n k ∧ (s.make may n o).Wid (t.make may n o)) ∨ ((s.makeV may n k) = sdV (0, 0) 0 0 false ∧ (t.makeV may n k) = sdV (k, t.objs.length) 0 0 true ∧ s.budget < (t.make may n o).spent) := by
  unfold Hs.makeV Hs.make
  cases may
  · left; exact ⟨rfl, h⟩
  · rcases h.room n with q | ⟨q1, q2, q3⟩
    · left
      rw [q]
      cases t.room n
      · exact ⟨rfl, h⟩
      · exact ⟨by simp [h.obj], h.bud, by simp [h.spe], by simp [h.obj]⟩
    · right
      rw [q1, q2]
      exact ⟨rfl, rfl, q3⟩
theorem wider_S (c : Nat) (s t : Hs) (o : HOp) (h : s.Wid t) : WidQ c s t (callS c s o) (callS c t o) (allR c s o) (allR c t o) := by
  have hob := h.obj
  by_cases q19 : c = 19
  · subst q19
    left
    exact ⟨by simp [allR, reachSd, hob], h⟩
  rw [allR, allR, if_neg q19, if_neg q19]
  have hat : ∀ (v : V2) (k : Int), s.obAt v k = t.obAt v k := fun v k => by unfold Hs.obAt; rw [hob]
  unfold callS callR
  split
  · simp only [mkS, mkR]
    rcases h.room o.M with q | ⟨q1, q2, q3⟩
    · left
      unfold Hs.spend
      rw [q]
      cases t.room o.M
      · exact ⟨rfl, h⟩
      · exact ⟨rfl, h.bud, by simp [h.spe], hob⟩
    · right
      unfold Hs.spend
      rw [q1, q2]
      exact ⟨rfl, rfl, rfl, rfl, rfl, q3, rfl, rfl⟩
  · rcases h.make (decide (o.n ≤ 4096)) (2 + o.n) 6 ⟨6, o.items, [], 0, 0, false⟩ with q | ⟨q1, q2, q3⟩
    · exact .inl q
    · exact .inr ⟨by simp only [mkR]; rw [q1]; rfl, by simp only [mkR]; rw [q1]; rfl, by simp only [mkR]; rw [q1]; rfl, by simp only [mkR]; rw [q2]; rfl, by simp only [mkR]; rw [q2]; rfl, q3, by simp only [mkR]; rw [q1, q2]; rfl, by simp only [mkR]; rw [q1, q2]; rfl⟩
  · rcases h.make true 2 7 ⟨7, [], [], 0, 0, false⟩ with q | ⟨q1, q2, q3⟩
    · exact .inl q
    · exact .inr ⟨by simp only [mkR]; rw [q1]; rfl, by simp only [mkR]; rw [q1]; rfl, by simp only [mkR]; rw [q1]; rfl, by simp only [mkR]; rw [q2]; rfl, by simp only [mkR]; rw [q2]; rfl, q3, by simp only [mkR]; rw [q1, q2]; rfl, by simp only [mkR]; rw [q1, q2]; rfl⟩
  · rcases h.make (decide (0 ≤ o.M) && decide (o.n ≤ 4096)) (2 + o.n) 8 ⟨8, o.items, [], o.M, 0, false⟩ with q | ⟨q1, q2, q3⟩
    · exact .inl q
    · exact .inr ⟨by simp only [mkR]; rw [q1]; rfl, by simp only [mkR]; rw [q1]; rfl, by simp only [mkR]; rw [q1]; rfl, by simp only [mkR]; rw [q2]; rfl, by simp only [mkR]; rw [q2]; rfl, q3, by simp only [mkR]; rw [q1, q2]; rfl, by simp only [mkR]; rw [q1, q2]; rfl⟩
  · rcases h.make (decide (1 ≤ o.M) && decide (o.M ≤ 64)) (2 + o.M) 9 ⟨9, [], [], 0, o.M, false⟩ with q | ⟨q1, q2, q3⟩
    · exact .inl q
    · exact .inr ⟨by simp only [mkR]; rw [q1]; rfl, by simp only [mkR]; rw [q1]; rfl, by simp only [mkR]; rw [q1]; rfl, by simp only [mkR]; rw [q2]; rfl, by simp only [mkR]; rw [q2]; rfl, q3, by simp only [mkR]; rw [q1, q2]; rfl, by simp only [mkR]; rw [q1, q2]; rfl⟩
  · left
    simp only [getT, setS, hat, hob]
    refine ⟨trivial, ?_⟩
    split
    · exact h
    · split
      · exact h.put _ _
      · exact h
  · simp only [pushT, pushB, pushS, hat, hob]
    split
    · exact .inl ⟨rfl, h⟩
    · split
      · exact .inl ⟨rfl, h⟩
      · rename_i i _ q4
        rcases h.room 1 with q | ⟨q1, q2, q3⟩
        · left
          rw [q]
          cases q' : t.room 1
          · exact ⟨rfl, h⟩
          · exact ⟨rfl, (h.spend (by rw [q, q']) q').put _ _⟩
        · right
          rw [q1, q2]
          refine ⟨rfl, rfl, rfl, rfl, rfl, ?_, rfl, rfl⟩
          unfold Hs.put Hs.spend
          rw [q2]
          exact q3
  · simp only [setFT, setFB, setFS, hat, hob]
    split
    · exact .inl ⟨rfl, h⟩
    · split
      · exact .inl ⟨rfl, h.put _ _⟩
      · split
        · exact .inl ⟨rfl, h⟩
        · rcases h.room 2 with q | ⟨q1, q2, q3⟩
          · left
            rw [q]
            cases q' : t.room 2
            · exact ⟨rfl, h⟩
            · exact ⟨rfl, (h.spend (by rw [q, q']) q').put _ _⟩
          · right
            rw [q1, q2]
            refine ⟨rfl, rfl, rfl, rfl, rfl, ?_, rfl, rfl⟩
            unfold Hs.put Hs.spend
            rw [q2]
            exact q3
  · left
    simp only [delT, delS, hat, hob]
    refine ⟨trivial, ?_⟩
    split
    · exact h
    · split
      · exact h.put _ _
      · exact h
  · simp only [keysW, keysS, hat, hob]
    split
    · exact .inl ⟨rfl, h⟩
    · rename_i i _
      rcases h.make true (2 + ((t.objs.getD i ob0).keys.length : Int)) 6 ⟨6, texts (t.objs.getD i ob0).keys, [], 0, 0, false⟩ with ⟨q1, q2⟩ | ⟨q1, q2, q3⟩
      · exact .inl ⟨by rw [q1], q2⟩
      · exact .inr ⟨by rw [q1]; rfl, by rw [q1]; rfl, by rw [q1]; rfl, by rw [q2]; rfl, by rw [q2]; rfl, q3, by rw [q1, q2]; rfl, by rw [q1, q2]; rfl⟩
  · left
    simp only [sendB, sendT, sendS, hat, hob]
    refine ⟨trivial, ?_⟩
    split
    · exact h
    · exact h.put _ _
  · left
    simp only [recvV, recvB, recvT, recvS, hat, hob]
    refine ⟨trivial, ?_⟩
    split
    · exact h
    · exact h.put _ _
  · left
    simp only [shutT, shutS, hat, hob]
    refine ⟨trivial, ?_⟩
    split
    · exact h
    · exact h.put _ _
  · left
    refine ⟨?_, h⟩
    split <;> simp_all [mkR, getV, getT, sizeN, sizeT, fieldV, fieldT, hasB, hasT, Hs.is, Hs.at, h.spe]
/-- The first object stays of its kind. -/
def Hs.First (s : Hs) : Prop := 0 < s.objs.length ∧ (s.objs.getD 0 ob0).kind = 7
theorem Hs.First.put {s : Hs} (h : s.First) (i : Nat) {o : Ob} (ho : o.kind = (s.objs.getD i ob0).kind) : (s.put i o).First := by
  refine ⟨by simpa [Hs.put] using h.1, ?_⟩
  by_cases q : i = 0
  · subst q
    simp only [Hs.put]
    rw [List.getD_eq_getElem?_getD, List.getElem?_set_self h.1]
    simpa [ho] using h.2
  · simp only [Hs.put]
    rw [List.getD_eq_getElem?_getD, List.getElem?_set_ne q, ← List.getD_eq_getElem?_getD]
    exact h.2
theorem Hs.First.spend {s : Hs} (h : s.First) (n : Int) : (s.spend n).First := by unfold Hs.First; rw [spend_objs]; exact h
theorem Hs.First.make {s : Hs} (h : s.First) (may : Bool) (n : Int) (o : Ob) : (s.make may n o).First := by
  unfold Hs.make
  split
  · refine ⟨by simp, ?_⟩
    show ((s.objs ++ [o]).getD 0 ob0).kind = 7
    rw [List.getD_eq_getElem?_getD, List.getElem?_append_left h.1, ← List.getD_eq_getElem?_getD]
    exact h.2
  · exact h
theorem first_S (c : Nat) (s : Hs) (o : HOp) (h : s.First) : (callS c s o).First := by
  unfold callS
  split
  · exact h.spend _
  · exact h.make _ _ _
  · exact h.make _ _ _
  · exact h.make _ _ _
  · exact h.make _ _ _
  · unfold setS
    split
    · exact h
    · split
      · exact h.put _ rfl
      · exact h
  · unfold pushS
    split
    · exact h
    · split
      · exact h
      · split
        · exact (h.spend 1).put _ (by rw [spend_objs])
        · exact h
  · unfold setFS
    split
    · exact h
    · split
      · exact h.put _ rfl
      · split
        · exact h
        · split
          · exact (h.spend 2).put _ (by rw [spend_objs])
          · exact h
  · unfold delS
    split
    · exact h
    · split
      · exact h.put _ rfl
      · exact h
  · unfold keysS
    split
    · exact h
    · exact h.make _ _ _
  · unfold sendS
    split
    · exact h
    · exact h.put _ rfl
  · unfold recvS
    split
    · exact h
    · exact h.put _ rfl
  · unfold shutS
    split
    · exact h
    · exact h.put _ rfl
  · exact h
theorem spend_bud (s : Hs) (n : Int) : (s.spend n).budget = s.budget := by unfold Hs.spend; split <;> rfl
theorem make_bud (s : Hs) (may : Bool) (n : Int) (o : Ob) : (s.make may n o).budget = s.budget := by unfold Hs.make; split <;> rfl
theorem bud_S (c : Nat) (s : Hs) (o : HOp) : (callS c s o).budget = s.budget := by
  unfold callS
  split
  · exact spend_bud _ _
  · exact make_bud _ _ _ _
  · exact make_bud _ _ _ _
  · exact make_bud _ _ _ _
  · exact make_bud _ _ _ _
  · unfold setS
    split
    · rfl
    · split <;> rfl
  · unfold pushS
    split
    · rfl
    · split
      · rfl
      · split
        · exact spend_bud _ _
        · rfl
  · unfold setFS
    split
    · rfl
    · split
      · rfl
      · split
        · rfl
        · split
          · exact spend_bud _ _
          · rfl
  · unfold delS
    split
    · rfl
    · split <;> rfl
  · unfold keysS
    split
    · rfl
    · exact make_bud _ _ _ _
  · unfold sendS
    split <;> rfl
  · unfold recvS
    split <;> rfl
  · unfold shutS
    split <;> rfl
  · rfl
end Go.Proofs.Ytpibchjkmaghnaa
namespace Go.Proofs.Ytpibchjkmaghnaa
open Go.RowKit Go.Mm
set_option maxHeartbeats 4000000
set_option maxRecDepth 100000
set_option linter.unusedSimpArgs false
theorem same_no (w : World) (s t : Sd) (x y : Value) (hx : SdR w s x) (hy : SdR w t y) (hn : s.n = t.n) (ht : s.trap = t.trap) (hs : s.ok = false) (hy' : t.ok = true) :
    Calls Try.prog 76 #[x, y] w fun e w' => e = .returned (.bool false) ∧ Gr w w' := by
  obtain ⟨A, c, K, k, LA, lc, rfl, _, _, _⟩ := hx.ex
  obtain ⟨B, d, M, m, LB, ld, rfl, _, _, _⟩ := hy.ex
  clear hx hy
  obtain ⟨⟨v1, v2⟩, n, trap, ok, ob, list⟩ := s
  obtain ⟨⟨u1, u2⟩, n', trap', ok', ob', list'⟩ := t
  simp only at hn ht hs hy'
  subst hn ht hs hy'
  go_enter Try.func76, Try.ntmps76
  go_upto_region 1 with (fail)
  obtain ⟨C, hC⟩ : ∃ C, C = sdC ⟨(v1, v2), n, trap, false, ob, list⟩ A c K k LA lc := ⟨_, rfl⟩
  obtain ⟨D, hD⟩ : ∃ D, D = sdC ⟨(u1, u2), n, trap, true, ob', list'⟩ B d M m LB ld := ⟨_, rfl⟩
  rw [← hC, ← hD]
  have hm1 := ((Mem.start w).alloc (.cells C.toArray 84)).alloc (.cells D.toArray 84)
  simp only [World.size_alloc] at hm1
  generalize hgb : w.heap.size = g at hm1 ⊢
  generalize hw1 : (w.alloc (.cells C.toArray 84)).alloc (.cells D.toArray 84) = w1 at hm1
  try refine wp_world hw1 ?_
  clear hw1 hgb
  have x0 := hm1.cell m1 0 (by rw [hC]; rfl : C[0]? = some (.int .i64 v1))
  have x1 := hm1.cell m1 1 (by rw [hC]; rfl : C[1]? = some (.int .i64 v2))
  have x2 := hm1.cell m1 2 (by rw [hC]; rfl : C[2]? = some (.int .i64 n))
  have x3 := hm1.cell m1 3 (by rw [hC]; rfl : C[3]? = some (.int .i64 trap))
  have x4 := hm1.cell m1 4 (by rw [hC]; rfl : C[4]? = some (.bool false))
  have y0 := hm1.cell m0 0 (by rw [hD]; rfl : D[0]? = some (.int .i64 u1))
  have y1 := hm1.cell m0 1 (by rw [hD]; rfl : D[1]? = some (.int .i64 u2))
  have y2 := hm1.cell m0 2 (by rw [hD]; rfl : D[2]? = some (.int .i64 n))
  have y3 := hm1.cell m0 3 (by rw [hD]; rfl : D[3]? = some (.int .i64 trap))
  have y4 := hm1.cell m0 4 (by rw [hD]; rfl : D[4]? = some (.bool true))
  clear hC hD
  by_cases q1 : v1 = u1
  · subst q1
    by_cases q2 : v2 = u2
    · subst q2
      go_wp2_with fail
      go_ret
      exact ⟨rfl, hm1.below⟩
    · go_wp2_with fail
      go_ret
      exact ⟨rfl, hm1.below⟩
  · go_wp2_with fail
    go_ret
    exact ⟨rfl, hm1.below⟩
theorem refused_ok (w : World) (c : Nat) (hc : c < 20) (s : Sd) (A : Option Addr) (d : Nat) (K : Option Addr) (k : Nat) (LA : Option Addr) (lc : Nat) :
    Calls Try.prog 51 #[.int .i64 c, .agg (sdC s A d K k LA lc).toArray] w fun e w' => e = .returned (.bool (refuB c s)) ∧ Gr w w' := by
  obtain ⟨C, hC⟩ : ∃ C, C = sdC s A d K k LA lc := ⟨_, rfl⟩
  have z3 : C[3]? = some (.int .i64 s.trap) := by rw [hC]; rfl
  have z4 : C[4]? = some (.bool s.ok) := by rw [hC]; rfl
  rw [← hC]
  clear hC
  go_enter Try.func51, Try.ntmps51
  go_upto_region 1 with (fail)
  have hm1 := (Mem.start w).alloc (.cells C.toArray 84)
  generalize hgb : w.heap.size = g at hm1 ⊢
  generalize hw1 : w.alloc (.cells C.toArray 84) = w1 at hm1
  try refine wp_world hw1 ?_
  clear hw1 hgb
  have x3 := hm1.cell m0 3 z3
  have x4 := hm1.cell m0 4 z4
  clear z3 z4
  have hb := Fact.mk hm1.below
  clear hm1
  have hcs : c = 0 ∨ c = 1 ∨ c = 2 ∨ c = 3 ∨ c = 4 ∨ c = 5 ∨ c = 6 ∨ c = 7 ∨ c = 8 ∨ c = 9 ∨ c = 10 ∨ c = 11 ∨ c = 12 ∨ c = 13 ∨ c = 14 ∨ c = 15 ∨ c = 16 ∨ c = 17 ∨ c = 18 ∨ c = 19 := by omega
  clear hc
  by_cases q : s.trap = 0
  · have qb : (s.trap != 0) = false := by simp [q]
    replace q := Fact.mk q
    rcases hcs with rfl | rfl | rfl | rfl | rfl | rfl | rfl | rfl | rfl | rfl | rfl | rfl | rfl | rfl | rfl | rfl | rfl | rfl | rfl | rfl
    all_goals
      go_wp2
      go_ret
      refine ⟨?_, hb.out⟩
      simp [refuB, q.out]
  · have qb : (s.trap != 0) = true := by simp [q]
    replace q := Fact.mk q
    rcases hcs with rfl | rfl | rfl | rfl | rfl | rfl | rfl | rfl | rfl | rfl | rfl | rfl | rfl | rfl | rfl | rfl | rfl | rfl | rfl | rfl
    all_goals
      go_wp2
      go_ret
      refine ⟨?_, hb.out⟩
      simp [refuB, q.out]
end Go.Proofs.Ytpibchjkmaghnaa
namespace Go.Proofs.Ytpibchjkmaghnaa
open Go.RowKit Go.Mm
set_option maxHeartbeats 4000000
set_option maxRecDepth 100000
set_option linter.unusedSimpArgs false
/-- What a call costs, and whether it could be carried out, were there room. -/
def payMay (c : Nat) (o : HOp) : Bool := match c with
  | 3 => decide (o.n ≤ 4096)
  | 4 => true
  | 5 => decide (0 ≤ o.M) && decide (o.n ≤ 4096)
  | 6 => decide (1 ≤ o.M) && decide (o.M ≤ 64)
  | _ => decide (0 ≤ o.M)
def payCost (c : Nat) (o : HOp) : Int := match c with
  | 3 => 2 + o.n
  | 4 => 2
  | 5 => 2 + o.n
  | 6 => 2 + pickF o.M 66
  | _ => o.M
theorem cost0_ok (w0 w : World) (L : List Chunk) (hm : Mem w0 w L) (o : HOp) (hn : o.n ≤ 1048576) :
    Calls Try.prog 46 #[.int .i64 0, .agg (cHO o).toArray] w fun e w' => e = .returned (.tuple #[.int .i64 (payCost 0 o), .bool (payMay 0 o)]) ∧ Gr w w' := by
  simp only [payCost, payMay]
  go_enter Try.func46, Try.ntmps46
  go_upto_region 1 with (fail)
  have hm1 := hm.alloc (.cells (cHO o).toArray 32)
  have hg1 := (Gr.refl w).alloc (.cells (cHO o).toArray 32)
  generalize hgb : w.heap.size = g at hm1 ⊢
  generalize hw1 : w.alloc (.cells (cHO o).toArray 32) = w1 at hm1 hg1
  try refine wp_world hw1 ?_
  clear hw1 hgb hm
  have x7 := hm1.cell m0 7 rfl
  have x8 := hm1.cell m0 8 rfl
  go_upto_region 10 with (fail)
  go_quiet (fail)
  go_wp2
  go_ret2
  exact ⟨rfl, hg1.drewN _⟩
theorem cost3_ok (w0 w : World) (L : List Chunk) (hm : Mem w0 w L) (o : HOp) (hn : o.n ≤ 1048576) :
    Calls Try.prog 46 #[.int .i64 3, .agg (cHO o).toArray] w fun e w' => e = .returned (.tuple #[.int .i64 (payCost 3 o), .bool (payMay 3 o)]) ∧ Gr w w' := by
  simp only [payCost, payMay]
  have e1 : IntKind.i64.wrap (2 + (o.n : Int)) = 2 + o.n := IntWalk.i64_in _ (by omega)
  go_enter Try.func46, Try.ntmps46
  go_upto_region 1 with (fail)
  have hm1 := hm.alloc (.cells (cHO o).toArray 32)
  have hg1 := (Gr.refl w).alloc (.cells (cHO o).toArray 32)
  generalize hgb : w.heap.size = g at hm1 ⊢
  generalize hw1 : w.alloc (.cells (cHO o).toArray 32) = w1 at hm1 hg1
  try refine wp_world hw1 ?_
  clear hw1 hgb hm
  have x7 := hm1.cell m0 7 rfl
  have x8 := hm1.cell m0 8 rfl
  go_upto_region 3 with (fail)
  go_quiet (fail)
  go_wp2
  go_ret2
  exact ⟨by simp; omega, hg1.drewN _⟩
theorem cost4_ok (w0 w : World) (L : List Chunk) (hm : Mem w0 w L) (o : HOp) (hn : o.n ≤ 1048576) :
    Calls Try.prog 46 #[.int .i64 4, .agg (cHO o).toArray] w fun e w' => e = .returned (.tuple #[.int .i64 (payCost 4 o), .bool (payMay 4 o)]) ∧ Gr w w' := by
  simp only [payCost, payMay]
  go_enter Try.func46, Try.ntmps46
  go_wp2
  go_ret2
  exact ⟨rfl, (Gr.refl w).alloc _⟩
theorem cost5_ok (w0 w : World) (L : List Chunk) (hm : Mem w0 w L) (o : HOp) (hn : o.n ≤ 1048576) :
    Calls Try.prog 46 #[.int .i64 5, .agg (cHO o).toArray] w fun e w' => e = .returned (.tuple #[.int .i64 (payCost 5 o), .bool (payMay 5 o)]) ∧ Gr w w' := by
  simp only [payCost, payMay]
  have e1 : IntKind.i64.wrap (2 + (o.n : Int)) = 2 + o.n := IntWalk.i64_in _ (by omega)
  by_cases q : o.n ≤ 4096
  · have q' : decide ((o.n : Int) ≤ 4096) = true := decide_eq_true (by omega)
    rw [decide_eq_true q, Bool.and_true]
    go_enter Try.func46, Try.ntmps46
    go_upto_region 1 with (fail)
    have hm1 := hm.alloc (.cells (cHO o).toArray 32)
    have hg1 := (Gr.refl w).alloc (.cells (cHO o).toArray 32)
    generalize hgb : w.heap.size = g at hm1 ⊢
    generalize hw1 : w.alloc (.cells (cHO o).toArray 32) = w1 at hm1 hg1
    try refine wp_world hw1 ?_
    clear hw1 hgb hm
    have x7 := hm1.cell m0 7 rfl
    have x8 := hm1.cell m0 8 rfl
    go_upto_region 7 with (fail)
    go_quiet (fail)
    go_wp2
    go_ret2
    exact ⟨rfl, hg1.drewN _⟩
  · have q' : decide ((o.n : Int) ≤ 4096) = false := decide_eq_false (by omega)
    rw [decide_eq_false q, Bool.and_false]
    go_enter Try.func46, Try.ntmps46
    go_upto_region 1 with (fail)
    have hm1 := hm.alloc (.cells (cHO o).toArray 32)
    have hg1 := (Gr.refl w).alloc (.cells (cHO o).toArray 32)
    generalize hgb : w.heap.size = g at hm1 ⊢
    generalize hw1 : w.alloc (.cells (cHO o).toArray 32) = w1 at hm1 hg1
    try refine wp_world hw1 ?_
    clear hw1 hgb hm
    have x7 := hm1.cell m0 7 rfl
    have x8 := hm1.cell m0 8 rfl
    go_upto_region 7 with (fail)
    go_quiet (fail)
    go_wp2
    go_ret2
    exact ⟨rfl, hg1.drewN _⟩
theorem cost6_ok (w0 w : World) (L : List Chunk) (hm : Mem w0 w L) (o : HOp) (hn : o.n ≤ 1048576) :
    Calls Try.prog 46 #[.int .i64 6, .agg (cHO o).toArray] w fun e w' => e = .returned (.tuple #[.int .i64 (payCost 6 o), .bool (payMay 6 o)]) ∧ Gr w w' := by
  simp only [payCost, payMay]
  have hp := pickF_rng o.M 66 (by omega)
  have e2 : IntKind.i64.wrap (2 + pickF o.M 66) = 2 + pickF o.M 66 := IntWalk.i64_in _ (by omega)
  have hpk := fun w => pickF_ok w o.M 66 66 rfl (by omega) (by omega)
  generalize pickF o.M 66 = P at hp e2 hpk ⊢
  replace hpk := Fact.mk hpk
  by_cases q : 1 ≤ o.M
  · have q' : decide (o.M ≥ 1) = true := decide_eq_true (by omega)
    rw [decide_eq_true q, Bool.true_and]
    go_enter Try.func46, Try.ntmps46
    go_upto_region 1 with (fail)
    have hm1 := hm.alloc (.cells (cHO o).toArray 32)
    have hg1 := (Gr.refl w).alloc (.cells (cHO o).toArray 32)
    generalize hgb : w.heap.size = g at hm1 ⊢
    generalize hw1 : w.alloc (.cells (cHO o).toArray 32) = w1 at hm1 hg1
    try refine wp_world hw1 ?_
    clear hw1 hgb hm
    have x7 := hm1.cell m0 7 rfl
    have x8 := hm1.cell m0 8 rfl
    go_upto_region 9 with (fail)
    go_quiet (exact Calls.quiet_of_same (hpk.out _))
    go_wp2
    go_ret2
    exact ⟨rfl, hg1.drewN _⟩
  · have q' : decide (o.M ≥ 1) = false := decide_eq_false (by omega)
    rw [decide_eq_false q, Bool.false_and]
    go_enter Try.func46, Try.ntmps46
    go_upto_region 1 with (fail)
    have hm1 := hm.alloc (.cells (cHO o).toArray 32)
    have hg1 := (Gr.refl w).alloc (.cells (cHO o).toArray 32)
    generalize hgb : w.heap.size = g at hm1 ⊢
    generalize hw1 : w.alloc (.cells (cHO o).toArray 32) = w1 at hm1 hg1
    try refine wp_world hw1 ?_
    clear hw1 hgb hm
    have x7 := hm1.cell m0 7 rfl
    have x8 := hm1.cell m0 8 rfl
    go_upto_region 9 with (fail)
    go_quiet (exact Calls.quiet_of_same (hpk.out _))
    go_wp2
    go_ret2
    exact ⟨rfl, hg1.drewN _⟩
theorem cost_ok (w0 w : World) (L : List Chunk) (hm : Mem w0 w L) (c : Nat) (hc : c = 0 ∨ c = 3 ∨ c = 4 ∨ c = 5 ∨ c = 6) (o : HOp) (hn : o.n ≤ 1048576) :
    Calls Try.prog 46 #[.int .i64 c, .agg (cHO o).toArray] w fun e w' => e = .returned (.tuple #[.int .i64 (payCost c o), .bool (payMay c o)]) ∧ Gr w w' := by
  rcases hc with rfl | rfl | rfl | rfl | rfl
  · exact cost0_ok w0 w L hm o hn
  · exact cost3_ok w0 w L hm o hn
  · exact cost4_ok w0 w L hm o hn
  · exact cost5_ok w0 w L hm o hn
  · exact cost6_ok w0 w L hm o hn
/-- What a call that pays leaves. -/
structure PayQ (s : Hs) (c : Nat) (o : HOp) (S : Hs) (v : V2) (b : Bool) : Prop where
  ok : b = (payMay c o && decide (payCost c o ≤ s.budget - s.spent))
  no : b = false → S = s ∧ v = (0, 0)
  budget : b = true → S.budget = s.budget
  spent : b = true → S.spent = s.spent + payCost c o
  len : b = true → S.objs.length = s.objs.length + (if c = 0 then 0 else 1)
  v : b = true → v = if c = 0 then (0, 0) else (3 + (c : Int), (s.objs.length : Int))
theorem make_payQ (s : Hs) (c : Nat) (o : HOp) (may : Bool) (cost k : Int) (ob : Ob) (hc : c ≠ 0) (hm : payMay c o = may) (h0 : may = true → 0 ≤ cost ∧ payCost c o = cost) (hk : k = 3 + (c : Int)) :
    ∃ v b, s.makeV may cost k = sdV v 0 0 b ∧ PayQ s c o (s.make may cost ob) v b := by
  unfold Hs.makeV Hs.make Hs.room
  cases may with
  | false =>
    refine ⟨(0, 0), false, rfl, by rw [hm]; rfl, fun _ => ⟨rfl, rfl⟩, (fun h => nomatch h), (fun h => nomatch h), (fun h => nomatch h), (fun h => nomatch h)⟩
  | true =>
    obtain ⟨h1, h2⟩ := h0 rfl
    rw [Bool.true_and, decide_eq_true h1, Bool.true_and]
    by_cases q : cost ≤ s.budget - s.spent
    · rw [decide_eq_true q]
      refine ⟨_, true, rfl, by rw [hm, h2, decide_eq_true q]; rfl, (fun h => nomatch h), (fun _ => rfl), (fun _ => by rw [h2]), (fun _ => by simp [hc]), (fun _ => by simp [hc, hk])⟩
    · rw [decide_eq_false q]
      refine ⟨_, false, rfl, by rw [hm, h2, decide_eq_false q]; rfl, (fun _ => ⟨rfl, rfl⟩), (fun h => nomatch h), (fun h => nomatch h), (fun h => nomatch h), (fun h => nomatch h)⟩
theorem askPay_ok (w0 w : World) (L : List Chunk) (h : Hp) (hm : Mem w0 w (HpC h :: L)) (hok : Fact h.Ok) (c : Nat) (hc : c = 0 ∨ c = 3 ∨ c = 4 ∨ c = 5 ∨ c = 6) (o : HOp) (hx : Fact (RdC w0 2 (.slice o.A o.n o.c) (fV o.items))) (hn : o.n ≤ 1048576) (hl : h.ths.length < 16777216) :
    ∃ (b : Bool) (v : V2) (S : Hs), PayQ h.abs c o S v b ∧ Calls Try.prog 47 #[.pointer (some ⟨h.g, 0, none⟩), .int .i64 c, .agg (cHO o).toArray] w fun e w' => ∃ val, e = .returned (.tuple #[val, .bool true]) ∧ AskQ w0 L h.g S (sdV v 0 0 b) val w' := by
  rcases hc with rfl | rfl | rfl | rfl | rfl
  · refine ⟨h.abs.room o.M, (0, 0), h.abs.spend o.M, ⟨rfl, fun q => ?_, fun q => ?_, fun q => ?_, fun q => ?_, fun _ => rfl⟩, ?_⟩
    · unfold Hs.spend; rw [q]; exact ⟨rfl, rfl⟩
    · unfold Hs.spend; rw [q]
    · unfold Hs.spend; rw [q]; rfl
    · unfold Hs.spend; rw [q]; rfl
    · exact askPlain_ok w0 w L h hm 0 _ _ o hx hn (by decide) (by decide) (by decide) ⟨fun w1 L1 hm1 => askP_spend w0 w1 L1 h hm1 hok o⟩
  · obtain ⟨v, b, e, hq⟩ := make_payQ h.abs 3 o (decide (o.n ≤ 4096)) (2 + o.n) 6 ⟨6, o.items, [], 0, 0, false⟩ (by decide) rfl (fun _ => ⟨by omega, rfl⟩) rfl
    refine ⟨b, v, _, hq, ?_⟩
    rw [← e]
    exact askArray_ok w0 w L h hm hok o hx hn hl
  · obtain ⟨v, b, e, hq⟩ := make_payQ h.abs 4 o true 2 7 ⟨7, [], [], 0, 0, false⟩ (by decide) rfl (fun _ => ⟨by omega, rfl⟩) rfl
    refine ⟨b, v, _, hq, ?_⟩
    rw [← e]
    exact askPlain_ok w0 w L h hm 4 _ _ o hx hn (by decide) (by decide) (by decide) ⟨fun w1 L1 hm1 => askP_record w0 w1 L1 h hm1 hok o hl⟩
  · obtain ⟨v, b, e, hq⟩ := make_payQ h.abs 5 o (decide (0 ≤ o.M) && decide (o.n ≤ 4096)) (2 + o.n) 8 ⟨8, o.items, [], o.M, 0, false⟩ (by decide) rfl (fun _ => ⟨by omega, rfl⟩) rfl
    refine ⟨b, v, _, hq, ?_⟩
    rw [← e]
    exact askBound_ok w0 w L h hm hok o hx hn hl
  · obtain ⟨v, b, e, hq⟩ := make_payQ h.abs 6 o (decide (1 ≤ o.M) && decide (o.M ≤ 64)) (2 + o.M) 9 ⟨9, [], [], 0, o.M, false⟩ (by decide) rfl (fun q => by
      have q' : 1 ≤ o.M ∧ o.M ≤ 64 := by simpa using q
      exact ⟨by omega, by simp only [payCost]; rw [pickF_id _ _ (by omega) (by omega)]⟩) rfl
    refine ⟨b, v, _, hq, ?_⟩
    rw [← e]
    exact askPlain_ok w0 w L h hm 6 _ _ o hx hn (by decide) (by decide) (by decide) ⟨fun w1 L1 hm1 => askP_chan w0 w1 L1 h hm1 hok o hl⟩
end Go.Proofs.Ytpibchjkmaghnaa
namespace Go.Proofs.Ytpibchjkmaghnaa
open Go.RowKit Go.Mm
set_option maxHeartbeats 1000000
set_option maxRecDepth 100000
set_option linter.unusedSimpArgs false
/-- The method value h.right. -/
def rightF (g : Nat) : Value := .func (.func 82) #[.pointer (some ⟨g, 0, none⟩)] #[]
theorem rightF_calls (w0 w : World) (L : List Chunk) (h : Hp) (hm : Mem w0 w L) (hh : HpC h ∈ L) (hok : Fact h.Ok) (x : V2) :
    VCalls Try.prog (rightF h.g) [.agg #[.int .i64 x.1, .int .i64 x.2]] w fun e w' => e = .returned (.bool (rightP h.objs x)) ∧ Gr w w' :=
  ⟨82, #[.pointer (some ⟨h.g, 0, none⟩)], #[], #[.pointer (some ⟨h.g, 0, none⟩), .agg #[.int .i64 x.1, .int .i64 x.2]], rfl, by kernel_rfl, right_ok w0 w L h hm hh hok x.1 x.2⟩
theorem take_all {α : Type} (p : α → Bool) (xs : List α) (k : Nat) (d : α) (hk : k < xs.length) : (xs.take (k + 1)).all p = ((xs.take k).all p && p (xs.getD k d)) := by
  rw [List.take_succ_eq_append_getElem hk, List.all_append]
  simp [hk]
theorem take_all_no {α : Type} {p : α → Bool} {xs : List α} {k : Nat} {d : α} (hk : k < xs.length) (h : p (xs.getD k d) = false) : xs.all p = false := by
  rw [List.all_eq_false]
  refine ⟨xs.getD k d, ?_, by rw [h]; decide⟩
  rw [List.getD_eq_getElem?_getD, List.getElem?_eq_getElem hk]
  exact List.getElem_mem _
theorem all_ok (w0 w : World) (L : List Chunk) (h : Hp) (hm : Mem w0 w L) (hh : HpC h ∈ L) (hok : Fact h.Ok) (A : Option Addr) (n c : Nat) (xs : List V2) (hx : Fact (RdC w 2 (.slice A n c) (fV xs))) (hn : n ≤ 16777216) :
    Calls Try.prog 136 #[.slice A n c, rightF h.g] w fun e w' => e = .returned (.bool (xs.all (rightP h.objs))) ∧ Gr w w' := by
  have hl := Fact.mk (rdV_len hx.out)
  have hV : Fact (∀ (W : World), Gr w W → ∀ x : V2, VCalls Try.prog (rightF h.g) [.agg #[.int .i64 x.1, .int .i64 x.2]] W fun e w' => e = .returned (.bool (rightP h.objs x)) ∧ Gr W w') := ⟨fun W hg x => rightF_calls w0 W L h (hm.gr hg) hh hok x⟩
  generalize rightF h.g = F at hV ⊢
  generalize h.objs = obs at hV ⊢
  go_enter Try.func136, Try.ntmps136
  go_wp2
  go_loopw [9] (fun s9 W => ∃ k : Nat, s9 = .int .i64 k ∧ k ≤ n ∧ Fact ((xs.take k).all (rightP obs) = true) ∧ Gr w W) (fun s9 _ => n - (intOf s9).toNat)
  case atStart => exact ⟨0, rfl, by omega, ⟨rfl⟩, Gr.refl w⟩
  case round =>
    obtain ⟨k, rfl, hk, hall, hgr⟩ := hrel
    by_cases hlt : k < n
    · obtain ⟨b, o, rfl, g1, g2, _, hkl⟩ := rdV_at (hx.out.gr hgr) k hlt
      have hsn := take_all (rightP obs) xs k (0, 0) hkl
      have hno := take_all_no (p := rightP obs) (xs := xs) (k := k) (d := (0, 0)) hkl
      generalize xs.getD k (0, 0) = x at g1 g2 hsn hno
      have hs := (Mem.start wr).alloc (.cells [.int .i64 0, .int .i64 0].toArray 27)
      go_upto_region 4 with (first | (refine wp_rng rfl 27 _ rfl b (o + k * 2) rfl (cV x) (rng2 g1 g2) row_V sz_V ?_) | (refine wp_setrow rfl 27 _ _ rfl wr.heap.size rfl 27 _ (cV x) rfl hs sz_V rfl (cV_one x) ?_; intro w5 hm5))
      generalize wr.heap.size = g5 at hm5 ⊢
      have hg5 := hgr.trans hm5.below
      cases hr : rightP obs x with
      | false =>
        have hc := hV.out w5 hg5 x
        rw [hr] at hc
        replace hc := Fact.mk hc
        have hfin := Fact.mk (hno hr)
        clear hno hsn
        go_wp2_with (first | (refine wp_rng rfl 27 _ rfl g5 0 rfl (cV x) (rng_blk hm5 m0) row_V sz_V ?_) | (refine wp_fnv rfl _ _ _ rfl F (by rfl) [.agg #[.int .i64 x.1, .int .i64 x.2]] (by rfl) (hc.out.mono ?_); rintro e w6 ⟨rfl, hg6⟩; refine ⟨_, rfl, ?_⟩))
        go_ret
        exact ⟨by rw [hfin.out]; rfl, hg5.trans hg6⟩
      | true =>
        have hc := hV.out w5 hg5 x
        rw [hr] at hc hsn
        rw [hall.out] at hsn
        replace hc := Fact.mk hc
        replace hsn := Fact.mk hsn
        clear hno
        go_wp2_with (first | (refine wp_rng rfl 27 _ rfl g5 0 rfl (cV x) (rng_blk hm5 m0) row_V sz_V ?_) | (refine wp_fnv rfl _ _ _ rfl F (by rfl) [.agg #[.int .i64 x.1, .int .i64 x.2]] (by rfl) (hc.out.mono ?_); rintro e w6 ⟨rfl, hg6⟩; refine ⟨_, rfl, ?_⟩))
        go_roundw
        case rel => exact ⟨k + 1, by go_num, by omega, ⟨hsn.out⟩, hg5.trans hg6⟩
        case measure => exact measP_lt hlt
    · obtain rfl : k = n := by omega
      have hfin : Fact (xs.all (rightP obs) = true) := ⟨by have := hall.out; rwa [List.take_of_length_le (by rw [hl.out]; omega)] at this⟩
      go_wp2
      go_ret
      exact ⟨by rw [hfin.out]; rfl, hgr⟩
end Go.Proofs.Ytpibchjkmaghnaa
namespace Go.Proofs.Ytpibchjkmaghnaa
open Go.RowKit Go.Mm
set_option maxHeartbeats 8000000
set_option maxRecDepth 100000
set_option linter.unusedSimpArgs false
/-- Is an object within its kind's limits? -/
def limB (o : Ob) : Bool :=
  if o.kind = 6 then decide (o.items.length ≤ 4096) else if o.kind = 7 then decide (o.keys.length ≤ 256)
  else if o.kind = 8 then decide (0 ≤ o.fn) && decide (o.items.length ≤ 4096) else decide (1 ≤ o.cap) && decide (o.cap ≤ 64) && decide ((o.items.length : Int) ≤ o.cap)
theorem rightA_ok (w0 w : World) (L : List Chunk) (h : Hp) (hm : Mem w0 w L) (hh : HpC h ∈ L) (hok : Fact h.Ok) (g : Nat) (A : Option Addr) (n c : Nat) (xs : List V2) (hx : Fact (RdC w 2 (.slice A n c) (fV xs))) (hn : n ≤ 1048576) (h0 : w.cell? ⟨g, 0, none⟩ = some (.slice A n c)) :
    Calls Try.prog 140 #[.pointer (some ⟨g, 0, none⟩), rightF h.g] w fun e w' => e = .returned (.bool (decide (n ≤ 4096) && xs.all (rightP h.objs))) ∧ Gr w w' := by
  have hall := fun (W : World) (hg : Gr w W) => all_ok w0 W L h (hm.gr hg) hh hok A n c xs ⟨hx.out.gr hg⟩ (by omega)
  generalize rightF h.g = F at hall ⊢
  generalize xs.all (rightP h.objs) = al at hall ⊢
  replace hall := Fact.mk hall
  by_cases q : n ≤ 4096
  · have q' : decide ((n : Int) ≤ 4096) = true := decide_eq_true (by omega)
    rw [decide_eq_true q, Bool.true_and]
    go_enter Try.func140, Try.ntmps140
    go_wp2_with fail
    refine (hall.out w (Gr.refl w)).mono ?_
    rintro e w2 ⟨rfl, hg2⟩
    go_wp2
    go_ret
    exact ⟨rfl, hg2⟩
  · have q' : decide ((n : Int) ≤ 4096) = false := decide_eq_false (by omega)
    rw [decide_eq_false q, Bool.false_and]
    go_enter Try.func140, Try.ntmps140
    go_wp2
    go_ret
    exact ⟨rfl, Gr.refl w⟩
theorem rightR_ok (w0 w : World) (L : List Chunk) (h : Hp) (hm : Mem w0 w L) (hh : HpC h ∈ L) (hok : Fact h.Ok) (g : Nat) (A : Option Addr) (n c : Nat) (xs : List V2) (hx : Fact (RdC w 2 (.slice A n c) (fV xs))) (hn : n ≤ 1048576) (KA : Option Addr) (kn kc : Nat) (hkn : kn ≤ 1048576) (h0 : w.cell? ⟨g, 0, none⟩ = some (.slice KA kn kc)) (h1 : w.cell? ⟨g, 1, none⟩ = some (.slice A n c)) :
    Calls Try.prog 144 #[.pointer (some ⟨g, 0, none⟩), rightF h.g] w fun e w' => e = .returned (.bool (decide (kn ≤ 256) && xs.all (rightP h.objs))) ∧ Gr w w' := by
  have hall := fun (W : World) (hg : Gr w W) => all_ok w0 W L h (hm.gr hg) hh hok A n c xs ⟨hx.out.gr hg⟩ (by omega)
  generalize rightF h.g = F at hall ⊢
  generalize xs.all (rightP h.objs) = al at hall ⊢
  replace hall := Fact.mk hall
  by_cases q : kn ≤ 256
  · have q' : decide ((kn : Int) ≤ 256) = true := decide_eq_true (by omega)
    rw [decide_eq_true q, Bool.true_and]
    go_enter Try.func144, Try.ntmps144
    go_wp2_with fail
    refine (hall.out w (Gr.refl w)).mono ?_
    rintro e w2 ⟨rfl, hg2⟩
    go_wp2
    go_ret
    exact ⟨rfl, hg2⟩
  · have q' : decide ((kn : Int) ≤ 256) = false := decide_eq_false (by omega)
    rw [decide_eq_false q, Bool.false_and]
    go_enter Try.func144, Try.ntmps144
    go_wp2
    go_ret
    exact ⟨rfl, Gr.refl w⟩
theorem rightB_ok (w0 w : World) (L : List Chunk) (h : Hp) (hm : Mem w0 w L) (hh : HpC h ∈ L) (hok : Fact h.Ok) (g : Nat) (A : Option Addr) (n c : Nat) (xs : List V2) (hx : Fact (RdC w 2 (.slice A n c) (fV xs))) (hn : n ≤ 1048576) (fn : Int) (h0 : w.cell? ⟨g, 0, none⟩ = some (.int .i64 fn)) (h1 : w.cell? ⟨g, 1, none⟩ = some (.slice A n c)) :
    Calls Try.prog 149 #[.pointer (some ⟨g, 0, none⟩), rightF h.g] w fun e w' => e = .returned (.bool ((decide (0 ≤ fn) && decide (n ≤ 4096)) && xs.all (rightP h.objs))) ∧ Gr w w' := by
  have hall := fun (W : World) (hg : Gr w W) => all_ok w0 W L h (hm.gr hg) hh hok A n c xs ⟨hx.out.gr hg⟩ (by omega)
  generalize rightF h.g = F at hall ⊢
  generalize xs.all (rightP h.objs) = al at hall ⊢
  replace hall := Fact.mk hall
  by_cases p : 0 ≤ fn
  · have p' : decide (fn ≥ 0) = true := decide_eq_true p
    rw [decide_eq_true p, Bool.true_and]
    by_cases q : n ≤ 4096
    · have q' : decide ((n : Int) ≤ 4096) = true := decide_eq_true (by omega)
      rw [decide_eq_true q, Bool.true_and]
      go_enter Try.func149, Try.ntmps149
      go_wp2_with fail
      refine (hall.out w (Gr.refl w)).mono ?_
      rintro e w2 ⟨rfl, hg2⟩
      go_wp2
      go_ret
      exact ⟨rfl, hg2⟩
    · have q' : decide ((n : Int) ≤ 4096) = false := decide_eq_false (by omega)
      rw [decide_eq_false q, Bool.false_and]
      go_enter Try.func149, Try.ntmps149
      go_wp2
      go_ret
      exact ⟨rfl, Gr.refl w⟩
  · have p' : decide (fn ≥ 0) = false := decide_eq_false p
    rw [decide_eq_false p, Bool.false_and, Bool.false_and]
    go_enter Try.func149, Try.ntmps149
    go_wp2
    go_ret
    exact ⟨rfl, Gr.refl w⟩
theorem rightC_ok (w0 w : World) (L : List Chunk) (h : Hp) (hm : Mem w0 w L) (hh : HpC h ∈ L) (hok : Fact h.Ok) (g : Nat) (A : Option Addr) (n c : Nat) (xs : List V2) (hx : Fact (RdC w 2 (.slice A n c) (fV xs))) (hn : n ≤ 1048576) (cap : Int) (h0 : w.cell? ⟨g, 0, none⟩ = some (.int .i64 cap)) (h1 : w.cell? ⟨g, 1, none⟩ = some (.slice A n c)) :
    Calls Try.prog 135 #[.pointer (some ⟨g, 0, none⟩), rightF h.g] w fun e w' => e = .returned (.bool ((decide (1 ≤ cap) && decide (cap ≤ 64) && decide ((n : Int) ≤ cap)) && xs.all (rightP h.objs))) ∧ Gr w w' := by
  have hall := fun (W : World) (hg : Gr w W) => all_ok w0 W L h (hm.gr hg) hh hok A n c xs ⟨hx.out.gr hg⟩ (by omega)
  generalize rightF h.g = F at hall ⊢
  generalize xs.all (rightP h.objs) = al at hall ⊢
  replace hall := Fact.mk hall
  by_cases p : 1 ≤ cap
  · have p' : decide (cap ≥ 1) = true := decide_eq_true p
    rw [decide_eq_true p, Bool.true_and]
    by_cases r : cap ≤ 64
    · have r' : decide (cap ≤ 64) = true := decide_eq_true r
      rw [r', Bool.true_and]
      by_cases q : (n : Int) ≤ cap
      · have q' : decide ((n : Int) ≤ cap) = true := decide_eq_true q
        rw [q', Bool.true_and]
        go_enter Try.func135, Try.ntmps135
        go_upto_region 1 with (fail)
        have z0 := (Gr.refl w).drew.cell h0
        have z1 := (Gr.refl w).drew.cell h1
        refine wp_region_still_tail 30 (by kernel_rfl) (by kernel_rfl) ?_
        simp only [List.take_succ_cons, List.take_zero, List.drop_succ_cons, List.drop_zero]
        repeat still_step
        refine wpStill_nil ?_
        go_wp2_with fail
        refine (hall.out w.drew (Gr.refl w).drew).mono ?_
        rintro e w2 ⟨rfl, hg2⟩
        go_wp2
        go_ret
        exact ⟨rfl, (Gr.refl w).drew.trans hg2⟩
      · have q' : decide ((n : Int) ≤ cap) = false := decide_eq_false q
        rw [q', Bool.false_and]
        go_enter Try.func135, Try.ntmps135
        go_upto_region 1 with (fail)
        go_quiet (fail)
        go_wp2
        go_ret
        exact ⟨rfl, (Gr.refl w).drewN _⟩
    · have r' : decide (cap ≤ 64) = false := decide_eq_false r
      rw [r', Bool.false_and, Bool.false_and]
      go_enter Try.func135, Try.ntmps135
      go_upto_region 1 with (fail)
      go_quiet (fail)
      go_wp2
      go_ret
      exact ⟨rfl, (Gr.refl w).drewN _⟩
  · have p' : decide (cap ≥ 1) = false := decide_eq_false p
    rw [decide_eq_false p, Bool.false_and, Bool.false_and, Bool.false_and]
    go_enter Try.func135, Try.ntmps135
    go_upto_region 1 with (fail)
    go_quiet (fail)
    go_wp2
    go_ret
    exact ⟨rfl, (Gr.refl w).drewN _⟩
theorem mriA (a : Addr) (v : Value) (w : World) : (callMethod (.iface 104 (.pointer (some a))) "portage/heap.right" #[v]).run Try.prog w = .ok (.enter 140 #[.pointer (some a), v]) w := by kernel_rfl
theorem mriR (a : Addr) (v : Value) (w : World) : (callMethod (.iface 107 (.pointer (some a))) "portage/heap.right" #[v]).run Try.prog w = .ok (.enter 144 #[.pointer (some a), v]) w := by kernel_rfl
theorem mriB (a : Addr) (v : Value) (w : World) : (callMethod (.iface 145 (.pointer (some a))) "portage/heap.right" #[v]).run Try.prog w = .ok (.enter 149 #[.pointer (some a), v]) w := by kernel_rfl
theorem mriC (a : Addr) (v : Value) (w : World) : (callMethod (.iface 95 (.pointer (some a))) "portage/heap.right" #[v]).run Try.prog w = .ok (.enter 135 #[.pointer (some a), v]) w := by kernel_rfl
theorem rightI_ok (w0 w : World) (L : List Chunk) (h : Hp) (hm : Mem w0 w L) (hh : HpC h ∈ L) (hok : Fact h.Ok) (t : Th) (ht : t.Ok) (hc : ∀ c, c ∈ t.chunks → c.ok w) :
    ICalls Try.prog t.val "portage/heap.right" #[rightF h.g] w fun e w' => e = .returned (.bool (limB t.ob && t.ob.items.all (rightP h.objs))) ∧ Gr w w' := by
  obtain ⟨h0, hx, hk⟩ := Th.reads hc
  have hl := rdV_len hx
  have hkl := RdC.nlen hk
  have hsz := ht.size
  have kk := ht.keys
  unfold limB
  rw [hl, hkl]
  rcases t.val_of ht.kind with ⟨hkd, hv⟩ | ⟨hkd, hv⟩ | ⟨hkd, hv⟩ | ⟨hkd, hv⟩ <;> rw [hv] <;> rw [hkd] at kk <;> rw [hkd] <;> simp only [Th.cells, hkd] at h0
  · rw [if_pos rfl]
    exact ⟨_, _, mriA _ _ w, rightA_ok w0 w L h hm hh hok t.g t.A t.n t.c t.ob.items ⟨hx⟩ (by omega) (h0 0 _ rfl)⟩
  · rw [if_neg (by decide), if_pos rfl]
    have e4 := kk rfl
    exact ⟨_, _, mriR _ _ w, rightR_ok w0 w L h hm hh hok t.g t.A t.n t.c t.ob.items ⟨hx⟩ (by omega) t.KA t.kn t.kc (by omega) (h0 0 _ rfl) (h0 1 _ rfl)⟩
  · rw [if_neg (by decide), if_neg (by decide), if_pos rfl]
    exact ⟨_, _, mriB _ _ w, rightB_ok w0 w L h hm hh hok t.g t.A t.n t.c t.ob.items ⟨hx⟩ (by omega) t.ob.fn (h0 0 _ rfl) (h0 1 _ rfl)⟩
  · rw [if_neg (by decide), if_neg (by decide), if_neg (by decide)]
    exact ⟨_, _, mriC _ _ w, rightC_ok w0 w L h hm hh hok t.g t.A t.n t.c t.ob.items ⟨hx⟩ (by omega) t.ob.cap (h0 0 _ rfl) (h0 1 _ rfl)⟩
end Go.Proofs.Ytpibchjkmaghnaa
