/- Lemmas for the row HeapMemoryRow (contracts of functions, laws of memory). Conditions: those that each lemma states. -/
import Derived.Test.YtpibchjkmaghnaaGreatHCa
import Derived.Test.YtpibchjkmaghnaaGreatHCb
import Derived.Test.YtpibchjkmaghnaaGreatHCc
import Derived.Test.YtpibchjkmaghnaaGreatHCd
namespace Go.Proofs.YtpibchjkmaghnaaGreat
open Go.RowKit Go.Mm
set_option maxHeartbeats 4000000
set_option maxRecDepth 100000
set_option linter.unusedSimpArgs false
theorem told_get (w0 w : World) (L : List Chunk) (h : Rf) (hm : Mem w0 w (RfC h :: L)) (hok : Fact h.Ok) (o : HOp) (hg : Fact h.abs.Good) :
    Calls Tryz.prog 11 #[.pointer (some ⟨h.g, 0, none⟩), .int .i64 7, .agg (cHO o).toArray] w fun e w' => ∃ v, e = .returned v ∧ TellQ w0 L h.g (h.abs) (sdV (getV h.abs o.v o.I) 0 (getT h.abs o.v o.I) false) v w' := by
  go_enter Tryz.func11, Tryz.ntmps11
  go_upto_region 2 with (fail)
  have hm1 := ((hm.alloc (.cells (cHO o).toArray 38)).alloc (.cells (sC 0 0 0 0 false 0 none 0 0 none 0 0 0 0 false none 0 0).toArray 43)).alloc (.cells (sC 0 0 0 0 false 0 none 0 0 none 0 0 0 0 false none 0 0).toArray 43)
  simp only [World.size_alloc] at hm1
  generalize hgb : w.heap.size = g at hm1 ⊢
  generalize hw1 : ((w.alloc (.cells (cHO o).toArray 38)).alloc (.cells (sC 0 0 0 0 false 0 none 0 0 none 0 0 0 0 false none 0 0).toArray 43)).alloc (.cells (sC 0 0 0 0 false 0 none 0 0 none 0 0 0 0 false none 0 0).toArray 43) = w1 at hm1
  try refine wp_world hw1 ?_
  clear hw1 hgb
  replace hm1 := hm1.pull3
  have x2 := hm1.cell m3 2 rfl
  have x3 := hm1.cell m3 3 rfl
  have x6 := hm1.cell m3 6 rfl
  go_wp2_with (first | (refine wp_rng rfl 35 _ rfl g 2 rfl (cV o.v) (rng2 x2 x3) row_V sz_V ?_))
  refine (refGet_ok w0 w1 (Blk (g + 1 + 1) (.cells (sC 0 0 0 0 false 0 none 0 0 none 0 0 0 0 false none 0 0).toArray 43) :: Blk (g + 1) (.cells (sC 0 0 0 0 false 0 none 0 0 none 0 0 0 0 false none 0 0).toArray 43) :: Blk g (.cells (cHO o).toArray 38) :: L) h hm1 hok hg o.v.1 o.v.2 o.I).mono ?_
  rintro e w2 ⟨rfl, hm2⟩
  rw [show ((o.v.1, o.v.2) : V2) = o.v from rfl]
  obtain ⟨gv, hgv⟩ : ∃ z, z = getV h.abs o.v o.I := ⟨_, rfl⟩
  rw [← hgv]
  replace hgv := Fact.mk hgv
  obtain ⟨gt, hgt⟩ : ∃ z, z = getT h.abs o.v o.I := ⟨_, rfl⟩
  rw [← hgt]
  replace hgt := Fact.mk hgt
  go_wp2_with (first | (refine wp_setat rfl 35 _ _ rfl (g + 1 + 1) 0 rfl 43 _ [.int .i64 gv.1, .int .i64 gv.2] (sC gv.1 gv.2 0 0 false 0 none 0 0 none 0 0 0 0 false none 0 0) (.agg #[.int .i64 gv.1, .int .i64 gv.2]) rfl rfl hm2.swap sz_V (by simp [sC, obC]) (cV_one gv) rfl ?_; intro w3 hs3) | (refine wp_setat rfl 3 _ _ rfl (g + 1 + 1) 3 rfl 43 _ [.int .i64 gt] (sC gv.1 gv.2 0 gt false 0 none 0 0 none 0 0 0 0 false none 0 0) (.int .i64 gt) rfl rfl hs3 sz_int (by simp [sC, obC]) (one_one rfl) rfl ?_; intro w4 hs4) | (refine wp_rng rfl 43 _ rfl (g + 1 + 1) 0 rfl (sC gv.1 gv.2 0 gt false 0 none 0 0 none 0 0 0 0 false none 0 0) (rng_blk hs4 m0) row_S sz_S ?_) | (refine wp_setrow rfl 43 _ _ rfl (g + 1) rfl 43 _ (sC gv.1 gv.2 0 gt false 0 none 0 0 none 0 0 0 0 false none 0 0) rfl hs4.pull2 sz_S rfl (sC_one _ _ _ _ _ _ _ _ _ _ _ _ _ _ _ _ _ _) ?_; intro w5 hs5))
  have hz := hs5.tail.tail.drop2
  refine bodyPost_ret (Mm.res_cell rfl _ (g + 1) 43 (sC gv.1 gv.2 0 gt false 0 none 0 0 none 0 0 0 0 false none 0 0) (0, 0) rfl hs5 m0 row_S sz_S) rfl ?_
  rw [← hgv.out]
  rw [← hgt.out]
  exact ⟨_, rfl, h, rfl, rfl, hok.out, SdQ.plain gv.1 gv.2 0 gt false hz⟩
theorem told_set (w0 w : World) (L : List Chunk) (h : Rf) (hm : Mem w0 w (RfC h :: L)) (hok : Fact h.Ok) (o : HOp) (hg : Fact h.abs.Good) :
    Calls Tryz.prog 11 #[.pointer (some ⟨h.g, 0, none⟩), .int .i64 8, .agg (cHO o).toArray] w fun e w' => ∃ v, e = .returned v ∧ TellQ w0 L h.g (setS h.abs o.v o.I o.x) (sdV (0, 0) 0 (getT h.abs o.v o.I) false) v w' := by
  go_enter Tryz.func11, Tryz.ntmps11
  go_upto_region 2 with (fail)
  have hm1 := ((hm.alloc (.cells (cHO o).toArray 38)).alloc (.cells (sC 0 0 0 0 false 0 none 0 0 none 0 0 0 0 false none 0 0).toArray 43)).alloc (.cells (sC 0 0 0 0 false 0 none 0 0 none 0 0 0 0 false none 0 0).toArray 43)
  simp only [World.size_alloc] at hm1
  generalize hgb : w.heap.size = g at hm1 ⊢
  generalize hw1 : ((w.alloc (.cells (cHO o).toArray 38)).alloc (.cells (sC 0 0 0 0 false 0 none 0 0 none 0 0 0 0 false none 0 0).toArray 43)).alloc (.cells (sC 0 0 0 0 false 0 none 0 0 none 0 0 0 0 false none 0 0).toArray 43) = w1 at hm1
  try refine wp_world hw1 ?_
  clear hw1 hgb
  replace hm1 := hm1.pull3
  have x2 := hm1.cell m3 2 rfl
  have x3 := hm1.cell m3 3 rfl
  have x6 := hm1.cell m3 6 rfl
  have x4 := hm1.cell m3 4 rfl
  have x5 := hm1.cell m3 5 rfl
  go_wp2_with (first | (refine wp_rng rfl 35 _ rfl g 2 rfl (cV o.v) (rng2 x2 x3) row_V sz_V ?_) | (refine wp_rng rfl 35 _ rfl g 4 rfl (cV o.x) (rng2 x4 x5) row_V sz_V ?_))
  refine (refSet_ok w0 w1 (Blk (g + 1 + 1) (.cells (sC 0 0 0 0 false 0 none 0 0 none 0 0 0 0 false none 0 0).toArray 43) :: Blk (g + 1) (.cells (sC 0 0 0 0 false 0 none 0 0 none 0 0 0 0 false none 0 0).toArray 43) :: Blk g (.cells (cHO o).toArray 38) :: L) h hm1 hok hg o.v.1 o.v.2 o.I o.x.1 o.x.2).mono ?_
  rintro e w2 ⟨rfl, h', hg', ha', hok', hm2⟩
  rw [show ((o.v.1, o.v.2) : V2) = o.v from rfl]
  obtain ⟨gt, hgt⟩ : ∃ z, z = getT h.abs o.v o.I := ⟨_, rfl⟩
  rw [← hgt]
  replace hgt := Fact.mk hgt
  go_wp2_with (first | (refine wp_setat rfl 3 _ _ rfl (g + 1 + 1) 3 rfl 43 _ [.int .i64 gt] (sC 0 0 0 gt false 0 none 0 0 none 0 0 0 0 false none 0 0) (.int .i64 gt) rfl rfl hm2.swap sz_int (by simp [sC, obC]) (one_one rfl) rfl ?_; intro w3 hs3) | (refine wp_rng rfl 43 _ rfl (g + 1 + 1) 0 rfl (sC 0 0 0 gt false 0 none 0 0 none 0 0 0 0 false none 0 0) (rng_blk hs3 m0) row_S sz_S ?_) | (refine wp_setrow rfl 43 _ _ rfl (g + 1) rfl 43 _ (sC 0 0 0 gt false 0 none 0 0 none 0 0 0 0 false none 0 0) rfl hs3.pull2 sz_S rfl (sC_one _ _ _ _ _ _ _ _ _ _ _ _ _ _ _ _ _ _) ?_; intro w4 hs4))
  have hz := hs4.tail.tail.drop2
  refine bodyPost_ret (Mm.res_cell rfl _ (g + 1) 43 (sC 0 0 0 gt false 0 none 0 0 none 0 0 0 0 false none 0 0) (0, 0) rfl hs4 m0 row_S sz_S) rfl ?_
  rw [← hgt.out]
  exact ⟨_, rfl, h', hg', ha', hok', SdQ.plain 0 0 0 gt false hz⟩
theorem told_push (w0 w : World) (L : List Chunk) (h : Rf) (hm : Mem w0 w (RfC h :: L)) (hok : Fact h.Ok) (o : HOp) (hg : Fact h.abs.Good) :
    Calls Tryz.prog 11 #[.pointer (some ⟨h.g, 0, none⟩), .int .i64 9, .agg (cHO o).toArray] w fun e w' => ∃ v, e = .returned v ∧ TellQ w0 L h.g (pushS h.abs o.v o.x) (sdV (0, 0) 0 (pushT h.abs o.v) (pushB h.abs o.v)) v w' := by
  go_enter Tryz.func11, Tryz.ntmps11
  go_upto_region 2 with (fail)
  have hm1 := ((hm.alloc (.cells (cHO o).toArray 38)).alloc (.cells (sC 0 0 0 0 false 0 none 0 0 none 0 0 0 0 false none 0 0).toArray 43)).alloc (.cells (sC 0 0 0 0 false 0 none 0 0 none 0 0 0 0 false none 0 0).toArray 43)
  simp only [World.size_alloc] at hm1
  generalize hgb : w.heap.size = g at hm1 ⊢
  generalize hw1 : ((w.alloc (.cells (cHO o).toArray 38)).alloc (.cells (sC 0 0 0 0 false 0 none 0 0 none 0 0 0 0 false none 0 0).toArray 43)).alloc (.cells (sC 0 0 0 0 false 0 none 0 0 none 0 0 0 0 false none 0 0).toArray 43) = w1 at hm1
  try refine wp_world hw1 ?_
  clear hw1 hgb
  replace hm1 := hm1.pull3
  have x2 := hm1.cell m3 2 rfl
  have x3 := hm1.cell m3 3 rfl
  have x4 := hm1.cell m3 4 rfl
  have x5 := hm1.cell m3 5 rfl
  go_wp2_with (first | (refine wp_rng rfl 35 _ rfl g 2 rfl (cV o.v) (rng2 x2 x3) row_V sz_V ?_) | (refine wp_rng rfl 35 _ rfl g 4 rfl (cV o.x) (rng2 x4 x5) row_V sz_V ?_))
  refine (refPush_ok w0 w1 (Blk (g + 1 + 1) (.cells (sC 0 0 0 0 false 0 none 0 0 none 0 0 0 0 false none 0 0).toArray 43) :: Blk (g + 1) (.cells (sC 0 0 0 0 false 0 none 0 0 none 0 0 0 0 false none 0 0).toArray 43) :: Blk g (.cells (cHO o).toArray 38) :: L) h hm1 hok hg o.v.1 o.v.2 o.x.1 o.x.2).mono ?_
  rintro e w2 ⟨rfl, h', hg', ha', hok', hm2⟩
  rw [show ((o.v.1, o.v.2) : V2) = o.v from rfl]
  obtain ⟨gt, hgt⟩ : ∃ z, z = pushT h.abs o.v := ⟨_, rfl⟩
  rw [← hgt]
  replace hgt := Fact.mk hgt
  obtain ⟨gb, hgb⟩ : ∃ z, z = pushB h.abs o.v := ⟨_, rfl⟩
  rw [← hgb]
  replace hgb := Fact.mk hgb
  go_wp2_with (first | (refine wp_setat rfl 3 _ _ rfl (g + 1 + 1) 3 rfl 43 _ [.int .i64 gt] (sC 0 0 0 gt false 0 none 0 0 none 0 0 0 0 false none 0 0) (.int .i64 gt) rfl rfl hm2.swap sz_int (by simp [sC, obC]) (one_one rfl) rfl ?_; intro w3 hs3) | (refine wp_setat rfl 4 _ _ rfl (g + 1 + 1) 4 rfl 43 _ [.bool gb] (sC 0 0 0 gt gb 0 none 0 0 none 0 0 0 0 false none 0 0) (.bool gb) rfl rfl hs3 sz_bool (by simp [sC, obC]) (one_one rfl) rfl ?_; intro w4 hs4) | (refine wp_rng rfl 43 _ rfl (g + 1 + 1) 0 rfl (sC 0 0 0 gt gb 0 none 0 0 none 0 0 0 0 false none 0 0) (rng_blk hs4 m0) row_S sz_S ?_) | (refine wp_setrow rfl 43 _ _ rfl (g + 1) rfl 43 _ (sC 0 0 0 gt gb 0 none 0 0 none 0 0 0 0 false none 0 0) rfl hs4.pull2 sz_S rfl (sC_one _ _ _ _ _ _ _ _ _ _ _ _ _ _ _ _ _ _) ?_; intro w5 hs5))
  have hz := hs5.tail.tail.drop2
  refine bodyPost_ret (Mm.res_cell rfl _ (g + 1) 43 (sC 0 0 0 gt gb 0 none 0 0 none 0 0 0 0 false none 0 0) (0, 0) rfl hs5 m0 row_S sz_S) rfl ?_
  rw [← hgt.out]
  rw [← hgb.out]
  exact ⟨_, rfl, h', hg', ha', hok', SdQ.plain 0 0 0 gt gb hz⟩
theorem told_size (w0 w : World) (L : List Chunk) (h : Rf) (hm : Mem w0 w (RfC h :: L)) (hok : Fact h.Ok) (o : HOp) (hg : Fact h.abs.Good) :
    Calls Tryz.prog 11 #[.pointer (some ⟨h.g, 0, none⟩), .int .i64 10, .agg (cHO o).toArray] w fun e w' => ∃ v, e = .returned v ∧ TellQ w0 L h.g (h.abs) (sdV (0, 0) (sizeN h.abs o.v) (sizeT h.abs o.v) false) v w' := by
  go_enter Tryz.func11, Tryz.ntmps11
  go_upto_region 2 with (fail)
  have hm1 := ((hm.alloc (.cells (cHO o).toArray 38)).alloc (.cells (sC 0 0 0 0 false 0 none 0 0 none 0 0 0 0 false none 0 0).toArray 43)).alloc (.cells (sC 0 0 0 0 false 0 none 0 0 none 0 0 0 0 false none 0 0).toArray 43)
  simp only [World.size_alloc] at hm1
  generalize hgb : w.heap.size = g at hm1 ⊢
  generalize hw1 : ((w.alloc (.cells (cHO o).toArray 38)).alloc (.cells (sC 0 0 0 0 false 0 none 0 0 none 0 0 0 0 false none 0 0).toArray 43)).alloc (.cells (sC 0 0 0 0 false 0 none 0 0 none 0 0 0 0 false none 0 0).toArray 43) = w1 at hm1
  try refine wp_world hw1 ?_
  clear hw1 hgb
  replace hm1 := hm1.pull3
  have x2 := hm1.cell m3 2 rfl
  have x3 := hm1.cell m3 3 rfl
  go_wp2_with (first | (refine wp_rng rfl 35 _ rfl g 2 rfl (cV o.v) (rng2 x2 x3) row_V sz_V ?_))
  refine (refSize_ok w0 w1 (Blk (g + 1 + 1) (.cells (sC 0 0 0 0 false 0 none 0 0 none 0 0 0 0 false none 0 0).toArray 43) :: Blk (g + 1) (.cells (sC 0 0 0 0 false 0 none 0 0 none 0 0 0 0 false none 0 0).toArray 43) :: Blk g (.cells (cHO o).toArray 38) :: L) h hm1 hok hg o.v.1 o.v.2).mono ?_
  rintro e w2 ⟨rfl, hm2⟩
  rw [show ((o.v.1, o.v.2) : V2) = o.v from rfl]
  obtain ⟨gn, hgn⟩ : ∃ z, z = sizeN h.abs o.v := ⟨_, rfl⟩
  rw [← hgn]
  replace hgn := Fact.mk hgn
  obtain ⟨gt, hgt⟩ : ∃ z, z = sizeT h.abs o.v := ⟨_, rfl⟩
  rw [← hgt]
  replace hgt := Fact.mk hgt
  go_wp2_with (first | (refine wp_setat rfl 2 _ _ rfl (g + 1 + 1) 2 rfl 43 _ [.int .i64 gn] (sC 0 0 gn 0 false 0 none 0 0 none 0 0 0 0 false none 0 0) (.int .i64 gn) rfl rfl hm2.swap sz_i64 (by simp [sC, obC]) (one_one rfl) rfl ?_; intro w3 hs3) | (refine wp_setat rfl 3 _ _ rfl (g + 1 + 1) 3 rfl 43 _ [.int .i64 gt] (sC 0 0 gn gt false 0 none 0 0 none 0 0 0 0 false none 0 0) (.int .i64 gt) rfl rfl hs3 sz_int (by simp [sC, obC]) (one_one rfl) rfl ?_; intro w4 hs4) | (refine wp_rng rfl 43 _ rfl (g + 1 + 1) 0 rfl (sC 0 0 gn gt false 0 none 0 0 none 0 0 0 0 false none 0 0) (rng_blk hs4 m0) row_S sz_S ?_) | (refine wp_setrow rfl 43 _ _ rfl (g + 1) rfl 43 _ (sC 0 0 gn gt false 0 none 0 0 none 0 0 0 0 false none 0 0) rfl hs4.pull2 sz_S rfl (sC_one _ _ _ _ _ _ _ _ _ _ _ _ _ _ _ _ _ _) ?_; intro w5 hs5))
  have hz := hs5.tail.tail.drop2
  refine bodyPost_ret (Mm.res_cell rfl _ (g + 1) 43 (sC 0 0 gn gt false 0 none 0 0 none 0 0 0 0 false none 0 0) (0, 0) rfl hs5 m0 row_S sz_S) rfl ?_
  rw [← hgn.out]
  rw [← hgt.out]
  exact ⟨_, rfl, h, rfl, rfl, hok.out, SdQ.plain 0 0 gn gt false hz⟩
theorem tellM_field (w0 w : World) (L : List Chunk) (h : Rf) (hm : Mem w0 w (RfC h :: L)) (hok : Fact h.Ok) (o : HOp) (hg : Fact h.abs.Good) :
    Calls Tryz.prog 34 #[.pointer (some ⟨h.g, 0, none⟩), .int .i64 11, .agg (cHO o).toArray] w fun e w' => ∃ v, e = .returned v ∧ TellQ w0 L h.g (h.abs) (sdV (fieldV h.abs o.v o.I) 0 (fieldT h.abs o.v o.I) false) v w' := by
  go_enter Tryz.func34, Tryz.ntmps34
  go_upto_region 2 with (fail)
  have hm1 := ((hm.alloc (.cells (cHO o).toArray 38)).alloc (.cells (sC 0 0 0 0 false 0 none 0 0 none 0 0 0 0 false none 0 0).toArray 43)).alloc (.cells (sC 0 0 0 0 false 0 none 0 0 none 0 0 0 0 false none 0 0).toArray 43)
  simp only [World.size_alloc] at hm1
  generalize hgb : w.heap.size = g at hm1 ⊢
  generalize hw1 : ((w.alloc (.cells (cHO o).toArray 38)).alloc (.cells (sC 0 0 0 0 false 0 none 0 0 none 0 0 0 0 false none 0 0).toArray 43)).alloc (.cells (sC 0 0 0 0 false 0 none 0 0 none 0 0 0 0 false none 0 0).toArray 43) = w1 at hm1
  try refine wp_world hw1 ?_
  clear hw1 hgb
  replace hm1 := hm1.pull3
  have x2 := hm1.cell m3 2 rfl
  have x3 := hm1.cell m3 3 rfl
  have x6 := hm1.cell m3 6 rfl
  go_wp2_with (first | (refine wp_rng rfl 35 _ rfl g 2 rfl (cV o.v) (rng2 x2 x3) row_V sz_V ?_))
  refine (refField_ok w0 w1 (Blk (g + 1 + 1) (.cells (sC 0 0 0 0 false 0 none 0 0 none 0 0 0 0 false none 0 0).toArray 43) :: Blk (g + 1) (.cells (sC 0 0 0 0 false 0 none 0 0 none 0 0 0 0 false none 0 0).toArray 43) :: Blk g (.cells (cHO o).toArray 38) :: L) h hm1 hok hg o.v.1 o.v.2 o.I).mono ?_
  rintro e w2 ⟨rfl, hm2⟩
  rw [show ((o.v.1, o.v.2) : V2) = o.v from rfl]
  obtain ⟨gv, hgv⟩ : ∃ z, z = fieldV h.abs o.v o.I := ⟨_, rfl⟩
  rw [← hgv]
  replace hgv := Fact.mk hgv
  obtain ⟨gt, hgt⟩ : ∃ z, z = fieldT h.abs o.v o.I := ⟨_, rfl⟩
  rw [← hgt]
  replace hgt := Fact.mk hgt
  go_wp2_with (first | (refine wp_setat rfl 35 _ _ rfl (g + 1 + 1) 0 rfl 43 _ [.int .i64 gv.1, .int .i64 gv.2] (sC gv.1 gv.2 0 0 false 0 none 0 0 none 0 0 0 0 false none 0 0) (.agg #[.int .i64 gv.1, .int .i64 gv.2]) rfl rfl hm2.swap sz_V (by simp [sC, obC]) (cV_one gv) rfl ?_; intro w3 hs3) | (refine wp_setat rfl 3 _ _ rfl (g + 1 + 1) 3 rfl 43 _ [.int .i64 gt] (sC gv.1 gv.2 0 gt false 0 none 0 0 none 0 0 0 0 false none 0 0) (.int .i64 gt) rfl rfl hs3 sz_int (by simp [sC, obC]) (one_one rfl) rfl ?_; intro w4 hs4) | (refine wp_rng rfl 43 _ rfl (g + 1 + 1) 0 rfl (sC gv.1 gv.2 0 gt false 0 none 0 0 none 0 0 0 0 false none 0 0) (rng_blk hs4 m0) row_S sz_S ?_) | (refine wp_setrow rfl 43 _ _ rfl (g + 1) rfl 43 _ (sC gv.1 gv.2 0 gt false 0 none 0 0 none 0 0 0 0 false none 0 0) rfl hs4.pull2 sz_S rfl (sC_one _ _ _ _ _ _ _ _ _ _ _ _ _ _ _ _ _ _) ?_; intro w5 hs5))
  have hz := hs5.tail.tail.drop2
  refine bodyPost_ret (Mm.res_cell rfl _ (g + 1) 43 (sC gv.1 gv.2 0 gt false 0 none 0 0 none 0 0 0 0 false none 0 0) (0, 0) rfl hs5 m0 row_S sz_S) rfl ?_
  rw [← hgv.out]
  rw [← hgt.out]
  exact ⟨_, rfl, h, rfl, rfl, hok.out, SdQ.plain gv.1 gv.2 0 gt false hz⟩
theorem tellM_setf (w0 w : World) (L : List Chunk) (h : Rf) (hm : Mem w0 w (RfC h :: L)) (hok : Fact h.Ok) (o : HOp) (hg : Fact h.abs.Good) :
    Calls Tryz.prog 34 #[.pointer (some ⟨h.g, 0, none⟩), .int .i64 12, .agg (cHO o).toArray] w fun e w' => ∃ v, e = .returned v ∧ TellQ w0 L h.g (setFS h.abs o.v o.I o.x) (sdV (0, 0) 0 (setFT h.abs o.v o.I) (setFB h.abs o.v o.I)) v w' := by
  go_enter Tryz.func34, Tryz.ntmps34
  go_upto_region 2 with (fail)
  have hm1 := ((hm.alloc (.cells (cHO o).toArray 38)).alloc (.cells (sC 0 0 0 0 false 0 none 0 0 none 0 0 0 0 false none 0 0).toArray 43)).alloc (.cells (sC 0 0 0 0 false 0 none 0 0 none 0 0 0 0 false none 0 0).toArray 43)
  simp only [World.size_alloc] at hm1
  generalize hgb : w.heap.size = g at hm1 ⊢
  generalize hw1 : ((w.alloc (.cells (cHO o).toArray 38)).alloc (.cells (sC 0 0 0 0 false 0 none 0 0 none 0 0 0 0 false none 0 0).toArray 43)).alloc (.cells (sC 0 0 0 0 false 0 none 0 0 none 0 0 0 0 false none 0 0).toArray 43) = w1 at hm1
  try refine wp_world hw1 ?_
  clear hw1 hgb
  replace hm1 := hm1.pull3
  have x2 := hm1.cell m3 2 rfl
  have x3 := hm1.cell m3 3 rfl
  have x6 := hm1.cell m3 6 rfl
  have x4 := hm1.cell m3 4 rfl
  have x5 := hm1.cell m3 5 rfl
  go_wp2_with (first | (refine wp_rng rfl 35 _ rfl g 2 rfl (cV o.v) (rng2 x2 x3) row_V sz_V ?_) | (refine wp_rng rfl 35 _ rfl g 4 rfl (cV o.x) (rng2 x4 x5) row_V sz_V ?_))
  refine (refSetF_ok w0 w1 (Blk (g + 1 + 1) (.cells (sC 0 0 0 0 false 0 none 0 0 none 0 0 0 0 false none 0 0).toArray 43) :: Blk (g + 1) (.cells (sC 0 0 0 0 false 0 none 0 0 none 0 0 0 0 false none 0 0).toArray 43) :: Blk g (.cells (cHO o).toArray 38) :: L) h hm1 hok hg o.v.1 o.v.2 o.I o.x.1 o.x.2).mono ?_
  rintro e w2 ⟨rfl, h', hg', ha', hok', hm2⟩
  rw [show ((o.v.1, o.v.2) : V2) = o.v from rfl]
  obtain ⟨gt, hgt⟩ : ∃ z, z = setFT h.abs o.v o.I := ⟨_, rfl⟩
  rw [← hgt]
  replace hgt := Fact.mk hgt
  obtain ⟨gb, hgb⟩ : ∃ z, z = setFB h.abs o.v o.I := ⟨_, rfl⟩
  rw [← hgb]
  replace hgb := Fact.mk hgb
  go_wp2_with (first | (refine wp_setat rfl 3 _ _ rfl (g + 1 + 1) 3 rfl 43 _ [.int .i64 gt] (sC 0 0 0 gt false 0 none 0 0 none 0 0 0 0 false none 0 0) (.int .i64 gt) rfl rfl hm2.swap sz_int (by simp [sC, obC]) (one_one rfl) rfl ?_; intro w3 hs3) | (refine wp_setat rfl 4 _ _ rfl (g + 1 + 1) 4 rfl 43 _ [.bool gb] (sC 0 0 0 gt gb 0 none 0 0 none 0 0 0 0 false none 0 0) (.bool gb) rfl rfl hs3 sz_bool (by simp [sC, obC]) (one_one rfl) rfl ?_; intro w4 hs4) | (refine wp_rng rfl 43 _ rfl (g + 1 + 1) 0 rfl (sC 0 0 0 gt gb 0 none 0 0 none 0 0 0 0 false none 0 0) (rng_blk hs4 m0) row_S sz_S ?_) | (refine wp_setrow rfl 43 _ _ rfl (g + 1) rfl 43 _ (sC 0 0 0 gt gb 0 none 0 0 none 0 0 0 0 false none 0 0) rfl hs4.pull2 sz_S rfl (sC_one _ _ _ _ _ _ _ _ _ _ _ _ _ _ _ _ _ _) ?_; intro w5 hs5))
  have hz := hs5.tail.tail.drop2
  refine bodyPost_ret (Mm.res_cell rfl _ (g + 1) 43 (sC 0 0 0 gt gb 0 none 0 0 none 0 0 0 0 false none 0 0) (0, 0) rfl hs5 m0 row_S sz_S) rfl ?_
  rw [← hgt.out]
  rw [← hgb.out]
  exact ⟨_, rfl, h', hg', ha', hok', SdQ.plain 0 0 0 gt gb hz⟩
theorem tellM_has (w0 w : World) (L : List Chunk) (h : Rf) (hm : Mem w0 w (RfC h :: L)) (hok : Fact h.Ok) (o : HOp) (hg : Fact h.abs.Good) :
    Calls Tryz.prog 34 #[.pointer (some ⟨h.g, 0, none⟩), .int .i64 13, .agg (cHO o).toArray] w fun e w' => ∃ v, e = .returned v ∧ TellQ w0 L h.g (h.abs) (sdV (0, 0) 0 (hasT h.abs o.v) (hasB h.abs o.v o.I)) v w' := by
  go_enter Tryz.func34, Tryz.ntmps34
  go_upto_region 2 with (fail)
  have hm1 := ((hm.alloc (.cells (cHO o).toArray 38)).alloc (.cells (sC 0 0 0 0 false 0 none 0 0 none 0 0 0 0 false none 0 0).toArray 43)).alloc (.cells (sC 0 0 0 0 false 0 none 0 0 none 0 0 0 0 false none 0 0).toArray 43)
  simp only [World.size_alloc] at hm1
  generalize hgb : w.heap.size = g at hm1 ⊢
  generalize hw1 : ((w.alloc (.cells (cHO o).toArray 38)).alloc (.cells (sC 0 0 0 0 false 0 none 0 0 none 0 0 0 0 false none 0 0).toArray 43)).alloc (.cells (sC 0 0 0 0 false 0 none 0 0 none 0 0 0 0 false none 0 0).toArray 43) = w1 at hm1
  try refine wp_world hw1 ?_
  clear hw1 hgb
  replace hm1 := hm1.pull3
  have x2 := hm1.cell m3 2 rfl
  have x3 := hm1.cell m3 3 rfl
  have x6 := hm1.cell m3 6 rfl
  go_wp2_with (first | (refine wp_rng rfl 35 _ rfl g 2 rfl (cV o.v) (rng2 x2 x3) row_V sz_V ?_))
  refine (refHas_ok w0 w1 (Blk (g + 1 + 1) (.cells (sC 0 0 0 0 false 0 none 0 0 none 0 0 0 0 false none 0 0).toArray 43) :: Blk (g + 1) (.cells (sC 0 0 0 0 false 0 none 0 0 none 0 0 0 0 false none 0 0).toArray 43) :: Blk g (.cells (cHO o).toArray 38) :: L) h hm1 hok hg o.v.1 o.v.2 o.I).mono ?_
  rintro e w2 ⟨rfl, hm2⟩
  rw [show ((o.v.1, o.v.2) : V2) = o.v from rfl]
  obtain ⟨gb, hgb⟩ : ∃ z, z = hasB h.abs o.v o.I := ⟨_, rfl⟩
  rw [← hgb]
  replace hgb := Fact.mk hgb
  obtain ⟨gt, hgt⟩ : ∃ z, z = hasT h.abs o.v := ⟨_, rfl⟩
  rw [← hgt]
  replace hgt := Fact.mk hgt
  go_wp2_with (first | (refine wp_setat rfl 4 _ _ rfl (g + 1 + 1) 4 rfl 43 _ [.bool gb] (sC 0 0 0 0 gb 0 none 0 0 none 0 0 0 0 false none 0 0) (.bool gb) rfl rfl hm2.swap sz_bool (by simp [sC, obC]) (one_one rfl) rfl ?_; intro w3 hs3) | (refine wp_setat rfl 3 _ _ rfl (g + 1 + 1) 3 rfl 43 _ [.int .i64 gt] (sC 0 0 0 gt gb 0 none 0 0 none 0 0 0 0 false none 0 0) (.int .i64 gt) rfl rfl hs3 sz_int (by simp [sC, obC]) (one_one rfl) rfl ?_; intro w4 hs4) | (refine wp_rng rfl 43 _ rfl (g + 1 + 1) 0 rfl (sC 0 0 0 gt gb 0 none 0 0 none 0 0 0 0 false none 0 0) (rng_blk hs4 m0) row_S sz_S ?_) | (refine wp_setrow rfl 43 _ _ rfl (g + 1) rfl 43 _ (sC 0 0 0 gt gb 0 none 0 0 none 0 0 0 0 false none 0 0) rfl hs4.pull2 sz_S rfl (sC_one _ _ _ _ _ _ _ _ _ _ _ _ _ _ _ _ _ _) ?_; intro w5 hs5))
  have hz := hs5.tail.tail.drop2
  refine bodyPost_ret (Mm.res_cell rfl _ (g + 1) 43 (sC 0 0 0 gt gb 0 none 0 0 none 0 0 0 0 false none 0 0) (0, 0) rfl hs5 m0 row_S sz_S) rfl ?_
  rw [← hgb.out]
  rw [← hgt.out]
  exact ⟨_, rfl, h, rfl, rfl, hok.out, SdQ.plain 0 0 0 gt gb hz⟩
theorem tellM_delete (w0 w : World) (L : List Chunk) (h : Rf) (hm : Mem w0 w (RfC h :: L)) (hok : Fact h.Ok) (o : HOp) (hg : Fact h.abs.Good) :
    Calls Tryz.prog 34 #[.pointer (some ⟨h.g, 0, none⟩), .int .i64 14, .agg (cHO o).toArray] w fun e w' => ∃ v, e = .returned v ∧ TellQ w0 L h.g (delS h.abs o.v o.I) (sdV (0, 0) 0 (delT h.abs o.v o.I) false) v w' := by
  go_enter Tryz.func34, Tryz.ntmps34
  go_upto_region 2 with (fail)
  have hm1 := ((hm.alloc (.cells (cHO o).toArray 38)).alloc (.cells (sC 0 0 0 0 false 0 none 0 0 none 0 0 0 0 false none 0 0).toArray 43)).alloc (.cells (sC 0 0 0 0 false 0 none 0 0 none 0 0 0 0 false none 0 0).toArray 43)
  simp only [World.size_alloc] at hm1
  generalize hgb : w.heap.size = g at hm1 ⊢
  generalize hw1 : ((w.alloc (.cells (cHO o).toArray 38)).alloc (.cells (sC 0 0 0 0 false 0 none 0 0 none 0 0 0 0 false none 0 0).toArray 43)).alloc (.cells (sC 0 0 0 0 false 0 none 0 0 none 0 0 0 0 false none 0 0).toArray 43) = w1 at hm1
  try refine wp_world hw1 ?_
  clear hw1 hgb
  replace hm1 := hm1.pull3
  have x2 := hm1.cell m3 2 rfl
  have x3 := hm1.cell m3 3 rfl
  have x6 := hm1.cell m3 6 rfl
  go_wp2_with (first | (refine wp_rng rfl 35 _ rfl g 2 rfl (cV o.v) (rng2 x2 x3) row_V sz_V ?_))
  refine (refDelete_ok w0 w1 (Blk (g + 1 + 1) (.cells (sC 0 0 0 0 false 0 none 0 0 none 0 0 0 0 false none 0 0).toArray 43) :: Blk (g + 1) (.cells (sC 0 0 0 0 false 0 none 0 0 none 0 0 0 0 false none 0 0).toArray 43) :: Blk g (.cells (cHO o).toArray 38) :: L) h hm1 hok hg o.v.1 o.v.2 o.I).mono ?_
  rintro e w2 ⟨rfl, h', hg', ha', hok', hm2⟩
  rw [show ((o.v.1, o.v.2) : V2) = o.v from rfl]
  obtain ⟨gt, hgt⟩ : ∃ z, z = delT h.abs o.v o.I := ⟨_, rfl⟩
  rw [← hgt]
  replace hgt := Fact.mk hgt
  go_wp2_with (first | (refine wp_setat rfl 3 _ _ rfl (g + 1 + 1) 3 rfl 43 _ [.int .i64 gt] (sC 0 0 0 gt false 0 none 0 0 none 0 0 0 0 false none 0 0) (.int .i64 gt) rfl rfl hm2.swap sz_int (by simp [sC, obC]) (one_one rfl) rfl ?_; intro w3 hs3) | (refine wp_rng rfl 43 _ rfl (g + 1 + 1) 0 rfl (sC 0 0 0 gt false 0 none 0 0 none 0 0 0 0 false none 0 0) (rng_blk hs3 m0) row_S sz_S ?_) | (refine wp_setrow rfl 43 _ _ rfl (g + 1) rfl 43 _ (sC 0 0 0 gt false 0 none 0 0 none 0 0 0 0 false none 0 0) rfl hs3.pull2 sz_S rfl (sC_one _ _ _ _ _ _ _ _ _ _ _ _ _ _ _ _ _ _) ?_; intro w4 hs4))
  have hz := hs4.tail.tail.drop2
  refine bodyPost_ret (Mm.res_cell rfl _ (g + 1) 43 (sC 0 0 0 gt false 0 none 0 0 none 0 0 0 0 false none 0 0) (0, 0) rfl hs4 m0 row_S sz_S) rfl ?_
  rw [← hgt.out]
  exact ⟨_, rfl, h', hg', ha', hok', SdQ.plain 0 0 0 gt false hz⟩
theorem tellM_keys (w0 w : World) (L : List Chunk) (h : Rf) (hm : Mem w0 w (RfC h :: L)) (hok : Fact h.Ok) (o : HOp) (hg : Fact h.abs.Good) (hl : h.xs.length < 16777216) :
    Calls Tryz.prog 34 #[.pointer (some ⟨h.g, 0, none⟩), .int .i64 15, .agg (cHO o).toArray] w fun e w' => ∃ v, e = .returned v ∧ TellQ w0 L h.g (keysS h.abs o.v) (sdV ((keysW h.abs o.v).v) 0 ((keysW h.abs o.v).trap) ((keysW h.abs o.v).ok)) v w' := by
  go_enter Tryz.func34, Tryz.ntmps34
  go_upto_region 2 with (fail)
  have hm1 := ((hm.alloc (.cells (cHO o).toArray 38)).alloc (.cells (sC 0 0 0 0 false 0 none 0 0 none 0 0 0 0 false none 0 0).toArray 43)).alloc (.cells (sC 0 0 0 0 false 0 none 0 0 none 0 0 0 0 false none 0 0).toArray 43)
  simp only [World.size_alloc] at hm1
  generalize hgb : w.heap.size = g at hm1 ⊢
  generalize hw1 : ((w.alloc (.cells (cHO o).toArray 38)).alloc (.cells (sC 0 0 0 0 false 0 none 0 0 none 0 0 0 0 false none 0 0).toArray 43)).alloc (.cells (sC 0 0 0 0 false 0 none 0 0 none 0 0 0 0 false none 0 0).toArray 43) = w1 at hm1
  try refine wp_world hw1 ?_
  clear hw1 hgb
  replace hm1 := hm1.pull3
  have x2 := hm1.cell m3 2 rfl
  have x3 := hm1.cell m3 3 rfl
  go_wp2_with (first | (refine wp_rng rfl 35 _ rfl g 2 rfl (cV o.v) (rng2 x2 x3) row_V sz_V ?_))
  refine (refKeys_ok w0 w1 (Blk (g + 1 + 1) (.cells (sC 0 0 0 0 false 0 none 0 0 none 0 0 0 0 false none 0 0).toArray 43) :: Blk (g + 1) (.cells (sC 0 0 0 0 false 0 none 0 0 none 0 0 0 0 false none 0 0).toArray 43) :: Blk g (.cells (cHO o).toArray 38) :: L) h hm1 hok hg o.v.1 o.v.2 hl).mono ?_
  rintro e w2 ⟨rfl, h', hg', ha', hok', hm2⟩
  rw [show ((o.v.1, o.v.2) : V2) = o.v from rfl]
  obtain ⟨gv, hgv⟩ : ∃ z, z = (keysW h.abs o.v).v := ⟨_, rfl⟩
  rw [← hgv]
  replace hgv := Fact.mk hgv
  obtain ⟨gt, hgt⟩ : ∃ z, z = (keysW h.abs o.v).trap := ⟨_, rfl⟩
  rw [← hgt]
  replace hgt := Fact.mk hgt
  obtain ⟨gb, hgb⟩ : ∃ z, z = (keysW h.abs o.v).ok := ⟨_, rfl⟩
  rw [← hgb]
  replace hgb := Fact.mk hgb
  go_wp2_with (first | (refine wp_setat rfl 35 _ _ rfl (g + 1 + 1) 0 rfl 43 _ [.int .i64 gv.1, .int .i64 gv.2] (sC gv.1 gv.2 0 0 false 0 none 0 0 none 0 0 0 0 false none 0 0) (.agg #[.int .i64 gv.1, .int .i64 gv.2]) rfl rfl hm2.swap sz_V (by simp [sC, obC]) (cV_one gv) rfl ?_; intro w3 hs3) | (refine wp_setat rfl 3 _ _ rfl (g + 1 + 1) 3 rfl 43 _ [.int .i64 gt] (sC gv.1 gv.2 0 gt false 0 none 0 0 none 0 0 0 0 false none 0 0) (.int .i64 gt) rfl rfl hs3 sz_int (by simp [sC, obC]) (one_one rfl) rfl ?_; intro w4 hs4) | (refine wp_setat rfl 4 _ _ rfl (g + 1 + 1) 4 rfl 43 _ [.bool gb] (sC gv.1 gv.2 0 gt gb 0 none 0 0 none 0 0 0 0 false none 0 0) (.bool gb) rfl rfl hs4 sz_bool (by simp [sC, obC]) (one_one rfl) rfl ?_; intro w5 hs5) | (refine wp_rng rfl 43 _ rfl (g + 1 + 1) 0 rfl (sC gv.1 gv.2 0 gt gb 0 none 0 0 none 0 0 0 0 false none 0 0) (rng_blk hs5 m0) row_S sz_S ?_) | (refine wp_setrow rfl 43 _ _ rfl (g + 1) rfl 43 _ (sC gv.1 gv.2 0 gt gb 0 none 0 0 none 0 0 0 0 false none 0 0) rfl hs5.pull2 sz_S rfl (sC_one _ _ _ _ _ _ _ _ _ _ _ _ _ _ _ _ _ _) ?_; intro w6 hs6))
  have hz := hs6.tail.tail.drop2
  refine bodyPost_ret (Mm.res_cell rfl _ (g + 1) 43 (sC gv.1 gv.2 0 gt gb 0 none 0 0 none 0 0 0 0 false none 0 0) (0, 0) rfl hs6 m0 row_S sz_S) rfl ?_
  rw [← hgv.out]
  rw [← hgt.out]
  rw [← hgb.out]
  exact ⟨_, rfl, h', hg', ha', hok', SdQ.plain gv.1 gv.2 0 gt gb hz⟩
theorem tellM_send (w0 w : World) (L : List Chunk) (h : Rf) (hm : Mem w0 w (RfC h :: L)) (hok : Fact h.Ok) (o : HOp) (hg : Fact h.abs.Good) :
    Calls Tryz.prog 34 #[.pointer (some ⟨h.g, 0, none⟩), .int .i64 16, .agg (cHO o).toArray] w fun e w' => ∃ v, e = .returned v ∧ TellQ w0 L h.g (sendS h.abs o.v o.x) (sdV (0, 0) 0 (sendT h.abs o.v) (sendB h.abs o.v)) v w' := by
  go_enter Tryz.func34, Tryz.ntmps34
  go_upto_region 2 with (fail)
  have hm1 := ((hm.alloc (.cells (cHO o).toArray 38)).alloc (.cells (sC 0 0 0 0 false 0 none 0 0 none 0 0 0 0 false none 0 0).toArray 43)).alloc (.cells (sC 0 0 0 0 false 0 none 0 0 none 0 0 0 0 false none 0 0).toArray 43)
  simp only [World.size_alloc] at hm1
  generalize hgb : w.heap.size = g at hm1 ⊢
  generalize hw1 : ((w.alloc (.cells (cHO o).toArray 38)).alloc (.cells (sC 0 0 0 0 false 0 none 0 0 none 0 0 0 0 false none 0 0).toArray 43)).alloc (.cells (sC 0 0 0 0 false 0 none 0 0 none 0 0 0 0 false none 0 0).toArray 43) = w1 at hm1
  try refine wp_world hw1 ?_
  clear hw1 hgb
  replace hm1 := hm1.pull3
  have x2 := hm1.cell m3 2 rfl
  have x3 := hm1.cell m3 3 rfl
  have x4 := hm1.cell m3 4 rfl
  have x5 := hm1.cell m3 5 rfl
  go_wp2_with (first | (refine wp_rng rfl 35 _ rfl g 2 rfl (cV o.v) (rng2 x2 x3) row_V sz_V ?_) | (refine wp_rng rfl 35 _ rfl g 4 rfl (cV o.x) (rng2 x4 x5) row_V sz_V ?_))
  refine (refSend_ok w0 w1 (Blk (g + 1 + 1) (.cells (sC 0 0 0 0 false 0 none 0 0 none 0 0 0 0 false none 0 0).toArray 43) :: Blk (g + 1) (.cells (sC 0 0 0 0 false 0 none 0 0 none 0 0 0 0 false none 0 0).toArray 43) :: Blk g (.cells (cHO o).toArray 38) :: L) h hm1 hok hg o.v.1 o.v.2 o.x.1 o.x.2).mono ?_
  rintro e w2 ⟨rfl, h', hg', ha', hok', hm2⟩
  rw [show ((o.v.1, o.v.2) : V2) = o.v from rfl]
  obtain ⟨gb, hgb⟩ : ∃ z, z = sendB h.abs o.v := ⟨_, rfl⟩
  rw [← hgb]
  replace hgb := Fact.mk hgb
  obtain ⟨gt, hgt⟩ : ∃ z, z = sendT h.abs o.v := ⟨_, rfl⟩
  rw [← hgt]
  replace hgt := Fact.mk hgt
  go_wp2_with (first | (refine wp_setat rfl 4 _ _ rfl (g + 1 + 1) 4 rfl 43 _ [.bool gb] (sC 0 0 0 0 gb 0 none 0 0 none 0 0 0 0 false none 0 0) (.bool gb) rfl rfl hm2.swap sz_bool (by simp [sC, obC]) (one_one rfl) rfl ?_; intro w3 hs3) | (refine wp_setat rfl 3 _ _ rfl (g + 1 + 1) 3 rfl 43 _ [.int .i64 gt] (sC 0 0 0 gt gb 0 none 0 0 none 0 0 0 0 false none 0 0) (.int .i64 gt) rfl rfl hs3 sz_int (by simp [sC, obC]) (one_one rfl) rfl ?_; intro w4 hs4) | (refine wp_rng rfl 43 _ rfl (g + 1 + 1) 0 rfl (sC 0 0 0 gt gb 0 none 0 0 none 0 0 0 0 false none 0 0) (rng_blk hs4 m0) row_S sz_S ?_) | (refine wp_setrow rfl 43 _ _ rfl (g + 1) rfl 43 _ (sC 0 0 0 gt gb 0 none 0 0 none 0 0 0 0 false none 0 0) rfl hs4.pull2 sz_S rfl (sC_one _ _ _ _ _ _ _ _ _ _ _ _ _ _ _ _ _ _) ?_; intro w5 hs5))
  have hz := hs5.tail.tail.drop2
  refine bodyPost_ret (Mm.res_cell rfl _ (g + 1) 43 (sC 0 0 0 gt gb 0 none 0 0 none 0 0 0 0 false none 0 0) (0, 0) rfl hs5 m0 row_S sz_S) rfl ?_
  rw [← hgb.out]
  rw [← hgt.out]
  exact ⟨_, rfl, h', hg', ha', hok', SdQ.plain 0 0 0 gt gb hz⟩
theorem tellM_recv (w0 w : World) (L : List Chunk) (h : Rf) (hm : Mem w0 w (RfC h :: L)) (hok : Fact h.Ok) (o : HOp) (hg : Fact h.abs.Good) :
    Calls Tryz.prog 34 #[.pointer (some ⟨h.g, 0, none⟩), .int .i64 17, .agg (cHO o).toArray] w fun e w' => ∃ v, e = .returned v ∧ TellQ w0 L h.g (recvS h.abs o.v) (sdV (recvV h.abs o.v) 0 (recvT h.abs o.v) (recvB h.abs o.v)) v w' := by
  go_enter Tryz.func34, Tryz.ntmps34
  go_upto_region 2 with (fail)
  have hm1 := ((hm.alloc (.cells (cHO o).toArray 38)).alloc (.cells (sC 0 0 0 0 false 0 none 0 0 none 0 0 0 0 false none 0 0).toArray 43)).alloc (.cells (sC 0 0 0 0 false 0 none 0 0 none 0 0 0 0 false none 0 0).toArray 43)
  simp only [World.size_alloc] at hm1
  generalize hgb : w.heap.size = g at hm1 ⊢
  generalize hw1 : ((w.alloc (.cells (cHO o).toArray 38)).alloc (.cells (sC 0 0 0 0 false 0 none 0 0 none 0 0 0 0 false none 0 0).toArray 43)).alloc (.cells (sC 0 0 0 0 false 0 none 0 0 none 0 0 0 0 false none 0 0).toArray 43) = w1 at hm1
  try refine wp_world hw1 ?_
  clear hw1 hgb
  replace hm1 := hm1.pull3
  have x2 := hm1.cell m3 2 rfl
  have x3 := hm1.cell m3 3 rfl
  go_wp2_with (first | (refine wp_rng rfl 35 _ rfl g 2 rfl (cV o.v) (rng2 x2 x3) row_V sz_V ?_))
  refine (refRecv_ok w0 w1 (Blk (g + 1 + 1) (.cells (sC 0 0 0 0 false 0 none 0 0 none 0 0 0 0 false none 0 0).toArray 43) :: Blk (g + 1) (.cells (sC 0 0 0 0 false 0 none 0 0 none 0 0 0 0 false none 0 0).toArray 43) :: Blk g (.cells (cHO o).toArray 38) :: L) h hm1 hok hg o.v.1 o.v.2).mono ?_
  rintro e w2 ⟨rfl, h', hg', ha', hok', hm2⟩
  rw [show ((o.v.1, o.v.2) : V2) = o.v from rfl]
  obtain ⟨gv, hgv⟩ : ∃ z, z = recvV h.abs o.v := ⟨_, rfl⟩
  rw [← hgv]
  replace hgv := Fact.mk hgv
  obtain ⟨gb, hgb⟩ : ∃ z, z = recvB h.abs o.v := ⟨_, rfl⟩
  rw [← hgb]
  replace hgb := Fact.mk hgb
  obtain ⟨gt, hgt⟩ : ∃ z, z = recvT h.abs o.v := ⟨_, rfl⟩
  rw [← hgt]
  replace hgt := Fact.mk hgt
  go_wp2_with (first | (refine wp_setat rfl 35 _ _ rfl (g + 1 + 1) 0 rfl 43 _ [.int .i64 gv.1, .int .i64 gv.2] (sC gv.1 gv.2 0 0 false 0 none 0 0 none 0 0 0 0 false none 0 0) (.agg #[.int .i64 gv.1, .int .i64 gv.2]) rfl rfl hm2.swap sz_V (by simp [sC, obC]) (cV_one gv) rfl ?_; intro w3 hs3) | (refine wp_setat rfl 4 _ _ rfl (g + 1 + 1) 4 rfl 43 _ [.bool gb] (sC gv.1 gv.2 0 0 gb 0 none 0 0 none 0 0 0 0 false none 0 0) (.bool gb) rfl rfl hs3 sz_bool (by simp [sC, obC]) (one_one rfl) rfl ?_; intro w4 hs4) | (refine wp_setat rfl 3 _ _ rfl (g + 1 + 1) 3 rfl 43 _ [.int .i64 gt] (sC gv.1 gv.2 0 gt gb 0 none 0 0 none 0 0 0 0 false none 0 0) (.int .i64 gt) rfl rfl hs4 sz_int (by simp [sC, obC]) (one_one rfl) rfl ?_; intro w5 hs5) | (refine wp_rng rfl 43 _ rfl (g + 1 + 1) 0 rfl (sC gv.1 gv.2 0 gt gb 0 none 0 0 none 0 0 0 0 false none 0 0) (rng_blk hs5 m0) row_S sz_S ?_) | (refine wp_setrow rfl 43 _ _ rfl (g + 1) rfl 43 _ (sC gv.1 gv.2 0 gt gb 0 none 0 0 none 0 0 0 0 false none 0 0) rfl hs5.pull2 sz_S rfl (sC_one _ _ _ _ _ _ _ _ _ _ _ _ _ _ _ _ _ _) ?_; intro w6 hs6))
  have hz := hs6.tail.tail.drop2
  refine bodyPost_ret (Mm.res_cell rfl _ (g + 1) 43 (sC gv.1 gv.2 0 gt gb 0 none 0 0 none 0 0 0 0 false none 0 0) (0, 0) rfl hs6 m0 row_S sz_S) rfl ?_
  rw [← hgv.out]
  rw [← hgb.out]
  rw [← hgt.out]
  exact ⟨_, rfl, h', hg', ha', hok', SdQ.plain gv.1 gv.2 0 gt gb hz⟩
theorem tellM_shut (w0 w : World) (L : List Chunk) (h : Rf) (hm : Mem w0 w (RfC h :: L)) (hok : Fact h.Ok) (o : HOp) (hg : Fact h.abs.Good) :
    Calls Tryz.prog 34 #[.pointer (some ⟨h.g, 0, none⟩), .int .i64 18, .agg (cHO o).toArray] w fun e w' => ∃ v, e = .returned v ∧ TellQ w0 L h.g (shutS h.abs o.v) (sdV (0, 0) 0 (shutT h.abs o.v) false) v w' := by
  go_enter Tryz.func34, Tryz.ntmps34
  go_upto_region 2 with (fail)
  have hm1 := ((hm.alloc (.cells (cHO o).toArray 38)).alloc (.cells (sC 0 0 0 0 false 0 none 0 0 none 0 0 0 0 false none 0 0).toArray 43)).alloc (.cells (sC 0 0 0 0 false 0 none 0 0 none 0 0 0 0 false none 0 0).toArray 43)
  simp only [World.size_alloc] at hm1
  generalize hgb : w.heap.size = g at hm1 ⊢
  generalize hw1 : ((w.alloc (.cells (cHO o).toArray 38)).alloc (.cells (sC 0 0 0 0 false 0 none 0 0 none 0 0 0 0 false none 0 0).toArray 43)).alloc (.cells (sC 0 0 0 0 false 0 none 0 0 none 0 0 0 0 false none 0 0).toArray 43) = w1 at hm1
  try refine wp_world hw1 ?_
  clear hw1 hgb
  replace hm1 := hm1.pull3
  have x2 := hm1.cell m3 2 rfl
  have x3 := hm1.cell m3 3 rfl
  go_wp2_with (first | (refine wp_rng rfl 35 _ rfl g 2 rfl (cV o.v) (rng2 x2 x3) row_V sz_V ?_))
  refine (refShut_ok w0 w1 (Blk (g + 1 + 1) (.cells (sC 0 0 0 0 false 0 none 0 0 none 0 0 0 0 false none 0 0).toArray 43) :: Blk (g + 1) (.cells (sC 0 0 0 0 false 0 none 0 0 none 0 0 0 0 false none 0 0).toArray 43) :: Blk g (.cells (cHO o).toArray 38) :: L) h hm1 hok hg o.v.1 o.v.2).mono ?_
  rintro e w2 ⟨rfl, h', hg', ha', hok', hm2⟩
  rw [show ((o.v.1, o.v.2) : V2) = o.v from rfl]
  obtain ⟨gt, hgt⟩ : ∃ z, z = shutT h.abs o.v := ⟨_, rfl⟩
  rw [← hgt]
  replace hgt := Fact.mk hgt
  go_wp2_with (first | (refine wp_setat rfl 3 _ _ rfl (g + 1 + 1) 3 rfl 43 _ [.int .i64 gt] (sC 0 0 0 gt false 0 none 0 0 none 0 0 0 0 false none 0 0) (.int .i64 gt) rfl rfl hm2.swap sz_int (by simp [sC, obC]) (one_one rfl) rfl ?_; intro w3 hs3) | (refine wp_rng rfl 43 _ rfl (g + 1 + 1) 0 rfl (sC 0 0 0 gt false 0 none 0 0 none 0 0 0 0 false none 0 0) (rng_blk hs3 m0) row_S sz_S ?_) | (refine wp_setrow rfl 43 _ _ rfl (g + 1) rfl 43 _ (sC 0 0 0 gt false 0 none 0 0 none 0 0 0 0 false none 0 0) rfl hs3.pull2 sz_S rfl (sC_one _ _ _ _ _ _ _ _ _ _ _ _ _ _ _ _ _ _) ?_; intro w4 hs4))
  have hz := hs4.tail.tail.drop2
  refine bodyPost_ret (Mm.res_cell rfl _ (g + 1) 43 (sC 0 0 0 gt false 0 none 0 0 none 0 0 0 0 false none 0 0) (0, 0) rfl hs4 m0 row_S sz_S) rfl ?_
  rw [← hgt.out]
  exact ⟨_, rfl, h', hg', ha', hok', SdQ.plain 0 0 0 gt false hz⟩
theorem told_more (w0 w : World) (L : List Chunk) (h : Rf) (hm : Mem w0 w (RfC h :: L)) (c : Nat) (hc0 : 11 ≤ c) (hc1 : c ≤ 19) (S : Hs) (R : Sd) (o : HOp) (hp : Fact (∀ (w1 : World) (L1 : List Chunk), Mem w0 w1 (RfC h :: L1) → Calls Tryz.prog 34 #[.pointer (some ⟨h.g, 0, none⟩), .int .i64 c, .agg (cHO o).toArray] w1 fun e w' => ∃ v, e = .returned v ∧ TellQ w0 L1 h.g S R v w')) :
    Calls Tryz.prog 11 #[.pointer (some ⟨h.g, 0, none⟩), .int .i64 c, .agg (cHO o).toArray] w fun e w' => ∃ v, e = .returned v ∧ TellQ w0 L h.g S R v w' := by
  have q0 : decide ((c : Int) = 0) = false := decide_eq_false (by omega)
  have p0 : ((c : Int) == 0) = false := beq_eq_false_iff_ne.2 (by omega)
  have q1 : decide ((c : Int) = 1) = false := decide_eq_false (by omega)
  have p1 : ((c : Int) == 1) = false := beq_eq_false_iff_ne.2 (by omega)
  have q2 : decide ((c : Int) = 2) = false := decide_eq_false (by omega)
  have p2 : ((c : Int) == 2) = false := beq_eq_false_iff_ne.2 (by omega)
  have q3 : decide ((c : Int) = 3) = false := decide_eq_false (by omega)
  have p3 : ((c : Int) == 3) = false := beq_eq_false_iff_ne.2 (by omega)
  have q4 : decide ((c : Int) = 4) = false := decide_eq_false (by omega)
  have p4 : ((c : Int) == 4) = false := beq_eq_false_iff_ne.2 (by omega)
  have q5 : decide ((c : Int) = 5) = false := decide_eq_false (by omega)
  have p5 : ((c : Int) == 5) = false := beq_eq_false_iff_ne.2 (by omega)
  have q6 : decide ((c : Int) = 6) = false := decide_eq_false (by omega)
  have p6 : ((c : Int) == 6) = false := beq_eq_false_iff_ne.2 (by omega)
  have q7 : decide ((c : Int) = 7) = false := decide_eq_false (by omega)
  have p7 : ((c : Int) == 7) = false := beq_eq_false_iff_ne.2 (by omega)
  have q8 : decide ((c : Int) = 8) = false := decide_eq_false (by omega)
  have p8 : ((c : Int) == 8) = false := beq_eq_false_iff_ne.2 (by omega)
  have q9 : decide ((c : Int) = 9) = false := decide_eq_false (by omega)
  have p9 : ((c : Int) == 9) = false := beq_eq_false_iff_ne.2 (by omega)
  have q10 : decide ((c : Int) = 10) = false := decide_eq_false (by omega)
  have p10 : ((c : Int) == 10) = false := beq_eq_false_iff_ne.2 (by omega)
  go_enter Tryz.func11, Tryz.ntmps11
  go_upto_region 2 with (fail)
  have hm1 := ((hm.alloc (.cells (cHO o).toArray 38)).alloc (.cells (sC 0 0 0 0 false 0 none 0 0 none 0 0 0 0 false none 0 0).toArray 43)).alloc (.cells (sC 0 0 0 0 false 0 none 0 0 none 0 0 0 0 false none 0 0).toArray 43)
  simp only [World.size_alloc] at hm1
  generalize hgb : w.heap.size = g at hm1 ⊢
  generalize hw1 : ((w.alloc (.cells (cHO o).toArray 38)).alloc (.cells (sC 0 0 0 0 false 0 none 0 0 none 0 0 0 0 false none 0 0).toArray 43)).alloc (.cells (sC 0 0 0 0 false 0 none 0 0 none 0 0 0 0 false none 0 0).toArray 43) = w1 at hm1
  try refine wp_world hw1 ?_
  clear hw1 hgb
  replace hm1 := hm1.pull3
  go_wp2_with (refine wp_rng rfl 38 _ rfl g 0 rfl (cHO o) (rng_blk hm1 m3) row_HO sz_HO ?_)
  refine (hp.out w1 _ hm1).mono ?_
  rintro e w4 ⟨v, rfl, h', hg', ha', hok', A, c1, K, k1, LA, lc, rfl, hm5⟩
  clear hm1
  go_wp2_with (first | (refine wp_setrow rfl 43 _ _ rfl (g + 1 + 1) rfl 43 _ (sdC R A c1 K k1 LA lc) rfl hm5.pull4 sz_S rfl (sC_one _ _ _ _ _ _ _ _ _ _ _ _ _ _ _ _ _ _) ?_; intro w6 hm6) | (refine wp_rng rfl 43 _ rfl (g + 1 + 1) 0 rfl (sdC R A c1 K k1 LA lc) (rng_blk hm6 m0) row_S sz_S ?_) | (refine wp_setrow rfl 43 _ _ rfl (g + 1) rfl 43 _ (sdC R A c1 K k1 LA lc) rfl hm6.pull5 sz_S rfl (sC_one _ _ _ _ _ _ _ _ _ _ _ _ _ _ _ _ _ _) ?_; intro w7 hm7))
  have hz := (hm7.tail.tail).sub (List.Sublist.cons_cons _ (List.Sublist.cons_cons _ (List.Sublist.cons_cons _ (List.Sublist.cons_cons _ (List.sublist_cons_self _ _)))))
  refine bodyPost_ret (Mm.res_cell rfl _ (g + 1) 43 (sdC R A c1 K k1 LA lc) (0, 0) rfl hm7 m0 row_S sz_S) rfl ⟨_, rfl, h', hg', ha', hok', ?_⟩
  exact ⟨A, c1, K, k1, LA, lc, rfl, hz⟩
end Go.Proofs.YtpibchjkmaghnaaGreat
namespace Go.Proofs.YtpibchjkmaghnaaGreat
open Go.RowKit Go.Mm
set_option maxHeartbeats 4000000
set_option maxRecDepth 100000
set_option linter.unusedSimpArgs false
def callS (c : Nat) (s : Hs) (o : HOp) : Hs := match c with
  | 0 => mkS 0 s o
  | 3 => mkS 3 s o
  | 4 => mkS 4 s o
  | 5 => mkS 5 s o
  | 6 => mkS 6 s o
  | 8 => setS s o.v o.I o.x
  | 9 => pushS s o.v o.x
  | 12 => setFS s o.v o.I o.x
  | 14 => delS s o.v o.I
  | 15 => keysS s o.v
  | 16 => sendS s o.v o.x
  | 17 => recvS s o.v
  | 18 => shutS s o.v
  | _ => s
def callR (c : Nat) (s : Hs) (o : HOp) : Sd := match c with
  | 0 => mkR 0 s o
  | 1 => mkR 1 s o
  | 2 => mkR 2 s o
  | 3 => mkR 3 s o
  | 4 => mkR 4 s o
  | 5 => mkR 5 s o
  | 6 => mkR 6 s o
  | 7 => sdV (getV s o.v o.I) 0 (getT s o.v o.I) false
  | 8 => sdV (0, 0) 0 (getT s o.v o.I) false
  | 9 => sdV (0, 0) 0 (pushT s o.v) (pushB s o.v)
  | 10 => sdV (0, 0) (sizeN s o.v) (sizeT s o.v) false
  | 11 => sdV (fieldV s o.v o.I) 0 (fieldT s o.v o.I) false
  | 12 => sdV (0, 0) 0 (setFT s o.v o.I) (setFB s o.v o.I)
  | 13 => sdV (0, 0) 0 (hasT s o.v) (hasB s o.v o.I)
  | 14 => sdV (0, 0) 0 (delT s o.v o.I) false
  | 15 => sdV (keysW s o.v).v 0 (keysW s o.v).trap (keysW s o.v).ok
  | 16 => sdV (0, 0) 0 (sendT s o.v) (sendB s o.v)
  | 17 => sdV (recvV s o.v) 0 (recvT s o.v) (recvB s o.v)
  | 18 => sdV (0, 0) 0 (shutT s o.v) false
  | _ => sd0
theorem put_len (s : Hs) (i : Nat) (o : Ob) : (s.put i o).objs.length = s.objs.length := by simp [Hs.put]
theorem spend_objs (s : Hs) (n : Int) : (s.spend n).objs = s.objs := by unfold Hs.spend; split <;> rfl
theorem few_at {s : Hs} (h : s.Few) (i : Nat) : (s.objs.getD i ob0).few := by
  by_cases hi : i < s.objs.length
  · exact h _ (by rw [List.getD_eq_getElem?_getD, List.getElem?_eq_getElem hi]; exact List.getElem_mem _)
  · rw [List.getD_eq_getElem?_getD, List.getElem?_eq_none (by omega)]
    exact ⟨fun h => (by cases h), fun h => (by cases h)⟩
theorem put_few {s : Hs} (h : s.Few) (i : Nat) {o : Ob} (ho : o.few) : (s.put i o).Few := fun u hu => by
  rcases List.mem_or_eq_of_mem_set hu with hu | rfl
  · exact h u hu
  · exact ho
theorem spend_few {s : Hs} (h : s.Few) (n : Int) : (s.spend n).Few := fun u hu => h u (by rwa [spend_objs] at hu)
theorem make_few {s : Hs} (h : s.Few) (may : Bool) (n : Int) (o : Ob) (ho : may = true → o.few) : (s.make may n o).Few := by
  unfold Hs.make
  split
  · rename_i q
    intro u hu
    rcases List.mem_append.1 hu with hu | hu
    · exact h u hu
    · simp at hu
      subst hu
      exact ho (by simp only [Bool.and_eq_true] at q; exact q.1)
  · exact h
theorem few_6 {o : Ob} (h : o.kind = 6 ∨ o.kind = 8) : o.few := ⟨fun h9 => by omega, fun h7 => by omega⟩
theorem callS_few (c : Nat) (s : Hs) (o : HOp) (h : s.Few) : (callS c s o).Few := by
  unfold callS
  split
  · exact spend_few h _
  · exact make_few h _ _ _ fun _ => few_6 (.inl rfl)
  · exact make_few h _ _ _ fun _ => ⟨fun h9 => (by cases h9), fun _ => (by simp)⟩
  · exact make_few h _ _ _ fun _ => few_6 (.inr rfl)
  · exact make_few h _ _ _ fun hq => ⟨fun _ => (by simp only [Bool.and_eq_true, decide_eq_true_eq] at hq; exact hq.2), fun h7 => (by cases h7)⟩
  · unfold setS
    split
    · exact h
    · split
      · exact put_few h _ (few_at h _)
      · exact h
  · unfold pushS
    split
    · exact h
    · split
      · exact h
      · split
        · exact put_few (spend_few h 1) _ (few_at h _)
        · exact h
  · unfold setFS
    split
    · exact h
    · split
      · exact put_few h _ (few_at h _)
      · split
        · exact h
        · split
          · refine put_few (spend_few h 2) _ ⟨(few_at h _).1, fun _ => ?_⟩
            simp only [List.length_append, List.length_singleton]
            omega
          · exact h
  · unfold delS
    split
    · exact h
    · split
      · refine put_few h _ ⟨(few_at h _).1, fun h7 => ?_⟩
        have := (few_at h _).2 h7
        rename_i i _ j hj
        have hd := dropK_len (idx_lt hj)
        show (dropK _ _).length ≤ 256
        rw [hd]
        omega
      · exact h
  · unfold keysS
    split
    · exact h
    · exact make_few h _ _ _ fun _ => few_6 (.inl rfl)
  · unfold sendS
    split
    · exact h
    · exact put_few h _ (few_at h _)
  · unfold recvS
    split
    · exact h
    · exact put_few h _ (few_at h _)
  · unfold shutS
    split
    · exact h
    · exact put_few h _ (few_at h _)
  · exact h
theorem callS_grow (c : Nat) (s : Hs) (o : HOp) : (callS c s o).objs.length ≤ s.objs.length + 1 := by
  unfold callS
  split
  · exact spend_len s _
  · exact make_len s _ _ _
  · exact make_len s _ _ _
  · exact make_len s _ _ _
  · exact make_len s _ _ _
  · unfold setS; split; · omega
    split <;> simp [put_len]
  · unfold pushS; split; · omega
    split; · omega
    split <;> simp [put_len, spend_objs]
  · unfold setFS; split; · omega
    split; · simp [put_len]
    split; · omega
    split <;> simp [put_len, spend_objs]
  · unfold delS; split; · omega
    split <;> simp [put_len]
  · unfold keysS; split; · omega
    exact make_len s _ _ _
  · unfold sendS; split <;> simp [put_len]
  · unfold recvS; split <;> simp [put_len]
  · unfold shutS; split <;> simp [put_len]
  · omega
theorem sdV_small (v : V2) (n trap : Int) (ok : Bool) : (sdV v n trap ok).ob.items.length ≤ 16777216 ∧ (sdV v n trap ok).ob.keys.length ≤ 16777216 ∧ (sdV v n trap ok).list.length ≤ 16777216 := ⟨by simp [sdV, ob0], by simp [sdV, ob0], by simp [sdV]⟩
theorem calls_play (w0 : World) : PlayG w0 [0, 1, 2, 3, 4, 5, 6, 7, 8, 9, 10, 11, 12, 13, 14, 15, 16, 17, 18] callS callR := by
  refine ⟨fun c hc r w L o hm hok hg hx hn hw hl => ?_, fun c hc h w L o hm hok hf hx hn hw hl => ?_, fun c hc s o => callS_grow c s o, fun c hc s o h => callS_few c s o h, fun c hc h o hok hn => ?_⟩
  all_goals
    simp only [List.mem_cons, List.not_mem_nil, or_false] at hc
    rcases hc with rfl | rfl | rfl | rfl | rfl | rfl | rfl | rfl | rfl | rfl | rfl | rfl | rfl | rfl | rfl | rfl | rfl | rfl | rfl
  · exact told_spend w0 w L r hm ⟨hok⟩ o
  · exact told_counts w0 w L r hm ⟨hok⟩ o
  · exact told_object w0 w L r hm ⟨hok⟩ o
  · exact told_array w0 w L r hm ⟨hok⟩ o ⟨hx⟩ hn (by omega)
  · exact told_record w0 w L r hm ⟨hok⟩ o (by omega)
  · exact told_bound w0 w L r hm ⟨hok⟩ o ⟨hx⟩ hn (by omega)
  · exact told_chan w0 w L r hm ⟨hok⟩ o (by omega)
  · exact told_get w0 w L r hm ⟨hok⟩ o ⟨hg⟩
  · exact told_set w0 w L r hm ⟨hok⟩ o ⟨hg⟩
  · exact told_push w0 w L r hm ⟨hok⟩ o ⟨hg⟩
  · exact told_size w0 w L r hm ⟨hok⟩ o ⟨hg⟩
  · exact told_more w0 w L r hm 11 (by omega) (by omega) _ _ o ⟨fun w1 L1 hm1 => tellM_field w0 w1 L1 r hm1 ⟨hok⟩ o ⟨hg⟩⟩
  · exact told_more w0 w L r hm 12 (by omega) (by omega) _ _ o ⟨fun w1 L1 hm1 => tellM_setf w0 w1 L1 r hm1 ⟨hok⟩ o ⟨hg⟩⟩
  · exact told_more w0 w L r hm 13 (by omega) (by omega) _ _ o ⟨fun w1 L1 hm1 => tellM_has w0 w1 L1 r hm1 ⟨hok⟩ o ⟨hg⟩⟩
  · exact told_more w0 w L r hm 14 (by omega) (by omega) _ _ o ⟨fun w1 L1 hm1 => tellM_delete w0 w1 L1 r hm1 ⟨hok⟩ o ⟨hg⟩⟩
  · exact told_more w0 w L r hm 15 (by omega) (by omega) _ _ o ⟨fun w1 L1 hm1 => tellM_keys w0 w1 L1 r hm1 ⟨hok⟩ o ⟨hg⟩ (by omega)⟩
  · exact told_more w0 w L r hm 16 (by omega) (by omega) _ _ o ⟨fun w1 L1 hm1 => tellM_send w0 w1 L1 r hm1 ⟨hok⟩ o ⟨hg⟩⟩
  · exact told_more w0 w L r hm 17 (by omega) (by omega) _ _ o ⟨fun w1 L1 hm1 => tellM_recv w0 w1 L1 r hm1 ⟨hok⟩ o ⟨hg⟩⟩
  · exact told_more w0 w L r hm 18 (by omega) (by omega) _ _ o ⟨fun w1 L1 hm1 => tellM_shut w0 w1 L1 r hm1 ⟨hok⟩ o ⟨hg⟩⟩
  · exact askPlain_ok w0 w L h hm 0 _ _ o ⟨hx⟩ hn (by decide) (by decide) (by decide) ⟨fun w1 L1 hm1 => askP_spend w0 w1 L1 h hm1 ⟨hok⟩ o⟩
  · exact askPlain_ok w0 w L h hm 1 _ _ o ⟨hx⟩ hn (by decide) (by decide) (by decide) ⟨fun w1 L1 hm1 => askP_counts w0 w1 L1 h hm1 ⟨hok⟩ o⟩
  · exact askPlain_ok w0 w L h hm 2 _ _ o ⟨hx⟩ hn (by decide) (by decide) (by decide) ⟨fun w1 L1 hm1 => askP_object w0 w1 L1 h hm1 ⟨hok⟩ o⟩
  · exact askArray_ok w0 w L h hm ⟨hok⟩ o ⟨hx⟩ hn (by omega)
  · exact askPlain_ok w0 w L h hm 4 _ _ o ⟨hx⟩ hn (by decide) (by decide) (by decide) ⟨fun w1 L1 hm1 => askP_record w0 w1 L1 h hm1 ⟨hok⟩ o (by omega)⟩
  · exact askBound_ok w0 w L h hm ⟨hok⟩ o ⟨hx⟩ hn (by omega)
  · exact askPlain_ok w0 w L h hm 6 _ _ o ⟨hx⟩ hn (by decide) (by decide) (by decide) ⟨fun w1 L1 hm1 => askP_chan w0 w1 L1 h hm1 ⟨hok⟩ o (by omega)⟩
  · exact askPlain_ok w0 w L h hm 7 _ _ o ⟨hx⟩ hn (by decide) (by decide) (by decide) ⟨fun w1 L1 hm1 => askP_get w0 w1 L1 h hm1 ⟨hok⟩ o⟩
  · exact askPlain_ok w0 w L h hm 8 _ _ o ⟨hx⟩ hn (by decide) (by decide) (by decide) ⟨fun w1 L1 hm1 => askP_set w0 w1 L1 h hm1 ⟨hok⟩ o⟩
  · exact askPlain_ok w0 w L h hm 9 _ _ o ⟨hx⟩ hn (by decide) (by decide) (by decide) ⟨fun w1 L1 hm1 => askP_push w0 w1 L1 h hm1 ⟨hok⟩ o⟩
  · exact askPlain_ok w0 w L h hm 10 _ _ o ⟨hx⟩ hn (by decide) (by decide) (by decide) ⟨fun w1 L1 hm1 => askP_size w0 w1 L1 h hm1 ⟨hok⟩ o⟩
  · exact askPlain_ok w0 w L h hm 11 _ _ o ⟨hx⟩ hn (by decide) (by decide) (by decide) ⟨fun w1 L1 hm1 => askPlain_more w0 w1 L1 h hm1 11 (by omega) (by omega) _ _ o ⟨fun w2 L2 hm2 => askM_field w0 w2 L2 h hm2 ⟨hok⟩ o ⟨hw⟩⟩⟩
  · exact askPlain_ok w0 w L h hm 12 _ _ o ⟨hx⟩ hn (by decide) (by decide) (by decide) ⟨fun w1 L1 hm1 => askPlain_more w0 w1 L1 h hm1 12 (by omega) (by omega) _ _ o ⟨fun w2 L2 hm2 => askM_setf w0 w2 L2 h hm2 ⟨hok⟩ o ⟨hw⟩⟩⟩
  · exact askPlain_ok w0 w L h hm 13 _ _ o ⟨hx⟩ hn (by decide) (by decide) (by decide) ⟨fun w1 L1 hm1 => askPlain_more w0 w1 L1 h hm1 13 (by omega) (by omega) _ _ o ⟨fun w2 L2 hm2 => askM_has w0 w2 L2 h hm2 ⟨hok⟩ o ⟨hw⟩⟩⟩
  · exact askPlain_ok w0 w L h hm 14 _ _ o ⟨hx⟩ hn (by decide) (by decide) (by decide) ⟨fun w1 L1 hm1 => askPlain_more w0 w1 L1 h hm1 14 (by omega) (by omega) _ _ o ⟨fun w2 L2 hm2 => askM_delete w0 w2 L2 h hm2 ⟨hok⟩ o ⟨hw⟩⟩⟩
  · exact askPlain_ok w0 w L h hm 15 _ _ o ⟨hx⟩ hn (by decide) (by decide) (by decide) ⟨fun w1 L1 hm1 => askPlain_more w0 w1 L1 h hm1 15 (by omega) (by omega) _ _ o ⟨fun w2 L2 hm2 => askM_keys w0 w2 L2 h hm2 ⟨hok⟩ o hf (by omega)⟩⟩
  · exact askPlain_ok w0 w L h hm 16 _ _ o ⟨hx⟩ hn (by decide) (by decide) (by decide) ⟨fun w1 L1 hm1 => askPlain_more w0 w1 L1 h hm1 16 (by omega) (by omega) _ _ o ⟨fun w2 L2 hm2 => askM_send w0 w2 L2 h hm2 ⟨hok⟩ o hf⟩⟩
  · exact askPlain_ok w0 w L h hm 17 _ _ o ⟨hx⟩ hn (by decide) (by decide) (by decide) ⟨fun w1 L1 hm1 => askPlain_more w0 w1 L1 h hm1 17 (by omega) (by omega) _ _ o ⟨fun w2 L2 hm2 => askM_recv w0 w2 L2 h hm2 ⟨hok⟩ o⟩⟩
  · exact askPlain_ok w0 w L h hm 18 _ _ o ⟨hx⟩ hn (by decide) (by decide) (by decide) ⟨fun w1 L1 hm1 => askPlain_more w0 w1 L1 h hm1 18 (by omega) (by omega) _ _ o ⟨fun w2 L2 hm2 => askM_shut w0 w2 L2 h hm2 ⟨hok⟩ o⟩⟩
  · exact sdV_small _ _ _ _
  · exact sdV_small _ _ _ _
  · exact ⟨(at_small hok _).1, (at_small hok _).2, by simp [callR, mkR]⟩
  · exact makeV_small _ _ _ _
  · exact makeV_small _ _ _ _
  · exact makeV_small _ _ _ _
  · exact makeV_small _ _ _ _
  all_goals exact sdV_small _ _ _ _
theorem PlayG.sub {w0 : World} {ks ks' : List Nat} {S : Nat → Hs → HOp → Hs} {R : Nat → Hs → HOp → Sd} (h : PlayG w0 ks S R) (hs : ∀ c, c ∈ ks' → c ∈ ks) : PlayG w0 ks' S R :=
  ⟨fun c hc => h.told c (hs c hc), fun c hc => h.ask c (hs c hc), fun c hc => h.grow c (hs c hc), fun c hc => h.few c (hs c hc), fun c hc => h.size c (hs c hc)⟩
end Go.Proofs.YtpibchjkmaghnaaGreat
namespace Go.Mm
open Go.RowKit
section
variable {P : Program} {ops : Array Oper} {Q : Exit → Act → World → Prop}
/-- A function's value, called. -/
def VCalls (P : Program) (v : Value) (args : List Value) (w : World) (R : Ending → World → Prop) : Prop :=
  ∃ f first cap bs, v = .func (.func f) first cap ∧ (callFunc f (first ++ args.toArray ++ cap)).run P w = .ok (.enter f bs) w ∧ Calls P f bs w R
theorem VCalls.mono {v : Value} {args : List Value} {w : World} {R R' : Ending → World → Prop} (h : VCalls P v args w R) (hr : ∀ e w', R e w' → R' e w') : VCalls P v args w R' :=
  let ⟨f, first, cap, bs, h1, h2, h3⟩ := h
  ⟨f, first, cap, bs, h1, h2, h3.mono hr⟩
theorem run_fnv {o : Oper} {a : Act} {w : World} (x : Operand) (xs : List Operand) (ts : Array TypeId) (ho : o.op = .call { callee := .value x, args := xs.toArray, argTypes := ts }) (f : FuncId) (first cap : Array Value) (hx : a.eval x = .func (.func f) first cap) (args : List Value) (ha : xs.map a.eval = args) :
    (execOp a.eval o).run P w = (callFunc f (first ++ args.toArray ++ cap)).run P w := by
  unfold execOp
  simp only [ho, resolve, Deferred.ofValue, Sem.run_bind, Sem.run_pure, Result.andThen_ok, hx, List.map_toArray, ha, invoke]
theorem step_fnv {o : Oper} {a : Act} {w : World} {K : Act → World → Prop} {E : Prop} (hw : Region.wanted o (yielded ops a.tmps) = true) (x : Operand) (xs : List Operand) (ts : Array TypeId) (ho : o.op = .call { callee := .value x, args := xs.toArray, argTypes := ts }) (v : Value) (hx : a.eval x = v) (args : List Value) (ha : xs.map a.eval = args)
    (h : VCalls P v args w fun e w' => ∃ r, e = .returned r ∧ K (a.put o.dst r) w') :
    if Region.wanted o (yielded ops a.tmps) = true then o.wp P a w K Q else E := by
  rw [if_pos hw]
  obtain ⟨f, first, cap, bs, h1, h2, h3⟩ := h
  unfold Oper.wp
  rw [run_fnv x xs ts ho f first cap (hx.trans h1) args ha, h2]
  exact h3.mono fun e w' he => by obtain ⟨r, rfl, hK⟩ := he; exact hK
theorem wp_fnv {o : Oper} {rest : List Oper} {a : Act} {w : World} (hw : Region.wanted o (yielded ops a.tmps) = true) (x : Operand) (xs : List Operand) (ts : Array TypeId) (ho : o.op = .call { callee := .value x, args := xs.toArray, argTypes := ts }) (v : Value) (hx : a.eval x = v) (args : List Value) (ha : xs.map a.eval = args)
    (h : VCalls P v args w fun e w' => ∃ r, e = .returned r ∧ wpList P ops Q rest (a.put o.dst r) w') : wpList P ops Q (o :: rest) a w := by
  refine wpList_want hw fun K hK => ?_
  obtain ⟨f, first, cap, bs, h1, h2, h3⟩ := h
  unfold Oper.wp
  rw [run_fnv x xs ts ho f first cap (hx.trans h1) args ha, h2]
  exact h3.mono fun e w' he => by obtain ⟨r, rfl, hr⟩ := he; exact hK _ _ hr
end
end Go.Mm
namespace Go.Proofs.YtpibchjkmaghnaaGreat
open Go.RowKit Go.Mm
set_option maxHeartbeats 4000000
set_option maxRecDepth 100000
set_option linter.unusedSimpArgs false
theorem and_top (N : Int) : bits BinOp.and IntKind.i64 N 9223372036854775807 = ((BitVec.ofInt 64 N &&& 9223372036854775807#64).toNat : Int) := by
  have h : (BitVec.ofInt 64 N &&& 9223372036854775807#64).toNat ≤ 9223372036854775807 := by
    rw [BitVec.toNat_and]
    exact Nat.and_le_right
  show IntKind.i64.wrap ((BitVec.ofInt 64 N &&& 9223372036854775807#64).toNat : Int) = _
  exact IntWalk.i64_in _ (by constructor <;> omega)
theorem and_topu (N : Int) : bits BinOp.and IntKind.u64 (IntKind.u64.wrap N) 9223372036854775807 = ((BitVec.ofInt 64 N &&& 9223372036854775807#64).toNat : Int) := by
  have e : BitVec.ofInt 64 (IntKind.u64.wrap N) = BitVec.ofInt 64 N := by
    apply BitVec.eq_of_toInt_eq
    simp only [BitVec.toInt_ofInt, IntKind.wrap, IntKind.bits, IntKind.signed, Bool.false_and, Bool.false_eq_true, if_false]
    rw [show ((2 : Int) ^ 64) = ((2 ^ 64 : Nat) : Int) from rfl]
    exact Int.emod_bmod ..
  have h : (BitVec.ofInt 64 N &&& 9223372036854775807#64).toNat ≤ 9223372036854775807 := by
    rw [BitVec.toNat_and]
    exact Nat.and_le_right
  show IntKind.u64.wrap ((BitVec.ofInt 64 (IntKind.u64.wrap N) &&& 9223372036854775807#64).toNat : Int) = _
  rw [e]
  generalize (BitVec.ofInt 64 N &&& 9223372036854775807#64).toNat = x at h
  simp only [IntKind.wrap, IntKind.bits, IntKind.signed, Bool.false_and, Bool.false_eq_true, if_false]
  omega
/-- A number that a real may have. -/
def realB (n : Int) : Bool := n == 9221120237041090560 || decide (bits BinOp.and IntKind.i64 n 9223372036854775807 ≤ 9218868437227405312)
theorem realB_ref (n : Int) (h0 : -9223372036854775808 ≤ n) (h1 : n ≤ 9223372036854775807) : (decide (bits BinOp.and IntKind.u64 (IntKind.u64.wrap n) 9223372036854775807 ≤ 9218868437227405312) || (IntKind.u64.wrap n == 9221120237041090560)) = realB n := by
  unfold realB
  rw [and_top, and_topu, Bool.or_comm]
  congr 1
  have e : IntKind.u64.wrap n = n % 18446744073709551616 := by simp [IntKind.wrap, IntKind.bits, IntKind.signed]
  rw [e]
  by_cases q : n = 9221120237041090560
  · subst q; rfl
  · rw [beq_eq_false_iff_ne.2 q, beq_eq_false_iff_ne.2 (by omega)]
theorem half_zero (n : Int) : (n / 2 == 0) = (n == 0 || n == 1) := by
  by_cases q : n = 0
  · subst q; rfl
  by_cases q1 : n = 1
  · subst q1; rfl
  rw [beq_eq_false_iff_ne.2 q, beq_eq_false_iff_ne.2 q1, beq_eq_false_iff_ne.2 (by omega)]
  rfl
/-- Values that name no object: are they right? none: it may name one. -/
def flatB (v : V2) : Option Bool :=
  if v.1 = 0 then some (v.2 == 0) else if v.1 = 1 then some (v.2 == 0 || v.2 == 1) else if v.1 = 2 then some true else if v.1 = 3 then some (realB v.2) else if v.1 = 4 ∨ v.1 = 5 then some (decide (0 ≤ v.2)) else none
/-- A value that an object of the program's heap may hold. -/
def rightP (l : List Ob) (v : V2) : Bool := (flatB v).getD (nm l v).isSome
/-- As the document says it. -/
def rightV (l : List Ob) (v : V2) : Bool := (flatB v).getD (nmB l v)
theorem rightP_eq {l : List Ob} (hk : ∀ o, o ∈ l → o.kind = 6 ∨ o.kind = 7 ∨ o.kind = 8 ∨ o.kind = 9) (v : V2) : rightP l v = rightV l v := by
  unfold rightP rightV
  congr 1
  unfold nmB
  cases hn : nm l v with
  | none => simp
  | some i =>
    unfold nm at hn
    split at hn
    · rename_i q
      obtain ⟨q0, q1, q2⟩ := q
      have := hk (l.getD v.2.toNat ob0) (by rw [List.getD_eq_getElem?_getD, List.getElem?_eq_getElem (by omega)]; exact List.getElem_mem _)
      rw [q2] at this
      rw [decide_eq_true (by omega), decide_eq_true (by omega)]
      rfl
    · cases hn
theorem right_ok (w0 w : World) (L : List Chunk) (h : Hp) (hm : Mem w0 w L) (hh : HpC h ∈ L) (hok : Fact h.Ok) (K N : Int) :
    Calls Tryz.prog 51 #[.pointer (some ⟨h.g, 0, none⟩), .agg #[.int .i64 K, .int .i64 N]] w fun e w' => e = .returned (.bool (rightP h.objs (K, N))) ∧ Gr w w' := by
  generalize hl : h.objs = l
  by_cases q0 : K = 0
  · subst q0
    rw [show rightP l (0, N) = (N == 0) from rfl]
    go_enter Tryz.func51, Tryz.ntmps51
    go_upto_region 1 with (fail)
    have hm1 := hm.alloc (.cells [.int .i64 0, .int .i64 N].toArray 35)
    generalize hgb : w.heap.size = gb at hm1 ⊢
    generalize hw1 : w.alloc (.cells [.int .i64 0, .int .i64 N].toArray 35) = w1 at hm1
    try refine wp_world hw1 ?_
    have hg1 : Gr w w1 := by rw [← hw1]; exact (Gr.refl w).alloc _
    clear hw1 hgb
    have d0 := hm1.cell m0 0 rfl
    have d1 := hm1.cell m0 1 rfl
    go_wp2
    all_goals
      go_ret
      exact ⟨by first | rfl | (congr 2; simp [*]) | simp [*], hg1⟩
  by_cases q1 : K = 1
  · subst q1
    rw [show rightP l (1, N) = (N == 0 || N == 1) from rfl]
    rw [← half_zero]
    go_enter Tryz.func51, Tryz.ntmps51
    go_upto_region 1 with (fail)
    have hm1 := hm.alloc (.cells [.int .i64 1, .int .i64 N].toArray 35)
    generalize hgb : w.heap.size = gb at hm1 ⊢
    generalize hw1 : w.alloc (.cells [.int .i64 1, .int .i64 N].toArray 35) = w1 at hm1
    try refine wp_world hw1 ?_
    have hg1 : Gr w w1 := by rw [← hw1]; exact (Gr.refl w).alloc _
    clear hw1 hgb
    have d0 := hm1.cell m0 0 rfl
    have d1 := hm1.cell m0 1 rfl
    go_wp2
    all_goals
      go_ret
      exact ⟨by first | rfl | (congr 2; simp [*]) | simp [*], hg1⟩
  by_cases q2 : K = 2
  · subst q2
    rw [show rightP l (2, N) = (true) from rfl]
    go_enter Tryz.func51, Tryz.ntmps51
    go_upto_region 1 with (fail)
    have hm1 := hm.alloc (.cells [.int .i64 2, .int .i64 N].toArray 35)
    generalize hgb : w.heap.size = gb at hm1 ⊢
    generalize hw1 : w.alloc (.cells [.int .i64 2, .int .i64 N].toArray 35) = w1 at hm1
    try refine wp_world hw1 ?_
    have hg1 : Gr w w1 := by rw [← hw1]; exact (Gr.refl w).alloc _
    clear hw1 hgb
    have d0 := hm1.cell m0 0 rfl
    have d1 := hm1.cell m0 1 rfl
    go_wp2
    all_goals
      go_ret
      exact ⟨by first | rfl | (congr 2; simp [*]) | simp [*], hg1⟩
  by_cases q3 : K = 3
  · subst q3
    rw [show rightP l (3, N) = (realB N) from rfl]
    unfold realB
    go_enter Tryz.func51, Tryz.ntmps51
    go_upto_region 1 with (fail)
    have hm1 := hm.alloc (.cells [.int .i64 3, .int .i64 N].toArray 35)
    generalize hgb : w.heap.size = gb at hm1 ⊢
    generalize hw1 : w.alloc (.cells [.int .i64 3, .int .i64 N].toArray 35) = w1 at hm1
    try refine wp_world hw1 ?_
    have hg1 : Gr w w1 := by rw [← hw1]; exact (Gr.refl w).alloc _
    clear hw1 hgb
    have d0 := hm1.cell m0 0 rfl
    have d1 := hm1.cell m0 1 rfl
    go_wp2
    all_goals
      go_ret
      exact ⟨by first | rfl | (congr 2; simp [*]) | simp [*], hg1⟩
  by_cases q4 : K = 4
  · subst q4
    rw [show rightP l (4, N) = (decide (0 ≤ N)) from rfl]
    go_enter Tryz.func51, Tryz.ntmps51
    go_upto_region 1 with (fail)
    have hm1 := hm.alloc (.cells [.int .i64 4, .int .i64 N].toArray 35)
    generalize hgb : w.heap.size = gb at hm1 ⊢
    generalize hw1 : w.alloc (.cells [.int .i64 4, .int .i64 N].toArray 35) = w1 at hm1
    try refine wp_world hw1 ?_
    have hg1 : Gr w w1 := by rw [← hw1]; exact (Gr.refl w).alloc _
    clear hw1 hgb
    have d0 := hm1.cell m0 0 rfl
    have d1 := hm1.cell m0 1 rfl
    go_wp2
    all_goals
      go_ret
      exact ⟨by first | rfl | (congr 2; simp [*]) | simp [*], hg1⟩
  by_cases q5 : K = 5
  · subst q5
    rw [show rightP l (5, N) = (decide (0 ≤ N)) from rfl]
    go_enter Tryz.func51, Tryz.ntmps51
    go_upto_region 1 with (fail)
    have hm1 := hm.alloc (.cells [.int .i64 5, .int .i64 N].toArray 35)
    generalize hgb : w.heap.size = gb at hm1 ⊢
    generalize hw1 : w.alloc (.cells [.int .i64 5, .int .i64 N].toArray 35) = w1 at hm1
    try refine wp_world hw1 ?_
    have hg1 : Gr w w1 := by rw [← hw1]; exact (Gr.refl w).alloc _
    clear hw1 hgb
    have d0 := hm1.cell m0 0 rfl
    have d1 := hm1.cell m0 1 rfl
    go_wp2
    all_goals
      go_ret
      exact ⟨by first | rfl | (congr 2; simp [*]) | simp [*], hg1⟩
  have hr : rightP l (K, N) = (nm l (K, N)).isSome := by
    unfold rightP flatB
    rw [if_neg q0, if_neg q1, if_neg q2, if_neg q3, if_neg (by simp [q4, q5])]
    rfl
  rw [hr]
  clear hr
  replace q0 : (K == 0) = false := beq_eq_false_iff_ne.2 q0
  replace q1 : (K == 1) = false := beq_eq_false_iff_ne.2 q1
  replace q2 : (K == 2) = false := beq_eq_false_iff_ne.2 q2
  replace q3 : (K == 3) = false := beq_eq_false_iff_ne.2 q3
  replace q4 : (K == 4) = false := beq_eq_false_iff_ne.2 q4
  replace q5 : (K == 5) = false := beq_eq_false_iff_ne.2 q5
  go_enter Tryz.func51, Tryz.ntmps51
  go_upto_region 1 with (fail)
  have hm1 := hm.alloc (.cells [.int .i64 K, .int .i64 N].toArray 35)
  generalize hgb : w.heap.size = gb at hm1 ⊢
  generalize hw1 : w.alloc (.cells [.int .i64 K, .int .i64 N].toArray 35) = w1 at hm1
  try refine wp_world hw1 ?_
  have hg1 : Gr w w1 := by rw [← hw1]; exact (Gr.refl w).alloc _
  clear hw1 hgb
  have d0 := hm1.cell m0 0 rfl
  have d1 := hm1.cell m0 1 rfl
  cases hn : nm l (K, N) with
  | none =>
    have hnv : namedV h (K, N) = .nilIface := by unfold namedV; rw [hl, hn]
    go_wp2_with (refine wp_rng rfl 35 _ rfl gb 0 rfl (cV (K, N)) (rng_blk hm1 m0) row_V sz_V ?_)
    refine (named_ok w0 w1 _ h hm1 (.tail _ hh) hok K N).mono ?_
    rintro e w2 ⟨rfl, hg2⟩
    rw [hnv]
    go_wp2
    go_ret
    exact ⟨by rw [hn]; rfl, hg1.trans hg2⟩
  | some i =>
    have hnv : namedV h (K, N) = .iface (thTy (h.ths.getD i th0).ob.kind) (.pointer (some ⟨(h.ths.getD i th0).g, 0, none⟩)) := by unfold namedV; rw [hl, hn]; rfl
    generalize thTy (h.ths.getD i th0).ob.kind = T at hnv
    generalize (h.ths.getD i th0).g = g at hnv
    go_wp2_with (refine wp_rng rfl 35 _ rfl gb 0 rfl (cV (K, N)) (rng_blk hm1 m0) row_V sz_V ?_)
    refine (named_ok w0 w1 _ h hm1 (.tail _ hh) hok K N).mono ?_
    rintro e w2 ⟨rfl, hg2⟩
    rw [hnv]
    go_wp2
    go_ret
    exact ⟨by rw [hn]; rfl, hg1.trans hg2⟩
theorem refRight_ok (w0 w : World) (L : List Chunk) (hm : Mem w0 w L) (A : Option Addr) (n c : Nat) (xs : List RO) (hx : Fact (ObsR w A n c xs)) (hn : n ≤ 16777216) (K N : Int) (hw0 : -9223372036854775808 ≤ N) (hw1 : N ≤ 9223372036854775807) :
    Calls Tryz.prog 80 #[.slice A n c, .agg #[.int .i64 K, .int .i64 N]] w fun e w' => e = .returned (.bool (rightV (xs.map (·.ob)) (K, N))) ∧ Gr w w' := by
  generalize hl : xs.map (·.ob) = l
  by_cases q0 : K = 0
  · subst q0
    rw [show rightV l (0, N) = (N == 0) from rfl]
    go_enter Tryz.func80, Tryz.ntmps80
    go_upto_region 1 with (fail)
    have hm1 := hm.alloc (.cells [.int .i64 0, .int .i64 N].toArray 35)
    generalize hgb : w.heap.size = gb at hm1 ⊢
    generalize hwA : w.alloc (.cells [.int .i64 0, .int .i64 N].toArray 35) = w1 at hm1
    try refine wp_world hwA ?_
    have hg1 : Gr w w1 := by rw [← hwA]; exact (Gr.refl w).alloc _
    clear hwA hgb
    have d0 := hm1.cell m0 0 rfl
    have d1 := hm1.cell m0 1 rfl
    go_wp2
    all_goals
      go_ret
      exact ⟨by first | rfl | (congr 2; simp [*]) | simp [*], hg1⟩
  by_cases q1 : K = 1
  · subst q1
    rw [show rightV l (1, N) = (N == 0 || N == 1) from rfl]
    go_enter Tryz.func80, Tryz.ntmps80
    go_upto_region 1 with (fail)
    have hm1 := hm.alloc (.cells [.int .i64 1, .int .i64 N].toArray 35)
    generalize hgb : w.heap.size = gb at hm1 ⊢
    generalize hwA : w.alloc (.cells [.int .i64 1, .int .i64 N].toArray 35) = w1 at hm1
    try refine wp_world hwA ?_
    have hg1 : Gr w w1 := by rw [← hwA]; exact (Gr.refl w).alloc _
    clear hwA hgb
    have d0 := hm1.cell m0 0 rfl
    have d1 := hm1.cell m0 1 rfl
    go_wp2
    all_goals
      go_ret
      exact ⟨by first | rfl | (congr 2; simp [*]) | simp [*], hg1⟩
  by_cases q2 : K = 2
  · subst q2
    rw [show rightV l (2, N) = (true) from rfl]
    go_enter Tryz.func80, Tryz.ntmps80
    go_upto_region 1 with (fail)
    have hm1 := hm.alloc (.cells [.int .i64 2, .int .i64 N].toArray 35)
    generalize hgb : w.heap.size = gb at hm1 ⊢
    generalize hwA : w.alloc (.cells [.int .i64 2, .int .i64 N].toArray 35) = w1 at hm1
    try refine wp_world hwA ?_
    have hg1 : Gr w w1 := by rw [← hwA]; exact (Gr.refl w).alloc _
    clear hwA hgb
    have d0 := hm1.cell m0 0 rfl
    have d1 := hm1.cell m0 1 rfl
    go_wp2
    all_goals
      go_ret
      exact ⟨by first | rfl | (congr 2; simp [*]) | simp [*], hg1⟩
  by_cases q3 : K = 3
  · subst q3
    rw [show rightV l (3, N) = (realB N) from rfl]
    rw [← realB_ref N hw0 hw1]
    go_enter Tryz.func80, Tryz.ntmps80
    go_upto_region 1 with (fail)
    have hm1 := hm.alloc (.cells [.int .i64 3, .int .i64 N].toArray 35)
    generalize hgb : w.heap.size = gb at hm1 ⊢
    generalize hwA : w.alloc (.cells [.int .i64 3, .int .i64 N].toArray 35) = w1 at hm1
    try refine wp_world hwA ?_
    have hg1 : Gr w w1 := by rw [← hwA]; exact (Gr.refl w).alloc _
    clear hwA hgb
    have d0 := hm1.cell m0 0 rfl
    have d1 := hm1.cell m0 1 rfl
    go_wp2
    all_goals
      go_ret
      exact ⟨by first | rfl | (congr 2; simp [*]) | simp [*], hg1⟩
  by_cases q4 : K = 4
  · subst q4
    rw [show rightV l (4, N) = (decide (0 ≤ N)) from rfl]
    go_enter Tryz.func80, Tryz.ntmps80
    go_upto_region 1 with (fail)
    have hm1 := hm.alloc (.cells [.int .i64 4, .int .i64 N].toArray 35)
    generalize hgb : w.heap.size = gb at hm1 ⊢
    generalize hwA : w.alloc (.cells [.int .i64 4, .int .i64 N].toArray 35) = w1 at hm1
    try refine wp_world hwA ?_
    have hg1 : Gr w w1 := by rw [← hwA]; exact (Gr.refl w).alloc _
    clear hwA hgb
    have d0 := hm1.cell m0 0 rfl
    have d1 := hm1.cell m0 1 rfl
    go_wp2
    all_goals
      go_ret
      exact ⟨by first | rfl | (congr 2; simp [*]) | simp [*], hg1⟩
  by_cases q5 : K = 5
  · subst q5
    rw [show rightV l (5, N) = (decide (0 ≤ N)) from rfl]
    go_enter Tryz.func80, Tryz.ntmps80
    go_upto_region 1 with (fail)
    have hm1 := hm.alloc (.cells [.int .i64 5, .int .i64 N].toArray 35)
    generalize hgb : w.heap.size = gb at hm1 ⊢
    generalize hwA : w.alloc (.cells [.int .i64 5, .int .i64 N].toArray 35) = w1 at hm1
    try refine wp_world hwA ?_
    have hg1 : Gr w w1 := by rw [← hwA]; exact (Gr.refl w).alloc _
    clear hwA hgb
    have d0 := hm1.cell m0 0 rfl
    have d1 := hm1.cell m0 1 rfl
    go_wp2
    all_goals
      go_ret
      exact ⟨by first | rfl | (congr 2; simp [*]) | simp [*], hg1⟩
  have hr : rightV l (K, N) = nmB l (K, N) := by
    unfold rightV flatB
    rw [if_neg q0, if_neg q1, if_neg q2, if_neg q3, if_neg (by simp [q4, q5])]
    rfl
  rw [hr]
  clear hr
  replace q0 : (K == 0) = false := beq_eq_false_iff_ne.2 q0
  replace q1 : (K == 1) = false := beq_eq_false_iff_ne.2 q1
  replace q2 : (K == 2) = false := beq_eq_false_iff_ne.2 q2
  replace q3 : (K == 3) = false := beq_eq_false_iff_ne.2 q3
  replace q4 : (K == 4) = false := beq_eq_false_iff_ne.2 q4
  replace q5 : (K == 5) = false := beq_eq_false_iff_ne.2 q5
  go_enter Tryz.func80, Tryz.ntmps80
  go_upto_region 1 with (fail)
  have hm1 := hm.alloc (.cells [.int .i64 K, .int .i64 N].toArray 35)
  generalize hgb : w.heap.size = gb at hm1 ⊢
  generalize hwA : w.alloc (.cells [.int .i64 K, .int .i64 N].toArray 35) = w1 at hm1
  try refine wp_world hwA ?_
  have hg1 : Gr w w1 := by rw [← hwA]; exact (Gr.refl w).alloc _
  clear hwA hgb
  have d0 := hm1.cell m0 0 rfl
  have d1 := hm1.cell m0 1 rfl
  have hnm := refNames_ok w1 A n c xs ⟨hx.out.gr hg1⟩ hn K N
  rw [hl] at hnm
  replace hnm := Fact.mk hnm
  go_wp2_with (refine wp_rng rfl 35 _ rfl gb 0 rfl (cV (K, N)) (rng_blk hm1 m0) row_V sz_V ?_)
  refine hnm.out.mono ?_
  rintro e w2 ⟨rfl, hg2⟩
  go_wp2
  go_ret
  exact ⟨rfl, hg1.trans hg2⟩
end Go.Proofs.YtpibchjkmaghnaaGreat
namespace Go.Proofs.YtpibchjkmaghnaaGreat
open Go.RowKit Go.Mm
set_option maxHeartbeats 1000000
set_option maxRecDepth 100000
set_option linter.unusedSimpArgs false
/-- The method value h.right. -/
def rightF (g : Nat) : Value := .func (.func 51) #[.pointer (some ⟨g, 0, none⟩)] #[]
theorem rightF_calls (w0 w : World) (L : List Chunk) (h : Hp) (hm : Mem w0 w L) (hh : HpC h ∈ L) (hok : Fact h.Ok) (x : V2) :
    VCalls Tryz.prog (rightF h.g) [.agg #[.int .i64 x.1, .int .i64 x.2]] w fun e w' => e = .returned (.bool (rightP h.objs x)) ∧ Gr w w' :=
  ⟨51, #[.pointer (some ⟨h.g, 0, none⟩)], #[], #[.pointer (some ⟨h.g, 0, none⟩), .agg #[.int .i64 x.1, .int .i64 x.2]], rfl, by kernel_rfl, right_ok w0 w L h hm hh hok x.1 x.2⟩
theorem take_all {α : Type} (p : α → Bool) (xs : List α) (k : Nat) (d : α) (hk : k < xs.length) : (xs.take (k + 1)).all p = ((xs.take k).all p && p (xs.getD k d)) := by
  rw [List.take_succ_eq_append_getElem hk, List.all_append]
  simp [hk]
theorem take_all_no {α : Type} {p : α → Bool} {xs : List α} {k : Nat} {d : α} (hk : k < xs.length) (h : p (xs.getD k d) = false) : xs.all p = false := by
  rw [List.all_eq_false]
  refine ⟨xs.getD k d, ?_, by rw [h]; decide⟩
  rw [List.getD_eq_getElem?_getD, List.getElem?_eq_getElem hk]
  exact List.getElem_mem _
theorem all_ok (w0 w : World) (L : List Chunk) (h : Hp) (hm : Mem w0 w L) (hh : HpC h ∈ L) (hok : Fact h.Ok) (A : Option Addr) (n c : Nat) (xs : List V2) (hx : Fact (RdC w 2 (.slice A n c) (fV xs))) (hn : n ≤ 16777216) :
    Calls Tryz.prog 117 #[.slice A n c, rightF h.g] w fun e w' => e = .returned (.bool (xs.all (rightP h.objs))) ∧ Gr w w' := by
  have hl := Fact.mk (rdV_len hx.out)
  have hV : Fact (∀ (W : World), Gr w W → ∀ x : V2, VCalls Tryz.prog (rightF h.g) [.agg #[.int .i64 x.1, .int .i64 x.2]] W fun e w' => e = .returned (.bool (rightP h.objs x)) ∧ Gr W w') := ⟨fun W hg x => rightF_calls w0 W L h (hm.gr hg) hh hok x⟩
  generalize rightF h.g = F at hV ⊢
  generalize h.objs = obs at hV ⊢
  go_enter Tryz.func117, Tryz.ntmps117
  go_wp2
  go_loopw [9] (fun s9 W => ∃ k : Nat, s9 = .int .i64 k ∧ k ≤ n ∧ Fact ((xs.take k).all (rightP obs) = true) ∧ Gr w W) (fun s9 _ => n - (intOf s9).toNat)
  case atStart => exact ⟨0, rfl, by omega, ⟨rfl⟩, Gr.refl w⟩
  case round =>
    obtain ⟨k, rfl, hk, hall, hgr⟩ := hrel
    by_cases hlt : k < n
    · obtain ⟨b, o, rfl, g1, g2, _, hkl⟩ := rdV_at (hx.out.gr hgr) k hlt
      have hsn := take_all (rightP obs) xs k (0, 0) hkl
      have hno := take_all_no (p := rightP obs) (xs := xs) (k := k) (d := (0, 0)) hkl
      generalize xs.getD k (0, 0) = x at g1 g2 hsn hno
      have hs := (Mem.start wr).alloc (.cells [.int .i64 0, .int .i64 0].toArray 35)
      go_upto_region 4 with (first | (refine wp_rng rfl 35 _ rfl b (o + k * 2) rfl (cV x) (rng2 g1 g2) row_V sz_V ?_) | (refine wp_setrow rfl 35 _ _ rfl wr.heap.size rfl 35 _ (cV x) rfl hs sz_V rfl (cV_one x) ?_; intro w5 hm5))
      generalize wr.heap.size = g5 at hm5 ⊢
      have hg5 := hgr.trans hm5.below
      cases hr : rightP obs x with
      | false =>
        have hc := hV.out w5 hg5 x
        rw [hr] at hc
        replace hc := Fact.mk hc
        have hfin := Fact.mk (hno hr)
        clear hno hsn
        go_wp2_with (first | (refine wp_rng rfl 35 _ rfl g5 0 rfl (cV x) (rng_blk hm5 m0) row_V sz_V ?_) | (refine wp_fnv rfl _ _ _ rfl F (by rfl) [.agg #[.int .i64 x.1, .int .i64 x.2]] (by rfl) (hc.out.mono ?_); rintro e w6 ⟨rfl, hg6⟩; refine ⟨_, rfl, ?_⟩))
        go_ret
        exact ⟨by rw [hfin.out]; rfl, hg5.trans hg6⟩
      | true =>
        have hc := hV.out w5 hg5 x
        rw [hr] at hc hsn
        rw [hall.out] at hsn
        replace hc := Fact.mk hc
        replace hsn := Fact.mk hsn
        clear hno
        go_wp2_with (first | (refine wp_rng rfl 35 _ rfl g5 0 rfl (cV x) (rng_blk hm5 m0) row_V sz_V ?_) | (refine wp_fnv rfl _ _ _ rfl F (by rfl) [.agg #[.int .i64 x.1, .int .i64 x.2]] (by rfl) (hc.out.mono ?_); rintro e w6 ⟨rfl, hg6⟩; refine ⟨_, rfl, ?_⟩))
        go_roundw
        case rel => exact ⟨k + 1, by go_num, by omega, ⟨hsn.out⟩, hg5.trans hg6⟩
        case measure => exact measP_lt hlt
    · obtain rfl : k = n := by omega
      have hfin : Fact (xs.all (rightP obs) = true) := ⟨by have := hall.out; rwa [List.take_of_length_le (by rw [hl.out]; omega)] at this⟩
      go_wp2
      go_ret
      exact ⟨by rw [hfin.out]; rfl, hgr⟩
end Go.Proofs.YtpibchjkmaghnaaGreat
namespace Go.Proofs.YtpibchjkmaghnaaGreat
open Go.RowKit Go.Mm
set_option maxHeartbeats 8000000
set_option maxRecDepth 100000
set_option linter.unusedSimpArgs false
/-- Is an object within its kind's limits? -/
def limB (o : Ob) : Bool :=
  if o.kind = 6 then decide (o.items.length ≤ 4096) else if o.kind = 7 then decide (o.keys.length ≤ 256)
  else if o.kind = 8 then decide (0 ≤ o.fn) && decide (o.items.length ≤ 4096) else decide (1 ≤ o.cap) && decide (o.cap ≤ 64) && decide ((o.items.length : Int) ≤ o.cap)
theorem rightA_ok (w0 w : World) (L : List Chunk) (h : Hp) (hm : Mem w0 w L) (hh : HpC h ∈ L) (hok : Fact h.Ok) (g : Nat) (A : Option Addr) (n c : Nat) (xs : List V2) (hx : Fact (RdC w 2 (.slice A n c) (fV xs))) (hn : n ≤ 1048576) (h0 : w.cell? ⟨g, 0, none⟩ = some (.slice A n c)) :
    Calls Tryz.prog 116 #[.pointer (some ⟨g, 0, none⟩), rightF h.g] w fun e w' => e = .returned (.bool (decide (n ≤ 4096) && xs.all (rightP h.objs))) ∧ Gr w w' := by
  have hall := fun (W : World) (hg : Gr w W) => all_ok w0 W L h (hm.gr hg) hh hok A n c xs ⟨hx.out.gr hg⟩ (by omega)
  generalize rightF h.g = F at hall ⊢
  generalize xs.all (rightP h.objs) = al at hall ⊢
  replace hall := Fact.mk hall
  by_cases q : n ≤ 4096
  · have q' : decide ((n : Int) ≤ 4096) = true := decide_eq_true (by omega)
    rw [decide_eq_true q, Bool.true_and]
    go_enter Tryz.func116, Tryz.ntmps116
    go_wp2_with fail
    refine (hall.out w (Gr.refl w)).mono ?_
    rintro e w2 ⟨rfl, hg2⟩
    go_wp2
    go_ret
    exact ⟨rfl, hg2⟩
  · have q' : decide ((n : Int) ≤ 4096) = false := decide_eq_false (by omega)
    rw [decide_eq_false q, Bool.false_and]
    go_enter Tryz.func116, Tryz.ntmps116
    go_wp2
    go_ret
    exact ⟨rfl, Gr.refl w⟩
theorem rightR_ok (w0 w : World) (L : List Chunk) (h : Hp) (hm : Mem w0 w L) (hh : HpC h ∈ L) (hok : Fact h.Ok) (g : Nat) (A : Option Addr) (n c : Nat) (xs : List V2) (hx : Fact (RdC w 2 (.slice A n c) (fV xs))) (hn : n ≤ 1048576) (KA : Option Addr) (kn kc : Nat) (hkn : kn ≤ 1048576) (h0 : w.cell? ⟨g, 0, none⟩ = some (.slice KA kn kc)) (h1 : w.cell? ⟨g, 1, none⟩ = some (.slice A n c)) :
    Calls Tryz.prog 129 #[.pointer (some ⟨g, 0, none⟩), rightF h.g] w fun e w' => e = .returned (.bool (decide (kn ≤ 256) && xs.all (rightP h.objs))) ∧ Gr w w' := by
  have hall := fun (W : World) (hg : Gr w W) => all_ok w0 W L h (hm.gr hg) hh hok A n c xs ⟨hx.out.gr hg⟩ (by omega)
  generalize rightF h.g = F at hall ⊢
  generalize xs.all (rightP h.objs) = al at hall ⊢
  replace hall := Fact.mk hall
  by_cases q : kn ≤ 256
  · have q' : decide ((kn : Int) ≤ 256) = true := decide_eq_true (by omega)
    rw [decide_eq_true q, Bool.true_and]
    go_enter Tryz.func129, Tryz.ntmps129
    go_wp2_with fail
    refine (hall.out w (Gr.refl w)).mono ?_
    rintro e w2 ⟨rfl, hg2⟩
    go_wp2
    go_ret
    exact ⟨rfl, hg2⟩
  · have q' : decide ((kn : Int) ≤ 256) = false := decide_eq_false (by omega)
    rw [decide_eq_false q, Bool.false_and]
    go_enter Tryz.func129, Tryz.ntmps129
    go_wp2
    go_ret
    exact ⟨rfl, Gr.refl w⟩
theorem rightB_ok (w0 w : World) (L : List Chunk) (h : Hp) (hm : Mem w0 w L) (hh : HpC h ∈ L) (hok : Fact h.Ok) (g : Nat) (A : Option Addr) (n c : Nat) (xs : List V2) (hx : Fact (RdC w 2 (.slice A n c) (fV xs))) (hn : n ≤ 1048576) (fn : Int) (h0 : w.cell? ⟨g, 0, none⟩ = some (.int .i64 fn)) (h1 : w.cell? ⟨g, 1, none⟩ = some (.slice A n c)) :
    Calls Tryz.prog 121 #[.pointer (some ⟨g, 0, none⟩), rightF h.g] w fun e w' => e = .returned (.bool ((decide (0 ≤ fn) && decide (n ≤ 4096)) && xs.all (rightP h.objs))) ∧ Gr w w' := by
  have hall := fun (W : World) (hg : Gr w W) => all_ok w0 W L h (hm.gr hg) hh hok A n c xs ⟨hx.out.gr hg⟩ (by omega)
  generalize rightF h.g = F at hall ⊢
  generalize xs.all (rightP h.objs) = al at hall ⊢
  replace hall := Fact.mk hall
  by_cases p : 0 ≤ fn
  · have p' : decide (fn ≥ 0) = true := decide_eq_true p
    rw [decide_eq_true p, Bool.true_and]
    by_cases q : n ≤ 4096
    · have q' : decide ((n : Int) ≤ 4096) = true := decide_eq_true (by omega)
      rw [decide_eq_true q, Bool.true_and]
      go_enter Tryz.func121, Tryz.ntmps121
      go_wp2_with fail
      refine (hall.out w (Gr.refl w)).mono ?_
      rintro e w2 ⟨rfl, hg2⟩
      go_wp2
      go_ret
      exact ⟨rfl, hg2⟩
    · have q' : decide ((n : Int) ≤ 4096) = false := decide_eq_false (by omega)
      rw [decide_eq_false q, Bool.false_and]
      go_enter Tryz.func121, Tryz.ntmps121
      go_wp2
      go_ret
      exact ⟨rfl, Gr.refl w⟩
  · have p' : decide (fn ≥ 0) = false := decide_eq_false p
    rw [decide_eq_false p, Bool.false_and, Bool.false_and]
    go_enter Tryz.func121, Tryz.ntmps121
    go_wp2
    go_ret
    exact ⟨rfl, Gr.refl w⟩
theorem rightC_ok (w0 w : World) (L : List Chunk) (h : Hp) (hm : Mem w0 w L) (hh : HpC h ∈ L) (hok : Fact h.Ok) (g : Nat) (A : Option Addr) (n c : Nat) (xs : List V2) (hx : Fact (RdC w 2 (.slice A n c) (fV xs))) (hn : n ≤ 1048576) (cap : Int) (h0 : w.cell? ⟨g, 0, none⟩ = some (.int .i64 cap)) (h1 : w.cell? ⟨g, 1, none⟩ = some (.slice A n c)) :
    Calls Tryz.prog 125 #[.pointer (some ⟨g, 0, none⟩), rightF h.g] w fun e w' => e = .returned (.bool ((decide (1 ≤ cap) && decide (cap ≤ 64) && decide ((n : Int) ≤ cap)) && xs.all (rightP h.objs))) ∧ Gr w w' := by
  have hall := fun (W : World) (hg : Gr w W) => all_ok w0 W L h (hm.gr hg) hh hok A n c xs ⟨hx.out.gr hg⟩ (by omega)
  generalize rightF h.g = F at hall ⊢
  generalize xs.all (rightP h.objs) = al at hall ⊢
  replace hall := Fact.mk hall
  by_cases p : 1 ≤ cap
  · have p' : decide (cap ≥ 1) = true := decide_eq_true p
    rw [decide_eq_true p, Bool.true_and]
    by_cases r : cap ≤ 64
    · have r' : decide (cap ≤ 64) = true := decide_eq_true r
      rw [r', Bool.true_and]
      by_cases q : (n : Int) ≤ cap
      · have q' : decide ((n : Int) ≤ cap) = true := decide_eq_true q
        rw [q', Bool.true_and]
        go_enter Tryz.func125, Tryz.ntmps125
        go_upto_region 1 with (fail)
        have z0 := (Gr.refl w).drew.cell h0
        have z1 := (Gr.refl w).drew.cell h1
        refine wp_region_still_tail 30 (by kernel_rfl) (by kernel_rfl) ?_
        simp only [List.take_succ_cons, List.take_zero, List.drop_succ_cons, List.drop_zero]
        repeat still_step
        refine wpStill_nil ?_
        go_wp2_with fail
        refine (hall.out w.drew (Gr.refl w).drew).mono ?_
        rintro e w2 ⟨rfl, hg2⟩
        go_wp2
        go_ret
        exact ⟨rfl, (Gr.refl w).drew.trans hg2⟩
      · have q' : decide ((n : Int) ≤ cap) = false := decide_eq_false q
        rw [q', Bool.false_and]
        go_enter Tryz.func125, Tryz.ntmps125
        go_upto_region 1 with (fail)
        go_quiet (fail)
        go_wp2
        go_ret
        exact ⟨rfl, (Gr.refl w).drewN _⟩
    · have r' : decide (cap ≤ 64) = false := decide_eq_false r
      rw [r', Bool.false_and, Bool.false_and]
      go_enter Tryz.func125, Tryz.ntmps125
      go_upto_region 1 with (fail)
      go_quiet (fail)
      go_wp2
      go_ret
      exact ⟨rfl, (Gr.refl w).drewN _⟩
  · have p' : decide (cap ≥ 1) = false := decide_eq_false p
    rw [decide_eq_false p, Bool.false_and, Bool.false_and, Bool.false_and]
    go_enter Tryz.func125, Tryz.ntmps125
    go_upto_region 1 with (fail)
    go_quiet (fail)
    go_wp2
    go_ret
    exact ⟨rfl, (Gr.refl w).drewN _⟩
theorem mriA (a : Addr) (v : Value) (w : World) : (callMethod (.iface 114 (.pointer (some a))) "portage/heap.right" #[v]).run Tryz.prog w = .ok (.enter 116 #[.pointer (some a), v]) w := by kernel_rfl
theorem mriR (a : Addr) (v : Value) (w : World) : (callMethod (.iface 130 (.pointer (some a))) "portage/heap.right" #[v]).run Tryz.prog w = .ok (.enter 129 #[.pointer (some a), v]) w := by kernel_rfl
theorem mriB (a : Addr) (v : Value) (w : World) : (callMethod (.iface 117 (.pointer (some a))) "portage/heap.right" #[v]).run Tryz.prog w = .ok (.enter 121 #[.pointer (some a), v]) w := by kernel_rfl
theorem mriC (a : Addr) (v : Value) (w : World) : (callMethod (.iface 127 (.pointer (some a))) "portage/heap.right" #[v]).run Tryz.prog w = .ok (.enter 125 #[.pointer (some a), v]) w := by kernel_rfl
theorem rightI_ok (w0 w : World) (L : List Chunk) (h : Hp) (hm : Mem w0 w L) (hh : HpC h ∈ L) (hok : Fact h.Ok) (t : Th) (ht : t.Ok) (hc : ∀ c, c ∈ t.chunks → c.ok w) :
    ICalls Tryz.prog t.val "portage/heap.right" #[rightF h.g] w fun e w' => e = .returned (.bool (limB t.ob && t.ob.items.all (rightP h.objs))) ∧ Gr w w' := by
  obtain ⟨h0, hx, hk⟩ := Th.reads hc
  have hl := rdV_len hx
  have hkl := RdC.nlen hk
  have hsz := ht.size
  have kk := ht.keys
  unfold limB
  rw [hl, hkl]
  rcases t.val_of ht.kind with ⟨hkd, hv⟩ | ⟨hkd, hv⟩ | ⟨hkd, hv⟩ | ⟨hkd, hv⟩ <;> rw [hv] <;> rw [hkd] at kk <;> rw [hkd] <;> simp only [Th.cells, hkd] at h0
  · rw [if_pos rfl]
    exact ⟨_, _, mriA _ _ w, rightA_ok w0 w L h hm hh hok t.g t.A t.n t.c t.ob.items ⟨hx⟩ (by omega) (h0 0 _ rfl)⟩
  · rw [if_neg (by decide), if_pos rfl]
    have e4 := kk rfl
    exact ⟨_, _, mriR _ _ w, rightR_ok w0 w L h hm hh hok t.g t.A t.n t.c t.ob.items ⟨hx⟩ (by omega) t.KA t.kn t.kc (by omega) (h0 0 _ rfl) (h0 1 _ rfl)⟩
  · rw [if_neg (by decide), if_neg (by decide), if_pos rfl]
    exact ⟨_, _, mriB _ _ w, rightB_ok w0 w L h hm hh hok t.g t.A t.n t.c t.ob.items ⟨hx⟩ (by omega) t.ob.fn (h0 0 _ rfl) (h0 1 _ rfl)⟩
  · rw [if_neg (by decide), if_neg (by decide), if_neg (by decide)]
    exact ⟨_, _, mriC _ _ w, rightC_ok w0 w L h hm hh hok t.g t.A t.n t.c t.ob.items ⟨hx⟩ (by omega) t.ob.cap (h0 0 _ rfl) (h0 1 _ rfl)⟩
end Go.Proofs.YtpibchjkmaghnaaGreat
namespace Go.Proofs.YtpibchjkmaghnaaGreat
open Go.RowKit Go.Mm
set_option maxHeartbeats 4000000
set_option maxRecDepth 100000
set_option linter.unusedSimpArgs false
/-- Has an object no field that its kind has not, and no key twice? -/
def madeB (o : Ob) : Bool :=
  if o.kind = 6 then (o.keys.length == 0) && (o.cap == 0 && !o.shut) && (o.fn == 0)
  else if o.kind = 8 then (o.keys.length == 0) && (o.cap == 0 && !o.shut)
  else if o.kind = 9 then (o.keys.length == 0) && (o.fn == 0)
  else if o.kind = 7 then (o.cap == 0 && !o.shut) && (o.fn == 0) && (o.keys.length == o.items.length) && o.keys.all (fun k => decide (0 ≤ k)) && decide o.keys.Nodup
  else false
def MadeQ (w0 : World) (L : List Chunk) (o : Ob) (e : Ending) (w : World) : Prop :=
  (madeB o = true ∧ ∃ t : Th, t.ob = o ∧ t.Ok ∧ e = .returned (.tuple #[t.val, .bool true]) ∧ Mem w0 w (ThC t :: L)) ∨ (madeB o = false ∧ ∃ v, e = .returned (.tuple #[v, .bool false]) ∧ Mem w0 w L)
theorem madeA_ok (w0 w : World) (L : List Chunk) (hm : Mem w0 w L) (A : Option Addr) (c : Nat) (KA : Option Addr) (kc : Nat) (items : List V2) (keys : List Int) (fn cap : Int) (sh : Bool) (hx : Fact (RdC w 2 (.slice A items.length c) (fV items))) (hi : items.length ≤ 1048576) (hkn : keys.length ≤ 1048576) (op : Bool) (hop : op = (cap == 0 && !sh)) :
    Calls Tryz.prog 50 #[.agg (obC 6 A items.length c KA keys.length kc fn cap sh).toArray] w fun e w' => MadeQ w0 L ⟨6, items, keys, fn, cap, sh⟩ e w' := by
  have hM : madeB ⟨6, items, keys, fn, cap, sh⟩ = ((keys.length == 0) && op && (fn == 0)) := by rw [hop]; rfl
  go_enter Tryz.func50, Tryz.ntmps50
  go_upto_region 1 with (fail)
  have hm1 := hm.alloc (.cells (obC 6 A items.length c KA keys.length kc fn cap sh).toArray 41)
  have hx1 := Fact.mk (hx.out.gr ((Gr.refl w).alloc (.cells (obC 6 A items.length c KA keys.length kc fn cap sh).toArray 41)))
  generalize hgb : w.heap.size = gb at hm1 ⊢
  generalize hw1 : w.alloc (.cells (obC 6 A items.length c KA keys.length kc fn cap sh).toArray 41) = w1 at hm1 hx1
  try refine wp_world hw1 ?_
  clear hw1 hgb hx
  have c0 := hm1.cell m0 0 rfl
  have c2 := hm1.cell m0 2 rfl
  have c4 := hm1.cell m0 4 rfl
  have c5 := hm1.cell m0 5 rfl
  go_upto_region 2 with (fail)
  go_cut [5] (fun s5 W => s5 = .bool op ∧ W = w1)
  case first =>
    by_cases qc : cap = 0
    · have qc' : (cap == 0) = true := beq_iff_eq.2 qc
      rw [qc', Bool.true_and] at hop
      clear qc
      subst hop
      go_wp2
      go_meet
      case rel => exact ⟨rfl, rfl⟩
    · have qc' : (cap == 0) = false := beq_eq_false_iff_ne.2 qc
      rw [qc', Bool.false_and] at hop
      clear qc
      subst hop
      go_wp2
      go_meet
      case rel => exact ⟨rfl, rfl⟩
  case rest =>
    obtain ⟨rfl, hwc⟩ := hcut
    rw [hwc]
    clear hwc c4 c5 c2
    by_cases qk : keys.length = 0
    · rw [beq_iff_eq.2 qk, Bool.true_and] at hM
      cases op with
      | false =>
        rw [Bool.false_and] at hM
        have hmb := Fact.mk hM
        clear hM hop
        have qk' : ((keys.length : Int) == 0) = true := beq_iff_eq.2 (by omega)
        rw [qk']
        clear qk'
        go_upto_region 5 with (fail)
        clear c0
        have hm2 := hm1.drew
        have hx2 := Fact.mk (hx1.out.gr (Gr.refl w1).drew)
        clear hm1 hx1
        have hS : w1.drew.cell? ⟨gb, 1, none⟩ = some (.slice A items.length c) ∧ w1.drew.cell? ⟨gb, 3, none⟩ = some (.int .i64 fn) := ⟨hm2.cell m0 1 rfl, hm2.cell m0 3 rfl⟩
        refine wp_region_until (S := fun W => W.cell? ⟨gb, 1, none⟩ = some (.slice A items.length c) ∧ W.cell? ⟨gb, 3, none⟩ = some (.int .i64 fn)) 16 (by kernel_rfl) ?_
        generalize w1.drew = w2 at hm2 hx2 hS ⊢
        refine wpAnyU_take 0 (v := ?vmt1x0) rfl (by kernel_rfl) (by kernel_rfl) (fun _ _ _ h => h) hS (Or.inl ⟨rfl, ?ymt1x0⟩) ?rmt1x0
        case ymt1x0 =>
          intro W hW
          obtain ⟨hW0, hW1⟩ := hW
          go_simp
          try with_reducible rfl
        try simp only [Act.put, List.getElem_toArray, List.getElem_cons_succ, List.getElem_cons_zero, List.setIfInBounds_toArray, List.set_cons_zero, List.set_cons_succ]
        refine wpAnyU_take 1 (v := ?vmt2x1) rfl (by kernel_rfl) (by kernel_rfl) (fun _ _ _ h => h) hS (Or.inl ⟨rfl, ?ymt2x1⟩) ?rmt2x1
        case ymt2x1 =>
          intro W hW
          obtain ⟨hW0, hW1⟩ := hW
          go_simp
          try with_reducible rfl
        try simp only [Act.put, List.getElem_toArray, List.getElem_cons_succ, List.getElem_cons_zero, List.setIfInBounds_toArray, List.set_cons_zero, List.set_cons_succ]
        refine wpAnyU_take 6 (v := ?vmt3x6) rfl (by kernel_rfl) (by kernel_rfl) (fun _ _ _ h => h) hS (Or.inl ⟨rfl, ?ymt3x6⟩) ?rmt3x6
        case ymt3x6 =>
          intro W hW
          obtain ⟨hW0, hW1⟩ := hW
          go_simp
          try with_reducible rfl
        try simp only [Act.put, List.getElem_toArray, List.getElem_cons_succ, List.getElem_cons_zero, List.setIfInBounds_toArray, List.set_cons_zero, List.set_cons_succ]
        refine wpAnyU_one 2 (by kernel_rfl) rfl (fun K hK => ?_)
        refine step_call rfl 67 Tryz.f67 Tryz.func67 (by kernel_rfl) (by kernel_rfl) _ _ rfl #[.slice A items.length c] (by simp [Act.eval]) ?_
        refine (clone_ok w0 w2 _ hm2 A items.length c items hx2 (by omega)).mono ?_
        rintro e w3 ⟨A3, c3, rfl, hm3⟩
        refine ⟨_, rfl, ?_⟩
        refine hK _ _ (fun _ => ⟨hm3.cell m1 1 rfl, hm3.cell m1 3 rfl⟩) ?_
        clear hK K hS hm2 hx2
        try simp only [Act.put, List.getElem_toArray, List.getElem_cons_succ, List.getElem_cons_zero, List.setIfInBounds_toArray, List.set_cons_zero, List.set_cons_succ]
        have hS : w3.cell? ⟨gb, 1, none⟩ = some (.slice A items.length c) ∧ w3.cell? ⟨gb, 3, none⟩ = some (.int .i64 fn) := ⟨hm3.cell m1 1 rfl, hm3.cell m1 3 rfl⟩
        refine wpAnyU_take 3 (v := ?vmt4x3) rfl (by kernel_rfl) (by kernel_rfl) (fun _ _ _ h => h) hS (Or.inl ⟨rfl, ?ymt4x3⟩) ?rmt4x3
        case ymt4x3 =>
          intro W hW
          obtain ⟨hW0, hW1⟩ := hW
          go_simp
          try with_reducible rfl
        try simp only [Act.put, List.getElem_toArray, List.getElem_cons_succ, List.getElem_cons_zero, List.setIfInBounds_toArray, List.set_cons_zero, List.set_cons_succ]
        refine wpAnyU_take 7 (v := ?vmt5x7) rfl (by kernel_rfl) (by kernel_rfl) (fun _ _ _ h => h) hS (Or.inl ⟨rfl, ?ymt5x7⟩) ?rmt5x7
        case ymt5x7 =>
          intro W hW
          obtain ⟨hW0, hW1⟩ := hW
          go_simp
          try with_reducible rfl
        try simp only [Act.put, List.getElem_toArray, List.getElem_cons_succ, List.getElem_cons_zero, List.setIfInBounds_toArray, List.set_cons_zero, List.set_cons_succ]
        refine wpAnyU_take 8 (v := ?vmt6x8) rfl (by kernel_rfl) (by kernel_rfl) (fun _ _ _ h => h) hS (Or.inl ⟨rfl, ?ymt6x8⟩) ?rmt6x8
        case ymt6x8 =>
          intro W hW
          obtain ⟨hW0, hW1⟩ := hW
          go_simp
          try with_reducible rfl
        try simp only [Act.put, List.getElem_toArray, List.getElem_cons_succ, List.getElem_cons_zero, List.setIfInBounds_toArray, List.set_cons_zero, List.set_cons_succ]
        refine wpAnyU_take 9 (v := ?vmt7x9) rfl (by kernel_rfl) (by kernel_rfl) (fun _ _ _ h => h) hS (Or.inl ⟨rfl, ?ymt7x9⟩) ?rmt7x9
        case ymt7x9 =>
          intro W hW
          obtain ⟨hW0, hW1⟩ := hW
          go_simp
          try with_reducible rfl
        try simp only [Act.put, List.getElem_toArray, List.getElem_cons_succ, List.getElem_cons_zero, List.setIfInBounds_toArray, List.set_cons_zero, List.set_cons_succ]
        refine wpAnyU_take 10 (v := ?vmt8x10) rfl (by kernel_rfl) (by kernel_rfl) (fun _ _ _ h => h) hS (Or.inl ⟨rfl, ?ymt8x10⟩) ?rmt8x10
        case ymt8x10 =>
          intro W hW
          obtain ⟨hW0, hW1⟩ := hW
          go_simp
          try with_reducible rfl
        try simp only [Act.put, List.getElem_toArray, List.getElem_cons_succ, List.getElem_cons_zero, List.setIfInBounds_toArray, List.set_cons_zero, List.set_cons_succ]
        refine wpAnyU_take 11 (v := undef) rfl (by kernel_rfl) (by kernel_rfl) (fun _ _ _ h => h) hS (Or.inr ⟨rfl, rfl⟩) ?roff811
        try simp only [Act.put, List.getElem_toArray, List.getElem_cons_succ, List.getElem_cons_zero, List.setIfInBounds_toArray, List.set_cons_zero, List.set_cons_succ]
        refine wpAnyU_take 12 (v := undef) rfl (by kernel_rfl) (by kernel_rfl) (fun _ _ _ h => h) hS (Or.inr ⟨rfl, rfl⟩) ?roff812
        try simp only [Act.put, List.getElem_toArray, List.getElem_cons_succ, List.getElem_cons_zero, List.setIfInBounds_toArray, List.set_cons_zero, List.set_cons_succ]
        refine wpAnyU_take 13 (v := undef) rfl (by kernel_rfl) (by kernel_rfl) (fun _ _ _ h => h) hS (Or.inr ⟨rfl, rfl⟩) ?roff813
        try simp only [Act.put, List.getElem_toArray, List.getElem_cons_succ, List.getElem_cons_zero, List.setIfInBounds_toArray, List.set_cons_zero, List.set_cons_succ]
        refine wpAnyU_take 14 (v := ?vmt9x14) rfl (by kernel_rfl) (by kernel_rfl) (fun _ _ _ h => h) hS (Or.inl ⟨rfl, ?ymt9x14⟩) ?rmt9x14
        case ymt9x14 =>
          intro W hW
          obtain ⟨hW0, hW1⟩ := hW
          go_simp
          try with_reducible rfl
        try simp only [Act.put, List.getElem_toArray, List.getElem_cons_succ, List.getElem_cons_zero, List.setIfInBounds_toArray, List.set_cons_zero, List.set_cons_succ]
        refine wpAnyU_one 4 (by kernel_rfl) rfl (fun K hK => ?_)
        go_simp
        have hm4 := hm3.alloc (.cells [.slice A3 items.length c3].toArray 116)
        generalize hg4 : w3.heap.size = g4 at hm4 ⊢
        generalize hw4 : w3.alloc (.cells [.slice A3 items.length c3].toArray 116) = w4 at hm4 ⊢
        refine hK _ _ (fun _ => ⟨hm4.cell m2 1 rfl, hm4.cell m2 3 rfl⟩) ?_
        clear hK K hS hm3 hg4 hw4
        try simp only [Act.put, List.getElem_toArray, List.getElem_cons_succ, List.getElem_cons_zero, List.setIfInBounds_toArray, List.set_cons_zero, List.set_cons_succ]
        have hS : w4.cell? ⟨gb, 1, none⟩ = some (.slice A items.length c) ∧ w4.cell? ⟨gb, 3, none⟩ = some (.int .i64 fn) := ⟨hm4.cell m2 1 rfl, hm4.cell m2 3 rfl⟩
        refine wpAnyU_take 5 (v := ?vmt10x5) rfl (by kernel_rfl) (by kernel_rfl) (fun _ _ _ h => h) hS (Or.inl ⟨rfl, ?ymt10x5⟩) ?rmt10x5
        case ymt10x5 =>
          intro W hW
          obtain ⟨hW0, hW1⟩ := hW
          go_simp
          try with_reducible rfl
        try simp only [Act.put, List.getElem_toArray, List.getElem_cons_succ, List.getElem_cons_zero, List.setIfInBounds_toArray, List.set_cons_zero, List.set_cons_succ]
        refine wpAnyU_take 15 (v := ?vmt11x15) rfl (by kernel_rfl) (by kernel_rfl) (fun _ _ _ h => h) hS (Or.inl ⟨rfl, ?ymt11x15⟩) ?rmt11x15
        case ymt11x15 =>
          intro W hW
          obtain ⟨hW0, hW1⟩ := hW
          go_simp
          try with_reducible rfl
        try simp only [Act.put, List.getElem_toArray, List.getElem_cons_succ, List.getElem_cons_zero, List.setIfInBounds_toArray, List.set_cons_zero, List.set_cons_succ]
        refine wpAnyU_one 16 (by kernel_rfl) rfl (fun K hK => ?_)
        go_simp
        refine hK _ _ (fun h => absurd h (by decide)) ?_
        clear hK K hS
        try simp only [Act.put, List.getElem_toArray, List.getElem_cons_succ, List.getElem_cons_zero, List.setIfInBounds_toArray, List.set_cons_zero, List.set_cons_succ]
        refine wpAnyU_done (by kernel_rfl) ?_ _
        go_wp2
        go_ret2
        exact .inr ⟨hmb.out, _, rfl, hm4.tail.tail.tail⟩
      | true =>
        rw [Bool.true_and] at hM
        by_cases qf : fn = 0
        · rw [beq_iff_eq.2 qf] at hM
          have hmb := Fact.mk hM
          have hob : Fact ((⟨6, items, keys, fn, cap, sh⟩ : Ob) = ⟨6, items, [], 0, 0, false⟩) := ⟨by
            have h := hop.symm
            simp only [Bool.and_eq_true, beq_iff_eq, Bool.not_eq_true'] at h
            rw [h.1, h.2, qf, List.eq_nil_of_length_eq_zero qk]⟩
          have qf' : (fn == 0) = true := beq_iff_eq.2 qf
          clear qf hM hop
          have qk' : ((keys.length : Int) == 0) = true := beq_iff_eq.2 (by omega)
          rw [qk']
          clear qk'
          go_upto_region 5 with (fail)
          clear c0
          have hm2 := hm1.drew
          have hx2 := Fact.mk (hx1.out.gr (Gr.refl w1).drew)
          clear hm1 hx1
          have hS : w1.drew.cell? ⟨gb, 1, none⟩ = some (.slice A items.length c) ∧ w1.drew.cell? ⟨gb, 3, none⟩ = some (.int .i64 fn) := ⟨hm2.cell m0 1 rfl, hm2.cell m0 3 rfl⟩
          refine wp_region_until (S := fun W => W.cell? ⟨gb, 1, none⟩ = some (.slice A items.length c) ∧ W.cell? ⟨gb, 3, none⟩ = some (.int .i64 fn)) 16 (by kernel_rfl) ?_
          generalize w1.drew = w2 at hm2 hx2 hS ⊢
          refine wpAnyU_take 0 (v := ?vmt12x0) rfl (by kernel_rfl) (by kernel_rfl) (fun _ _ _ h => h) hS (Or.inl ⟨rfl, ?ymt12x0⟩) ?rmt12x0
          case ymt12x0 =>
            intro W hW
            obtain ⟨hW0, hW1⟩ := hW
            go_simp
            try with_reducible rfl
          try simp only [Act.put, List.getElem_toArray, List.getElem_cons_succ, List.getElem_cons_zero, List.setIfInBounds_toArray, List.set_cons_zero, List.set_cons_succ]
          refine wpAnyU_take 1 (v := ?vmt13x1) rfl (by kernel_rfl) (by kernel_rfl) (fun _ _ _ h => h) hS (Or.inl ⟨rfl, ?ymt13x1⟩) ?rmt13x1
          case ymt13x1 =>
            intro W hW
            obtain ⟨hW0, hW1⟩ := hW
            go_simp
            try with_reducible rfl
          try simp only [Act.put, List.getElem_toArray, List.getElem_cons_succ, List.getElem_cons_zero, List.setIfInBounds_toArray, List.set_cons_zero, List.set_cons_succ]
          refine wpAnyU_take 6 (v := ?vmt14x6) rfl (by kernel_rfl) (by kernel_rfl) (fun _ _ _ h => h) hS (Or.inl ⟨rfl, ?ymt14x6⟩) ?rmt14x6
          case ymt14x6 =>
            intro W hW
            obtain ⟨hW0, hW1⟩ := hW
            go_simp
            try with_reducible rfl
          try simp only [Act.put, List.getElem_toArray, List.getElem_cons_succ, List.getElem_cons_zero, List.setIfInBounds_toArray, List.set_cons_zero, List.set_cons_succ]
          refine wpAnyU_one 2 (by kernel_rfl) rfl (fun K hK => ?_)
          refine step_call rfl 67 Tryz.f67 Tryz.func67 (by kernel_rfl) (by kernel_rfl) _ _ rfl #[.slice A items.length c] (by simp [Act.eval]) ?_
          refine (clone_ok w0 w2 _ hm2 A items.length c items hx2 (by omega)).mono ?_
          rintro e w3 ⟨A3, c3, rfl, hm3⟩
          refine ⟨_, rfl, ?_⟩
          refine hK _ _ (fun _ => ⟨hm3.cell m1 1 rfl, hm3.cell m1 3 rfl⟩) ?_
          clear hK K hS hm2 hx2
          try simp only [Act.put, List.getElem_toArray, List.getElem_cons_succ, List.getElem_cons_zero, List.setIfInBounds_toArray, List.set_cons_zero, List.set_cons_succ]
          have hS : w3.cell? ⟨gb, 1, none⟩ = some (.slice A items.length c) ∧ w3.cell? ⟨gb, 3, none⟩ = some (.int .i64 fn) := ⟨hm3.cell m1 1 rfl, hm3.cell m1 3 rfl⟩
          refine wpAnyU_take 3 (v := ?vmt15x3) rfl (by kernel_rfl) (by kernel_rfl) (fun _ _ _ h => h) hS (Or.inl ⟨rfl, ?ymt15x3⟩) ?rmt15x3
          case ymt15x3 =>
            intro W hW
            obtain ⟨hW0, hW1⟩ := hW
            go_simp
            try with_reducible rfl
          try simp only [Act.put, List.getElem_toArray, List.getElem_cons_succ, List.getElem_cons_zero, List.setIfInBounds_toArray, List.set_cons_zero, List.set_cons_succ]
          refine wpAnyU_take 7 (v := ?vmt16x7) rfl (by kernel_rfl) (by kernel_rfl) (fun _ _ _ h => h) hS (Or.inl ⟨rfl, ?ymt16x7⟩) ?rmt16x7
          case ymt16x7 =>
            intro W hW
            obtain ⟨hW0, hW1⟩ := hW
            go_simp
            try with_reducible rfl
          try simp only [Act.put, List.getElem_toArray, List.getElem_cons_succ, List.getElem_cons_zero, List.setIfInBounds_toArray, List.set_cons_zero, List.set_cons_succ]
          refine wpAnyU_take 8 (v := ?vmt17x8) rfl (by kernel_rfl) (by kernel_rfl) (fun _ _ _ h => h) hS (Or.inl ⟨rfl, ?ymt17x8⟩) ?rmt17x8
          case ymt17x8 =>
            intro W hW
            obtain ⟨hW0, hW1⟩ := hW
            go_simp
            try with_reducible rfl
          try simp only [Act.put, List.getElem_toArray, List.getElem_cons_succ, List.getElem_cons_zero, List.setIfInBounds_toArray, List.set_cons_zero, List.set_cons_succ]
          refine wpAnyU_take 9 (v := ?vmt18x9) rfl (by kernel_rfl) (by kernel_rfl) (fun _ _ _ h => h) hS (Or.inl ⟨rfl, ?ymt18x9⟩) ?rmt18x9
          case ymt18x9 =>
            intro W hW
            obtain ⟨hW0, hW1⟩ := hW
            go_simp
            try with_reducible rfl
          try simp only [Act.put, List.getElem_toArray, List.getElem_cons_succ, List.getElem_cons_zero, List.setIfInBounds_toArray, List.set_cons_zero, List.set_cons_succ]
          refine wpAnyU_take 10 (v := ?vmt19x10) rfl (by kernel_rfl) (by kernel_rfl) (fun _ _ _ h => h) hS (Or.inl ⟨rfl, ?ymt19x10⟩) ?rmt19x10
          case ymt19x10 =>
            intro W hW
            obtain ⟨hW0, hW1⟩ := hW
            go_simp
            try with_reducible rfl
          try simp only [Act.put, List.getElem_toArray, List.getElem_cons_succ, List.getElem_cons_zero, List.setIfInBounds_toArray, List.set_cons_zero, List.set_cons_succ]
          refine wpAnyU_take 11 (v := ?vmt20x11) rfl (by kernel_rfl) (by kernel_rfl) (fun _ _ _ h => h) hS (Or.inl ⟨rfl, ?ymt20x11⟩) ?rmt20x11
          case ymt20x11 =>
            intro W hW
            obtain ⟨hW0, hW1⟩ := hW
            go_simp
            try with_reducible rfl
          try simp only [Act.put, List.getElem_toArray, List.getElem_cons_succ, List.getElem_cons_zero, List.setIfInBounds_toArray, List.set_cons_zero, List.set_cons_succ]
          refine wpAnyU_take 12 (v := ?vmt21x12) rfl (by kernel_rfl) (by kernel_rfl) (fun _ _ _ h => h) hS (Or.inl ⟨rfl, ?ymt21x12⟩) ?rmt21x12
          case ymt21x12 =>
            intro W hW
            obtain ⟨hW0, hW1⟩ := hW
            go_simp
            try with_reducible rfl
          try simp only [Act.put, List.getElem_toArray, List.getElem_cons_succ, List.getElem_cons_zero, List.setIfInBounds_toArray, List.set_cons_zero, List.set_cons_succ]
          refine wpAnyU_take 13 (v := ?vmt22x13) rfl (by kernel_rfl) (by kernel_rfl) (fun _ _ _ h => h) hS (Or.inl ⟨rfl, ?ymt22x13⟩) ?rmt22x13
          case ymt22x13 =>
            intro W hW
            obtain ⟨hW0, hW1⟩ := hW
            go_simp
            try with_reducible rfl
          try simp only [Act.put, List.getElem_toArray, List.getElem_cons_succ, List.getElem_cons_zero, List.setIfInBounds_toArray, List.set_cons_zero, List.set_cons_succ]
          refine wpAnyU_take 14 (v := ?vmt23x14) rfl (by kernel_rfl) (by kernel_rfl) (fun _ _ _ h => h) hS (Or.inl ⟨rfl, ?ymt23x14⟩) ?rmt23x14
          case ymt23x14 =>
            intro W hW
            obtain ⟨hW0, hW1⟩ := hW
            go_simp
            try with_reducible rfl
          try simp only [Act.put, List.getElem_toArray, List.getElem_cons_succ, List.getElem_cons_zero, List.setIfInBounds_toArray, List.set_cons_zero, List.set_cons_succ]
          refine wpAnyU_one 4 (by kernel_rfl) rfl (fun K hK => ?_)
          go_simp
          have hm4 := hm3.alloc (.cells [.slice A3 items.length c3].toArray 116)
          generalize hg4 : w3.heap.size = g4 at hm4 ⊢
          generalize hw4 : w3.alloc (.cells [.slice A3 items.length c3].toArray 116) = w4 at hm4 ⊢
          refine hK _ _ (fun _ => ⟨hm4.cell m2 1 rfl, hm4.cell m2 3 rfl⟩) ?_
          clear hK K hS hm3 hg4 hw4
          try simp only [Act.put, List.getElem_toArray, List.getElem_cons_succ, List.getElem_cons_zero, List.setIfInBounds_toArray, List.set_cons_zero, List.set_cons_succ]
          have hS : w4.cell? ⟨gb, 1, none⟩ = some (.slice A items.length c) ∧ w4.cell? ⟨gb, 3, none⟩ = some (.int .i64 fn) := ⟨hm4.cell m2 1 rfl, hm4.cell m2 3 rfl⟩
          refine wpAnyU_take 5 (v := ?vmt24x5) rfl (by kernel_rfl) (by kernel_rfl) (fun _ _ _ h => h) hS (Or.inl ⟨rfl, ?ymt24x5⟩) ?rmt24x5
          case ymt24x5 =>
            intro W hW
            obtain ⟨hW0, hW1⟩ := hW
            go_simp
            try with_reducible rfl
          try simp only [Act.put, List.getElem_toArray, List.getElem_cons_succ, List.getElem_cons_zero, List.setIfInBounds_toArray, List.set_cons_zero, List.set_cons_succ]
          refine wpAnyU_take 15 (v := ?vmt25x15) rfl (by kernel_rfl) (by kernel_rfl) (fun _ _ _ h => h) hS (Or.inl ⟨rfl, ?ymt25x15⟩) ?rmt25x15
          case ymt25x15 =>
            intro W hW
            obtain ⟨hW0, hW1⟩ := hW
            go_simp
            try with_reducible rfl
          try simp only [Act.put, List.getElem_toArray, List.getElem_cons_succ, List.getElem_cons_zero, List.setIfInBounds_toArray, List.set_cons_zero, List.set_cons_succ]
          refine wpAnyU_one 16 (by kernel_rfl) rfl (fun K hK => ?_)
          go_simp
          refine hK _ _ (fun h => absurd h (by decide)) ?_
          clear hK K hS
          try simp only [Act.put, List.getElem_toArray, List.getElem_cons_succ, List.getElem_cons_zero, List.setIfInBounds_toArray, List.set_cons_zero, List.set_cons_succ]
          refine wpAnyU_done (by kernel_rfl) ?_ _
          go_wp2
          go_ret2
          rw [hob.out]
          refine .inl ⟨by rw [← hob.out]; exact hmb.out, mkT g4 A3 items.length c3 6 items 0 0, rfl, mkT_ok _ _ _ _ (.inl rfl) hi (fun h => rfl) (fun h => rfl), rfl, ?_⟩
          exact mkT_mem g4 A3 items.length c3 6 items 0 0 [.slice A3 items.length c3] 116 rfl rfl (hm4.sub (List.Sublist.cons_cons _ (List.Sublist.cons_cons _ (List.sublist_cons_self _ _))))
        · rw [beq_eq_false_iff_ne.2 qf] at hM
          have hmb := Fact.mk hM
          have qf' : (fn == 0) = false := beq_eq_false_iff_ne.2 qf
          clear qf hM hop
          have qk' : ((keys.length : Int) == 0) = true := beq_iff_eq.2 (by omega)
          rw [qk']
          clear qk'
          go_upto_region 5 with (fail)
          clear c0
          have hm2 := hm1.drew
          have hx2 := Fact.mk (hx1.out.gr (Gr.refl w1).drew)
          clear hm1 hx1
          have hS : w1.drew.cell? ⟨gb, 1, none⟩ = some (.slice A items.length c) ∧ w1.drew.cell? ⟨gb, 3, none⟩ = some (.int .i64 fn) := ⟨hm2.cell m0 1 rfl, hm2.cell m0 3 rfl⟩
          refine wp_region_until (S := fun W => W.cell? ⟨gb, 1, none⟩ = some (.slice A items.length c) ∧ W.cell? ⟨gb, 3, none⟩ = some (.int .i64 fn)) 16 (by kernel_rfl) ?_
          generalize w1.drew = w2 at hm2 hx2 hS ⊢
          refine wpAnyU_take 0 (v := ?vmt26x0) rfl (by kernel_rfl) (by kernel_rfl) (fun _ _ _ h => h) hS (Or.inl ⟨rfl, ?ymt26x0⟩) ?rmt26x0
          case ymt26x0 =>
            intro W hW
            obtain ⟨hW0, hW1⟩ := hW
            go_simp
            try with_reducible rfl
          try simp only [Act.put, List.getElem_toArray, List.getElem_cons_succ, List.getElem_cons_zero, List.setIfInBounds_toArray, List.set_cons_zero, List.set_cons_succ]
          refine wpAnyU_take 1 (v := ?vmt27x1) rfl (by kernel_rfl) (by kernel_rfl) (fun _ _ _ h => h) hS (Or.inl ⟨rfl, ?ymt27x1⟩) ?rmt27x1
          case ymt27x1 =>
            intro W hW
            obtain ⟨hW0, hW1⟩ := hW
            go_simp
            try with_reducible rfl
          try simp only [Act.put, List.getElem_toArray, List.getElem_cons_succ, List.getElem_cons_zero, List.setIfInBounds_toArray, List.set_cons_zero, List.set_cons_succ]
          refine wpAnyU_take 6 (v := ?vmt28x6) rfl (by kernel_rfl) (by kernel_rfl) (fun _ _ _ h => h) hS (Or.inl ⟨rfl, ?ymt28x6⟩) ?rmt28x6
          case ymt28x6 =>
            intro W hW
            obtain ⟨hW0, hW1⟩ := hW
            go_simp
            try with_reducible rfl
          try simp only [Act.put, List.getElem_toArray, List.getElem_cons_succ, List.getElem_cons_zero, List.setIfInBounds_toArray, List.set_cons_zero, List.set_cons_succ]
          refine wpAnyU_one 2 (by kernel_rfl) rfl (fun K hK => ?_)
          refine step_call rfl 67 Tryz.f67 Tryz.func67 (by kernel_rfl) (by kernel_rfl) _ _ rfl #[.slice A items.length c] (by simp [Act.eval]) ?_
          refine (clone_ok w0 w2 _ hm2 A items.length c items hx2 (by omega)).mono ?_
          rintro e w3 ⟨A3, c3, rfl, hm3⟩
          refine ⟨_, rfl, ?_⟩
          refine hK _ _ (fun _ => ⟨hm3.cell m1 1 rfl, hm3.cell m1 3 rfl⟩) ?_
          clear hK K hS hm2 hx2
          try simp only [Act.put, List.getElem_toArray, List.getElem_cons_succ, List.getElem_cons_zero, List.setIfInBounds_toArray, List.set_cons_zero, List.set_cons_succ]
          have hS : w3.cell? ⟨gb, 1, none⟩ = some (.slice A items.length c) ∧ w3.cell? ⟨gb, 3, none⟩ = some (.int .i64 fn) := ⟨hm3.cell m1 1 rfl, hm3.cell m1 3 rfl⟩
          refine wpAnyU_take 3 (v := ?vmt29x3) rfl (by kernel_rfl) (by kernel_rfl) (fun _ _ _ h => h) hS (Or.inl ⟨rfl, ?ymt29x3⟩) ?rmt29x3
          case ymt29x3 =>
            intro W hW
            obtain ⟨hW0, hW1⟩ := hW
            go_simp
            try with_reducible rfl
          try simp only [Act.put, List.getElem_toArray, List.getElem_cons_succ, List.getElem_cons_zero, List.setIfInBounds_toArray, List.set_cons_zero, List.set_cons_succ]
          refine wpAnyU_take 7 (v := ?vmt30x7) rfl (by kernel_rfl) (by kernel_rfl) (fun _ _ _ h => h) hS (Or.inl ⟨rfl, ?ymt30x7⟩) ?rmt30x7
          case ymt30x7 =>
            intro W hW
            obtain ⟨hW0, hW1⟩ := hW
            go_simp
            try with_reducible rfl
          try simp only [Act.put, List.getElem_toArray, List.getElem_cons_succ, List.getElem_cons_zero, List.setIfInBounds_toArray, List.set_cons_zero, List.set_cons_succ]
          refine wpAnyU_take 8 (v := ?vmt31x8) rfl (by kernel_rfl) (by kernel_rfl) (fun _ _ _ h => h) hS (Or.inl ⟨rfl, ?ymt31x8⟩) ?rmt31x8
          case ymt31x8 =>
            intro W hW
            obtain ⟨hW0, hW1⟩ := hW
            go_simp
            try with_reducible rfl
          try simp only [Act.put, List.getElem_toArray, List.getElem_cons_succ, List.getElem_cons_zero, List.setIfInBounds_toArray, List.set_cons_zero, List.set_cons_succ]
          refine wpAnyU_take 9 (v := ?vmt32x9) rfl (by kernel_rfl) (by kernel_rfl) (fun _ _ _ h => h) hS (Or.inl ⟨rfl, ?ymt32x9⟩) ?rmt32x9
          case ymt32x9 =>
            intro W hW
            obtain ⟨hW0, hW1⟩ := hW
            go_simp
            try with_reducible rfl
          try simp only [Act.put, List.getElem_toArray, List.getElem_cons_succ, List.getElem_cons_zero, List.setIfInBounds_toArray, List.set_cons_zero, List.set_cons_succ]
          refine wpAnyU_take 10 (v := ?vmt33x10) rfl (by kernel_rfl) (by kernel_rfl) (fun _ _ _ h => h) hS (Or.inl ⟨rfl, ?ymt33x10⟩) ?rmt33x10
          case ymt33x10 =>
            intro W hW
            obtain ⟨hW0, hW1⟩ := hW
            go_simp
            try with_reducible rfl
          try simp only [Act.put, List.getElem_toArray, List.getElem_cons_succ, List.getElem_cons_zero, List.setIfInBounds_toArray, List.set_cons_zero, List.set_cons_succ]
          refine wpAnyU_take 11 (v := ?vmt34x11) rfl (by kernel_rfl) (by kernel_rfl) (fun _ _ _ h => h) hS (Or.inl ⟨rfl, ?ymt34x11⟩) ?rmt34x11
          case ymt34x11 =>
            intro W hW
            obtain ⟨hW0, hW1⟩ := hW
            go_simp
            try with_reducible rfl
          try simp only [Act.put, List.getElem_toArray, List.getElem_cons_succ, List.getElem_cons_zero, List.setIfInBounds_toArray, List.set_cons_zero, List.set_cons_succ]
          refine wpAnyU_take 12 (v := ?vmt35x12) rfl (by kernel_rfl) (by kernel_rfl) (fun _ _ _ h => h) hS (Or.inl ⟨rfl, ?ymt35x12⟩) ?rmt35x12
          case ymt35x12 =>
            intro W hW
            obtain ⟨hW0, hW1⟩ := hW
            go_simp
            try with_reducible rfl
          try simp only [Act.put, List.getElem_toArray, List.getElem_cons_succ, List.getElem_cons_zero, List.setIfInBounds_toArray, List.set_cons_zero, List.set_cons_succ]
          refine wpAnyU_take 13 (v := ?vmt36x13) rfl (by kernel_rfl) (by kernel_rfl) (fun _ _ _ h => h) hS (Or.inl ⟨rfl, ?ymt36x13⟩) ?rmt36x13
          case ymt36x13 =>
            intro W hW
            obtain ⟨hW0, hW1⟩ := hW
            go_simp
            try with_reducible rfl
          try simp only [Act.put, List.getElem_toArray, List.getElem_cons_succ, List.getElem_cons_zero, List.setIfInBounds_toArray, List.set_cons_zero, List.set_cons_succ]
          refine wpAnyU_take 14 (v := ?vmt37x14) rfl (by kernel_rfl) (by kernel_rfl) (fun _ _ _ h => h) hS (Or.inl ⟨rfl, ?ymt37x14⟩) ?rmt37x14
          case ymt37x14 =>
            intro W hW
            obtain ⟨hW0, hW1⟩ := hW
            go_simp
            try with_reducible rfl
          try simp only [Act.put, List.getElem_toArray, List.getElem_cons_succ, List.getElem_cons_zero, List.setIfInBounds_toArray, List.set_cons_zero, List.set_cons_succ]
          refine wpAnyU_one 4 (by kernel_rfl) rfl (fun K hK => ?_)
          go_simp
          have hm4 := hm3.alloc (.cells [.slice A3 items.length c3].toArray 116)
          generalize hg4 : w3.heap.size = g4 at hm4 ⊢
          generalize hw4 : w3.alloc (.cells [.slice A3 items.length c3].toArray 116) = w4 at hm4 ⊢
          refine hK _ _ (fun _ => ⟨hm4.cell m2 1 rfl, hm4.cell m2 3 rfl⟩) ?_
          clear hK K hS hm3 hg4 hw4
          try simp only [Act.put, List.getElem_toArray, List.getElem_cons_succ, List.getElem_cons_zero, List.setIfInBounds_toArray, List.set_cons_zero, List.set_cons_succ]
          have hS : w4.cell? ⟨gb, 1, none⟩ = some (.slice A items.length c) ∧ w4.cell? ⟨gb, 3, none⟩ = some (.int .i64 fn) := ⟨hm4.cell m2 1 rfl, hm4.cell m2 3 rfl⟩
          refine wpAnyU_take 5 (v := ?vmt38x5) rfl (by kernel_rfl) (by kernel_rfl) (fun _ _ _ h => h) hS (Or.inl ⟨rfl, ?ymt38x5⟩) ?rmt38x5
          case ymt38x5 =>
            intro W hW
            obtain ⟨hW0, hW1⟩ := hW
            go_simp
            try with_reducible rfl
          try simp only [Act.put, List.getElem_toArray, List.getElem_cons_succ, List.getElem_cons_zero, List.setIfInBounds_toArray, List.set_cons_zero, List.set_cons_succ]
          refine wpAnyU_take 15 (v := ?vmt39x15) rfl (by kernel_rfl) (by kernel_rfl) (fun _ _ _ h => h) hS (Or.inl ⟨rfl, ?ymt39x15⟩) ?rmt39x15
          case ymt39x15 =>
            intro W hW
            obtain ⟨hW0, hW1⟩ := hW
            go_simp
            try with_reducible rfl
          try simp only [Act.put, List.getElem_toArray, List.getElem_cons_succ, List.getElem_cons_zero, List.setIfInBounds_toArray, List.set_cons_zero, List.set_cons_succ]
          refine wpAnyU_one 16 (by kernel_rfl) rfl (fun K hK => ?_)
          go_simp
          refine hK _ _ (fun h => absurd h (by decide)) ?_
          clear hK K hS
          try simp only [Act.put, List.getElem_toArray, List.getElem_cons_succ, List.getElem_cons_zero, List.setIfInBounds_toArray, List.set_cons_zero, List.set_cons_succ]
          refine wpAnyU_done (by kernel_rfl) ?_ _
          go_wp2
          go_ret2
          exact .inr ⟨hmb.out, _, rfl, hm4.tail.tail.tail⟩
    · rw [beq_eq_false_iff_ne.2 qk, Bool.false_and, Bool.false_and] at hM
      have hmb := Fact.mk hM
      clear hM hop
      have qk' : ((keys.length : Int) == 0) = false := beq_eq_false_iff_ne.2 (by omega)
      rw [qk']
      clear qk'
      go_upto_region 5 with (fail)
      clear c0
      have hm2 := hm1.drew
      have hx2 := Fact.mk (hx1.out.gr (Gr.refl w1).drew)
      clear hm1 hx1
      have hS : w1.drew.cell? ⟨gb, 1, none⟩ = some (.slice A items.length c) ∧ w1.drew.cell? ⟨gb, 3, none⟩ = some (.int .i64 fn) := ⟨hm2.cell m0 1 rfl, hm2.cell m0 3 rfl⟩
      refine wp_region_until (S := fun W => W.cell? ⟨gb, 1, none⟩ = some (.slice A items.length c) ∧ W.cell? ⟨gb, 3, none⟩ = some (.int .i64 fn)) 16 (by kernel_rfl) ?_
      generalize w1.drew = w2 at hm2 hx2 hS ⊢
      refine wpAnyU_take 0 (v := ?vmt40x0) rfl (by kernel_rfl) (by kernel_rfl) (fun _ _ _ h => h) hS (Or.inl ⟨rfl, ?ymt40x0⟩) ?rmt40x0
      case ymt40x0 =>
        intro W hW
        obtain ⟨hW0, hW1⟩ := hW
        go_simp
        try with_reducible rfl
      try simp only [Act.put, List.getElem_toArray, List.getElem_cons_succ, List.getElem_cons_zero, List.setIfInBounds_toArray, List.set_cons_zero, List.set_cons_succ]
      refine wpAnyU_take 1 (v := ?vmt41x1) rfl (by kernel_rfl) (by kernel_rfl) (fun _ _ _ h => h) hS (Or.inl ⟨rfl, ?ymt41x1⟩) ?rmt41x1
      case ymt41x1 =>
        intro W hW
        obtain ⟨hW0, hW1⟩ := hW
        go_simp
        try with_reducible rfl
      try simp only [Act.put, List.getElem_toArray, List.getElem_cons_succ, List.getElem_cons_zero, List.setIfInBounds_toArray, List.set_cons_zero, List.set_cons_succ]
      refine wpAnyU_take 6 (v := ?vmt42x6) rfl (by kernel_rfl) (by kernel_rfl) (fun _ _ _ h => h) hS (Or.inl ⟨rfl, ?ymt42x6⟩) ?rmt42x6
      case ymt42x6 =>
        intro W hW
        obtain ⟨hW0, hW1⟩ := hW
        go_simp
        try with_reducible rfl
      try simp only [Act.put, List.getElem_toArray, List.getElem_cons_succ, List.getElem_cons_zero, List.setIfInBounds_toArray, List.set_cons_zero, List.set_cons_succ]
      refine wpAnyU_one 2 (by kernel_rfl) rfl (fun K hK => ?_)
      refine step_call rfl 67 Tryz.f67 Tryz.func67 (by kernel_rfl) (by kernel_rfl) _ _ rfl #[.slice A items.length c] (by simp [Act.eval]) ?_
      refine (clone_ok w0 w2 _ hm2 A items.length c items hx2 (by omega)).mono ?_
      rintro e w3 ⟨A3, c3, rfl, hm3⟩
      refine ⟨_, rfl, ?_⟩
      refine hK _ _ (fun _ => ⟨hm3.cell m1 1 rfl, hm3.cell m1 3 rfl⟩) ?_
      clear hK K hS hm2 hx2
      try simp only [Act.put, List.getElem_toArray, List.getElem_cons_succ, List.getElem_cons_zero, List.setIfInBounds_toArray, List.set_cons_zero, List.set_cons_succ]
      have hS : w3.cell? ⟨gb, 1, none⟩ = some (.slice A items.length c) ∧ w3.cell? ⟨gb, 3, none⟩ = some (.int .i64 fn) := ⟨hm3.cell m1 1 rfl, hm3.cell m1 3 rfl⟩
      refine wpAnyU_take 3 (v := ?vmt43x3) rfl (by kernel_rfl) (by kernel_rfl) (fun _ _ _ h => h) hS (Or.inl ⟨rfl, ?ymt43x3⟩) ?rmt43x3
      case ymt43x3 =>
        intro W hW
        obtain ⟨hW0, hW1⟩ := hW
        go_simp
        try with_reducible rfl
      try simp only [Act.put, List.getElem_toArray, List.getElem_cons_succ, List.getElem_cons_zero, List.setIfInBounds_toArray, List.set_cons_zero, List.set_cons_succ]
      refine wpAnyU_take 7 (v := ?vmt44x7) rfl (by kernel_rfl) (by kernel_rfl) (fun _ _ _ h => h) hS (Or.inl ⟨rfl, ?ymt44x7⟩) ?rmt44x7
      case ymt44x7 =>
        intro W hW
        obtain ⟨hW0, hW1⟩ := hW
        go_simp
        try with_reducible rfl
      try simp only [Act.put, List.getElem_toArray, List.getElem_cons_succ, List.getElem_cons_zero, List.setIfInBounds_toArray, List.set_cons_zero, List.set_cons_succ]
      refine wpAnyU_take 8 (v := undef) rfl (by kernel_rfl) (by kernel_rfl) (fun _ _ _ h => h) hS (Or.inr ⟨rfl, rfl⟩) ?roff4408
      try simp only [Act.put, List.getElem_toArray, List.getElem_cons_succ, List.getElem_cons_zero, List.setIfInBounds_toArray, List.set_cons_zero, List.set_cons_succ]
      refine wpAnyU_take 9 (v := ?vmt45x9) rfl (by kernel_rfl) (by kernel_rfl) (fun _ _ _ h => h) hS (Or.inl ⟨rfl, ?ymt45x9⟩) ?rmt45x9
      case ymt45x9 =>
        intro W hW
        obtain ⟨hW0, hW1⟩ := hW
        go_simp
        try with_reducible rfl
      try simp only [Act.put, List.getElem_toArray, List.getElem_cons_succ, List.getElem_cons_zero, List.setIfInBounds_toArray, List.set_cons_zero, List.set_cons_succ]
      refine wpAnyU_take 10 (v := ?vmt46x10) rfl (by kernel_rfl) (by kernel_rfl) (fun _ _ _ h => h) hS (Or.inl ⟨rfl, ?ymt46x10⟩) ?rmt46x10
      case ymt46x10 =>
        intro W hW
        obtain ⟨hW0, hW1⟩ := hW
        go_simp
        try with_reducible rfl
      try simp only [Act.put, List.getElem_toArray, List.getElem_cons_succ, List.getElem_cons_zero, List.setIfInBounds_toArray, List.set_cons_zero, List.set_cons_succ]
      refine wpAnyU_take 11 (v := undef) rfl (by kernel_rfl) (by kernel_rfl) (fun _ _ _ h => h) hS (Or.inr ⟨rfl, rfl⟩) ?roff4611
      try simp only [Act.put, List.getElem_toArray, List.getElem_cons_succ, List.getElem_cons_zero, List.setIfInBounds_toArray, List.set_cons_zero, List.set_cons_succ]
      refine wpAnyU_take 12 (v := undef) rfl (by kernel_rfl) (by kernel_rfl) (fun _ _ _ h => h) hS (Or.inr ⟨rfl, rfl⟩) ?roff4612
      try simp only [Act.put, List.getElem_toArray, List.getElem_cons_succ, List.getElem_cons_zero, List.setIfInBounds_toArray, List.set_cons_zero, List.set_cons_succ]
      refine wpAnyU_take 13 (v := undef) rfl (by kernel_rfl) (by kernel_rfl) (fun _ _ _ h => h) hS (Or.inr ⟨rfl, rfl⟩) ?roff4613
      try simp only [Act.put, List.getElem_toArray, List.getElem_cons_succ, List.getElem_cons_zero, List.setIfInBounds_toArray, List.set_cons_zero, List.set_cons_succ]
      refine wpAnyU_take 14 (v := ?vmt47x14) rfl (by kernel_rfl) (by kernel_rfl) (fun _ _ _ h => h) hS (Or.inl ⟨rfl, ?ymt47x14⟩) ?rmt47x14
      case ymt47x14 =>
        intro W hW
        obtain ⟨hW0, hW1⟩ := hW
        go_simp
        try with_reducible rfl
      try simp only [Act.put, List.getElem_toArray, List.getElem_cons_succ, List.getElem_cons_zero, List.setIfInBounds_toArray, List.set_cons_zero, List.set_cons_succ]
      refine wpAnyU_one 4 (by kernel_rfl) rfl (fun K hK => ?_)
      go_simp
      have hm4 := hm3.alloc (.cells [.slice A3 items.length c3].toArray 116)
      generalize hg4 : w3.heap.size = g4 at hm4 ⊢
      generalize hw4 : w3.alloc (.cells [.slice A3 items.length c3].toArray 116) = w4 at hm4 ⊢
      refine hK _ _ (fun _ => ⟨hm4.cell m2 1 rfl, hm4.cell m2 3 rfl⟩) ?_
      clear hK K hS hm3 hg4 hw4
      try simp only [Act.put, List.getElem_toArray, List.getElem_cons_succ, List.getElem_cons_zero, List.setIfInBounds_toArray, List.set_cons_zero, List.set_cons_succ]
      have hS : w4.cell? ⟨gb, 1, none⟩ = some (.slice A items.length c) ∧ w4.cell? ⟨gb, 3, none⟩ = some (.int .i64 fn) := ⟨hm4.cell m2 1 rfl, hm4.cell m2 3 rfl⟩
      refine wpAnyU_take 5 (v := ?vmt48x5) rfl (by kernel_rfl) (by kernel_rfl) (fun _ _ _ h => h) hS (Or.inl ⟨rfl, ?ymt48x5⟩) ?rmt48x5
      case ymt48x5 =>
        intro W hW
        obtain ⟨hW0, hW1⟩ := hW
        go_simp
        try with_reducible rfl
      try simp only [Act.put, List.getElem_toArray, List.getElem_cons_succ, List.getElem_cons_zero, List.setIfInBounds_toArray, List.set_cons_zero, List.set_cons_succ]
      refine wpAnyU_take 15 (v := ?vmt49x15) rfl (by kernel_rfl) (by kernel_rfl) (fun _ _ _ h => h) hS (Or.inl ⟨rfl, ?ymt49x15⟩) ?rmt49x15
      case ymt49x15 =>
        intro W hW
        obtain ⟨hW0, hW1⟩ := hW
        go_simp
        try with_reducible rfl
      try simp only [Act.put, List.getElem_toArray, List.getElem_cons_succ, List.getElem_cons_zero, List.setIfInBounds_toArray, List.set_cons_zero, List.set_cons_succ]
      refine wpAnyU_one 16 (by kernel_rfl) rfl (fun K hK => ?_)
      go_simp
      refine hK _ _ (fun h => absurd h (by decide)) ?_
      clear hK K hS
      try simp only [Act.put, List.getElem_toArray, List.getElem_cons_succ, List.getElem_cons_zero, List.setIfInBounds_toArray, List.set_cons_zero, List.set_cons_succ]
      refine wpAnyU_done (by kernel_rfl) ?_ _
      go_wp2
      go_ret2
      exact .inr ⟨hmb.out, _, rfl, hm4.tail.tail.tail⟩
theorem madeB_ok (w0 w : World) (L : List Chunk) (hm : Mem w0 w L) (A : Option Addr) (c : Nat) (KA : Option Addr) (kc : Nat) (items : List V2) (keys : List Int) (fn cap : Int) (sh : Bool) (hx : Fact (RdC w 2 (.slice A items.length c) (fV items))) (hi : items.length ≤ 1048576) (hkn : keys.length ≤ 1048576) (op : Bool) (hop : op = (cap == 0 && !sh)) :
    Calls Tryz.prog 50 #[.agg (obC 8 A items.length c KA keys.length kc fn cap sh).toArray] w fun e w' => MadeQ w0 L ⟨8, items, keys, fn, cap, sh⟩ e w' := by
  have hM : madeB ⟨8, items, keys, fn, cap, sh⟩ = ((keys.length == 0) && op) := by rw [hop]; rfl
  go_enter Tryz.func50, Tryz.ntmps50
  go_upto_region 1 with (fail)
  have hm1 := hm.alloc (.cells (obC 8 A items.length c KA keys.length kc fn cap sh).toArray 41)
  have hx1 := Fact.mk (hx.out.gr ((Gr.refl w).alloc (.cells (obC 8 A items.length c KA keys.length kc fn cap sh).toArray 41)))
  generalize hgb : w.heap.size = gb at hm1 ⊢
  generalize hw1 : w.alloc (.cells (obC 8 A items.length c KA keys.length kc fn cap sh).toArray 41) = w1 at hm1 hx1
  try refine wp_world hw1 ?_
  clear hw1 hgb hx
  have c0 := hm1.cell m0 0 rfl
  have c2 := hm1.cell m0 2 rfl
  have c4 := hm1.cell m0 4 rfl
  have c5 := hm1.cell m0 5 rfl
  go_upto_region 2 with (fail)
  go_cut [5] (fun s5 W => s5 = .bool op ∧ W = w1)
  case first =>
    by_cases qc : cap = 0
    · have qc' : (cap == 0) = true := beq_iff_eq.2 qc
      rw [qc', Bool.true_and] at hop
      clear qc
      subst hop
      go_wp2
      go_meet
      case rel => exact ⟨rfl, rfl⟩
    · have qc' : (cap == 0) = false := beq_eq_false_iff_ne.2 qc
      rw [qc', Bool.false_and] at hop
      clear qc
      subst hop
      go_wp2
      go_meet
      case rel => exact ⟨rfl, rfl⟩
  case rest =>
    obtain ⟨rfl, hwc⟩ := hcut
    rw [hwc]
    clear hwc c4 c5 c2
    by_cases qk : keys.length = 0
    · rw [beq_iff_eq.2 qk, Bool.true_and] at hM
      cases op with
      | false =>
        have hmb := Fact.mk hM
        clear hM hop
        have qk' : ((keys.length : Int) == 0) = true := beq_iff_eq.2 (by omega)
        rw [qk']
        clear qk'
        go_upto_region 7 with (fail)
        clear c0
        have hm2 := hm1.drew
        have hx2 := Fact.mk (hx1.out.gr (Gr.refl w1).drew)
        clear hm1 hx1
        have hS : w1.drew.cell? ⟨gb, 1, none⟩ = some (.slice A items.length c) ∧ w1.drew.cell? ⟨gb, 3, none⟩ = some (.int .i64 fn) := ⟨hm2.cell m0 1 rfl, hm2.cell m0 3 rfl⟩
        refine wp_region_until (S := fun W => W.cell? ⟨gb, 1, none⟩ = some (.slice A items.length c) ∧ W.cell? ⟨gb, 3, none⟩ = some (.int .i64 fn)) 13 (by kernel_rfl) ?_
        generalize w1.drew = w2 at hm2 hx2 hS ⊢
        refine wpAnyU_take 0 (v := ?vmt50x0) rfl (by kernel_rfl) (by kernel_rfl) (fun _ _ _ h => h) hS (Or.inl ⟨rfl, ?ymt50x0⟩) ?rmt50x0
        case ymt50x0 =>
          intro W hW
          obtain ⟨hW0, hW1⟩ := hW
          go_simp
          try with_reducible rfl
        try simp only [Act.put, List.getElem_toArray, List.getElem_cons_succ, List.getElem_cons_zero, List.setIfInBounds_toArray, List.set_cons_zero, List.set_cons_succ]
        refine wpAnyU_take 1 (v := ?vmt51x1) rfl (by kernel_rfl) (by kernel_rfl) (fun _ _ _ h => h) hS (Or.inl ⟨rfl, ?ymt51x1⟩) ?rmt51x1
        case ymt51x1 =>
          intro W hW
          obtain ⟨hW0, hW1⟩ := hW
          go_simp
          try with_reducible rfl
        try simp only [Act.put, List.getElem_toArray, List.getElem_cons_succ, List.getElem_cons_zero, List.setIfInBounds_toArray, List.set_cons_zero, List.set_cons_succ]
        refine wpAnyU_take 2 (v := ?vmt52x2) rfl (by kernel_rfl) (by kernel_rfl) (fun _ _ _ h => h) hS (Or.inl ⟨rfl, ?ymt52x2⟩) ?rmt52x2
        case ymt52x2 =>
          intro W hW
          obtain ⟨hW0, hW1⟩ := hW
          go_simp
          try with_reducible rfl
        try simp only [Act.put, List.getElem_toArray, List.getElem_cons_succ, List.getElem_cons_zero, List.setIfInBounds_toArray, List.set_cons_zero, List.set_cons_succ]
        refine wpAnyU_take 3 (v := ?vmt53x3) rfl (by kernel_rfl) (by kernel_rfl) (fun _ _ _ h => h) hS (Or.inl ⟨rfl, ?ymt53x3⟩) ?rmt53x3
        case ymt53x3 =>
          intro W hW
          obtain ⟨hW0, hW1⟩ := hW
          go_simp
          try with_reducible rfl
        try simp only [Act.put, List.getElem_toArray, List.getElem_cons_succ, List.getElem_cons_zero, List.setIfInBounds_toArray, List.set_cons_zero, List.set_cons_succ]
        refine wpAnyU_take 8 (v := ?vmt54x8) rfl (by kernel_rfl) (by kernel_rfl) (fun _ _ _ h => h) hS (Or.inl ⟨rfl, ?ymt54x8⟩) ?rmt54x8
        case ymt54x8 =>
          intro W hW
          obtain ⟨hW0, hW1⟩ := hW
          go_simp
          try with_reducible rfl
        try simp only [Act.put, List.getElem_toArray, List.getElem_cons_succ, List.getElem_cons_zero, List.setIfInBounds_toArray, List.set_cons_zero, List.set_cons_succ]
        refine wpAnyU_one 4 (by kernel_rfl) rfl (fun K hK => ?_)
        refine step_call rfl 67 Tryz.f67 Tryz.func67 (by kernel_rfl) (by kernel_rfl) _ _ rfl #[.slice A items.length c] (by simp [Act.eval]) ?_
        refine (clone_ok w0 w2 _ hm2 A items.length c items hx2 (by omega)).mono ?_
        rintro e w3 ⟨A3, c3, rfl, hm3⟩
        refine ⟨_, rfl, ?_⟩
        refine hK _ _ (fun _ => ⟨hm3.cell m1 1 rfl, hm3.cell m1 3 rfl⟩) ?_
        clear hK K hS hm2 hx2
        try simp only [Act.put, List.getElem_toArray, List.getElem_cons_succ, List.getElem_cons_zero, List.setIfInBounds_toArray, List.set_cons_zero, List.set_cons_succ]
        have hS : w3.cell? ⟨gb, 1, none⟩ = some (.slice A items.length c) ∧ w3.cell? ⟨gb, 3, none⟩ = some (.int .i64 fn) := ⟨hm3.cell m1 1 rfl, hm3.cell m1 3 rfl⟩
        refine wpAnyU_take 5 (v := ?vmt55x5) rfl (by kernel_rfl) (by kernel_rfl) (fun _ _ _ h => h) hS (Or.inl ⟨rfl, ?ymt55x5⟩) ?rmt55x5
        case ymt55x5 =>
          intro W hW
          obtain ⟨hW0, hW1⟩ := hW
          go_simp
          try with_reducible rfl
        try simp only [Act.put, List.getElem_toArray, List.getElem_cons_succ, List.getElem_cons_zero, List.setIfInBounds_toArray, List.set_cons_zero, List.set_cons_succ]
        refine wpAnyU_take 9 (v := ?vmt56x9) rfl (by kernel_rfl) (by kernel_rfl) (fun _ _ _ h => h) hS (Or.inl ⟨rfl, ?ymt56x9⟩) ?rmt56x9
        case ymt56x9 =>
          intro W hW
          obtain ⟨hW0, hW1⟩ := hW
          go_simp
          try with_reducible rfl
        try simp only [Act.put, List.getElem_toArray, List.getElem_cons_succ, List.getElem_cons_zero, List.setIfInBounds_toArray, List.set_cons_zero, List.set_cons_succ]
        refine wpAnyU_take 10 (v := ?vmt57x10) rfl (by kernel_rfl) (by kernel_rfl) (fun _ _ _ h => h) hS (Or.inl ⟨rfl, ?ymt57x10⟩) ?rmt57x10
        case ymt57x10 =>
          intro W hW
          obtain ⟨hW0, hW1⟩ := hW
          go_simp
          try with_reducible rfl
        try simp only [Act.put, List.getElem_toArray, List.getElem_cons_succ, List.getElem_cons_zero, List.setIfInBounds_toArray, List.set_cons_zero, List.set_cons_succ]
        refine wpAnyU_take 11 (v := ?vmt58x11) rfl (by kernel_rfl) (by kernel_rfl) (fun _ _ _ h => h) hS (Or.inl ⟨rfl, ?ymt58x11⟩) ?rmt58x11
        case ymt58x11 =>
          intro W hW
          obtain ⟨hW0, hW1⟩ := hW
          go_simp
          try with_reducible rfl
        try simp only [Act.put, List.getElem_toArray, List.getElem_cons_succ, List.getElem_cons_zero, List.setIfInBounds_toArray, List.set_cons_zero, List.set_cons_succ]
        refine wpAnyU_one 6 (by kernel_rfl) rfl (fun K hK => ?_)
        go_simp
        have hm4 := hm3.alloc (.cells [.int .i64 fn, .slice A3 items.length c3].toArray 119)
        generalize hg4 : w3.heap.size = g4 at hm4 ⊢
        generalize hw4 : w3.alloc (.cells [.int .i64 fn, .slice A3 items.length c3].toArray 119) = w4 at hm4 ⊢
        refine hK _ _ (fun _ => ⟨hm4.cell m2 1 rfl, hm4.cell m2 3 rfl⟩) ?_
        clear hK K hS hm3 hg4 hw4
        try simp only [Act.put, List.getElem_toArray, List.getElem_cons_succ, List.getElem_cons_zero, List.setIfInBounds_toArray, List.set_cons_zero, List.set_cons_succ]
        have hS : w4.cell? ⟨gb, 1, none⟩ = some (.slice A items.length c) ∧ w4.cell? ⟨gb, 3, none⟩ = some (.int .i64 fn) := ⟨hm4.cell m2 1 rfl, hm4.cell m2 3 rfl⟩
        refine wpAnyU_take 7 (v := ?vmt59x7) rfl (by kernel_rfl) (by kernel_rfl) (fun _ _ _ h => h) hS (Or.inl ⟨rfl, ?ymt59x7⟩) ?rmt59x7
        case ymt59x7 =>
          intro W hW
          obtain ⟨hW0, hW1⟩ := hW
          go_simp
          try with_reducible rfl
        try simp only [Act.put, List.getElem_toArray, List.getElem_cons_succ, List.getElem_cons_zero, List.setIfInBounds_toArray, List.set_cons_zero, List.set_cons_succ]
        refine wpAnyU_take 12 (v := ?vmt60x12) rfl (by kernel_rfl) (by kernel_rfl) (fun _ _ _ h => h) hS (Or.inl ⟨rfl, ?ymt60x12⟩) ?rmt60x12
        case ymt60x12 =>
          intro W hW
          obtain ⟨hW0, hW1⟩ := hW
          go_simp
          try with_reducible rfl
        try simp only [Act.put, List.getElem_toArray, List.getElem_cons_succ, List.getElem_cons_zero, List.setIfInBounds_toArray, List.set_cons_zero, List.set_cons_succ]
        refine wpAnyU_one 13 (by kernel_rfl) rfl (fun K hK => ?_)
        go_simp
        refine hK _ _ (fun h => absurd h (by decide)) ?_
        clear hK K hS
        try simp only [Act.put, List.getElem_toArray, List.getElem_cons_succ, List.getElem_cons_zero, List.setIfInBounds_toArray, List.set_cons_zero, List.set_cons_succ]
        refine wpAnyU_done (by kernel_rfl) ?_ _
        go_wp2
        go_ret2
        exact .inr ⟨hmb.out, _, rfl, hm4.tail.tail.tail⟩
      | true =>
        have hmb := Fact.mk hM
        have hob : Fact ((⟨8, items, keys, fn, cap, sh⟩ : Ob) = ⟨8, items, [], fn, 0, false⟩) := ⟨by
          have h := hop.symm
          simp only [Bool.and_eq_true, beq_iff_eq, Bool.not_eq_true'] at h
          rw [h.1, h.2, List.eq_nil_of_length_eq_zero qk]⟩
        clear hM hop
        have qk' : ((keys.length : Int) == 0) = true := beq_iff_eq.2 (by omega)
        rw [qk']
        clear qk'
        go_upto_region 7 with (fail)
        clear c0
        have hm2 := hm1.drew
        have hx2 := Fact.mk (hx1.out.gr (Gr.refl w1).drew)
        clear hm1 hx1
        have hS : w1.drew.cell? ⟨gb, 1, none⟩ = some (.slice A items.length c) ∧ w1.drew.cell? ⟨gb, 3, none⟩ = some (.int .i64 fn) := ⟨hm2.cell m0 1 rfl, hm2.cell m0 3 rfl⟩
        refine wp_region_until (S := fun W => W.cell? ⟨gb, 1, none⟩ = some (.slice A items.length c) ∧ W.cell? ⟨gb, 3, none⟩ = some (.int .i64 fn)) 13 (by kernel_rfl) ?_
        generalize w1.drew = w2 at hm2 hx2 hS ⊢
        refine wpAnyU_take 0 (v := ?vmt61x0) rfl (by kernel_rfl) (by kernel_rfl) (fun _ _ _ h => h) hS (Or.inl ⟨rfl, ?ymt61x0⟩) ?rmt61x0
        case ymt61x0 =>
          intro W hW
          obtain ⟨hW0, hW1⟩ := hW
          go_simp
          try with_reducible rfl
        try simp only [Act.put, List.getElem_toArray, List.getElem_cons_succ, List.getElem_cons_zero, List.setIfInBounds_toArray, List.set_cons_zero, List.set_cons_succ]
        refine wpAnyU_take 1 (v := ?vmt62x1) rfl (by kernel_rfl) (by kernel_rfl) (fun _ _ _ h => h) hS (Or.inl ⟨rfl, ?ymt62x1⟩) ?rmt62x1
        case ymt62x1 =>
          intro W hW
          obtain ⟨hW0, hW1⟩ := hW
          go_simp
          try with_reducible rfl
        try simp only [Act.put, List.getElem_toArray, List.getElem_cons_succ, List.getElem_cons_zero, List.setIfInBounds_toArray, List.set_cons_zero, List.set_cons_succ]
        refine wpAnyU_take 2 (v := ?vmt63x2) rfl (by kernel_rfl) (by kernel_rfl) (fun _ _ _ h => h) hS (Or.inl ⟨rfl, ?ymt63x2⟩) ?rmt63x2
        case ymt63x2 =>
          intro W hW
          obtain ⟨hW0, hW1⟩ := hW
          go_simp
          try with_reducible rfl
        try simp only [Act.put, List.getElem_toArray, List.getElem_cons_succ, List.getElem_cons_zero, List.setIfInBounds_toArray, List.set_cons_zero, List.set_cons_succ]
        refine wpAnyU_take 3 (v := ?vmt64x3) rfl (by kernel_rfl) (by kernel_rfl) (fun _ _ _ h => h) hS (Or.inl ⟨rfl, ?ymt64x3⟩) ?rmt64x3
        case ymt64x3 =>
          intro W hW
          obtain ⟨hW0, hW1⟩ := hW
          go_simp
          try with_reducible rfl
        try simp only [Act.put, List.getElem_toArray, List.getElem_cons_succ, List.getElem_cons_zero, List.setIfInBounds_toArray, List.set_cons_zero, List.set_cons_succ]
        refine wpAnyU_take 8 (v := ?vmt65x8) rfl (by kernel_rfl) (by kernel_rfl) (fun _ _ _ h => h) hS (Or.inl ⟨rfl, ?ymt65x8⟩) ?rmt65x8
        case ymt65x8 =>
          intro W hW
          obtain ⟨hW0, hW1⟩ := hW
          go_simp
          try with_reducible rfl
        try simp only [Act.put, List.getElem_toArray, List.getElem_cons_succ, List.getElem_cons_zero, List.setIfInBounds_toArray, List.set_cons_zero, List.set_cons_succ]
        refine wpAnyU_one 4 (by kernel_rfl) rfl (fun K hK => ?_)
        refine step_call rfl 67 Tryz.f67 Tryz.func67 (by kernel_rfl) (by kernel_rfl) _ _ rfl #[.slice A items.length c] (by simp [Act.eval]) ?_
        refine (clone_ok w0 w2 _ hm2 A items.length c items hx2 (by omega)).mono ?_
        rintro e w3 ⟨A3, c3, rfl, hm3⟩
        refine ⟨_, rfl, ?_⟩
        refine hK _ _ (fun _ => ⟨hm3.cell m1 1 rfl, hm3.cell m1 3 rfl⟩) ?_
        clear hK K hS hm2 hx2
        try simp only [Act.put, List.getElem_toArray, List.getElem_cons_succ, List.getElem_cons_zero, List.setIfInBounds_toArray, List.set_cons_zero, List.set_cons_succ]
        have hS : w3.cell? ⟨gb, 1, none⟩ = some (.slice A items.length c) ∧ w3.cell? ⟨gb, 3, none⟩ = some (.int .i64 fn) := ⟨hm3.cell m1 1 rfl, hm3.cell m1 3 rfl⟩
        refine wpAnyU_take 5 (v := ?vmt66x5) rfl (by kernel_rfl) (by kernel_rfl) (fun _ _ _ h => h) hS (Or.inl ⟨rfl, ?ymt66x5⟩) ?rmt66x5
        case ymt66x5 =>
          intro W hW
          obtain ⟨hW0, hW1⟩ := hW
          go_simp
          try with_reducible rfl
        try simp only [Act.put, List.getElem_toArray, List.getElem_cons_succ, List.getElem_cons_zero, List.setIfInBounds_toArray, List.set_cons_zero, List.set_cons_succ]
        refine wpAnyU_take 9 (v := ?vmt67x9) rfl (by kernel_rfl) (by kernel_rfl) (fun _ _ _ h => h) hS (Or.inl ⟨rfl, ?ymt67x9⟩) ?rmt67x9
        case ymt67x9 =>
          intro W hW
          obtain ⟨hW0, hW1⟩ := hW
          go_simp
          try with_reducible rfl
        try simp only [Act.put, List.getElem_toArray, List.getElem_cons_succ, List.getElem_cons_zero, List.setIfInBounds_toArray, List.set_cons_zero, List.set_cons_succ]
        refine wpAnyU_take 10 (v := ?vmt68x10) rfl (by kernel_rfl) (by kernel_rfl) (fun _ _ _ h => h) hS (Or.inl ⟨rfl, ?ymt68x10⟩) ?rmt68x10
        case ymt68x10 =>
          intro W hW
          obtain ⟨hW0, hW1⟩ := hW
          go_simp
          try with_reducible rfl
        try simp only [Act.put, List.getElem_toArray, List.getElem_cons_succ, List.getElem_cons_zero, List.setIfInBounds_toArray, List.set_cons_zero, List.set_cons_succ]
        refine wpAnyU_take 11 (v := ?vmt69x11) rfl (by kernel_rfl) (by kernel_rfl) (fun _ _ _ h => h) hS (Or.inl ⟨rfl, ?ymt69x11⟩) ?rmt69x11
        case ymt69x11 =>
          intro W hW
          obtain ⟨hW0, hW1⟩ := hW
          go_simp
          try with_reducible rfl
        try simp only [Act.put, List.getElem_toArray, List.getElem_cons_succ, List.getElem_cons_zero, List.setIfInBounds_toArray, List.set_cons_zero, List.set_cons_succ]
        refine wpAnyU_one 6 (by kernel_rfl) rfl (fun K hK => ?_)
        go_simp
        have hm4 := hm3.alloc (.cells [.int .i64 fn, .slice A3 items.length c3].toArray 119)
        generalize hg4 : w3.heap.size = g4 at hm4 ⊢
        generalize hw4 : w3.alloc (.cells [.int .i64 fn, .slice A3 items.length c3].toArray 119) = w4 at hm4 ⊢
        refine hK _ _ (fun _ => ⟨hm4.cell m2 1 rfl, hm4.cell m2 3 rfl⟩) ?_
        clear hK K hS hm3 hg4 hw4
        try simp only [Act.put, List.getElem_toArray, List.getElem_cons_succ, List.getElem_cons_zero, List.setIfInBounds_toArray, List.set_cons_zero, List.set_cons_succ]
        have hS : w4.cell? ⟨gb, 1, none⟩ = some (.slice A items.length c) ∧ w4.cell? ⟨gb, 3, none⟩ = some (.int .i64 fn) := ⟨hm4.cell m2 1 rfl, hm4.cell m2 3 rfl⟩
        refine wpAnyU_take 7 (v := ?vmt70x7) rfl (by kernel_rfl) (by kernel_rfl) (fun _ _ _ h => h) hS (Or.inl ⟨rfl, ?ymt70x7⟩) ?rmt70x7
        case ymt70x7 =>
          intro W hW
          obtain ⟨hW0, hW1⟩ := hW
          go_simp
          try with_reducible rfl
        try simp only [Act.put, List.getElem_toArray, List.getElem_cons_succ, List.getElem_cons_zero, List.setIfInBounds_toArray, List.set_cons_zero, List.set_cons_succ]
        refine wpAnyU_take 12 (v := ?vmt71x12) rfl (by kernel_rfl) (by kernel_rfl) (fun _ _ _ h => h) hS (Or.inl ⟨rfl, ?ymt71x12⟩) ?rmt71x12
        case ymt71x12 =>
          intro W hW
          obtain ⟨hW0, hW1⟩ := hW
          go_simp
          try with_reducible rfl
        try simp only [Act.put, List.getElem_toArray, List.getElem_cons_succ, List.getElem_cons_zero, List.setIfInBounds_toArray, List.set_cons_zero, List.set_cons_succ]
        refine wpAnyU_one 13 (by kernel_rfl) rfl (fun K hK => ?_)
        go_simp
        refine hK _ _ (fun h => absurd h (by decide)) ?_
        clear hK K hS
        try simp only [Act.put, List.getElem_toArray, List.getElem_cons_succ, List.getElem_cons_zero, List.setIfInBounds_toArray, List.set_cons_zero, List.set_cons_succ]
        refine wpAnyU_done (by kernel_rfl) ?_ _
        go_wp2
        go_ret2
        rw [hob.out]
        refine .inl ⟨by rw [← hob.out]; exact hmb.out, mkT g4 A3 items.length c3 8 items fn 0, rfl, mkT_ok _ _ _ _ (.inr (.inr (.inl rfl))) hi (fun h => absurd rfl h) (fun h => rfl), rfl, ?_⟩
        exact mkT_mem g4 A3 items.length c3 8 items fn 0 [.int .i64 fn, .slice A3 items.length c3] 119 rfl rfl (hm4.sub (List.Sublist.cons_cons _ (List.Sublist.cons_cons _ (List.sublist_cons_self _ _))))
    · rw [beq_eq_false_iff_ne.2 qk, Bool.false_and] at hM
      have hmb := Fact.mk hM
      clear hM hop
      have qk' : ((keys.length : Int) == 0) = false := beq_eq_false_iff_ne.2 (by omega)
      rw [qk']
      clear qk'
      go_upto_region 7 with (fail)
      clear c0
      have hm2 := hm1.drew
      have hx2 := Fact.mk (hx1.out.gr (Gr.refl w1).drew)
      clear hm1 hx1
      have hS : w1.drew.cell? ⟨gb, 1, none⟩ = some (.slice A items.length c) ∧ w1.drew.cell? ⟨gb, 3, none⟩ = some (.int .i64 fn) := ⟨hm2.cell m0 1 rfl, hm2.cell m0 3 rfl⟩
      refine wp_region_until (S := fun W => W.cell? ⟨gb, 1, none⟩ = some (.slice A items.length c) ∧ W.cell? ⟨gb, 3, none⟩ = some (.int .i64 fn)) 13 (by kernel_rfl) ?_
      generalize w1.drew = w2 at hm2 hx2 hS ⊢
      refine wpAnyU_take 0 (v := ?vmt72x0) rfl (by kernel_rfl) (by kernel_rfl) (fun _ _ _ h => h) hS (Or.inl ⟨rfl, ?ymt72x0⟩) ?rmt72x0
      case ymt72x0 =>
        intro W hW
        obtain ⟨hW0, hW1⟩ := hW
        go_simp
        try with_reducible rfl
      try simp only [Act.put, List.getElem_toArray, List.getElem_cons_succ, List.getElem_cons_zero, List.setIfInBounds_toArray, List.set_cons_zero, List.set_cons_succ]
      refine wpAnyU_take 1 (v := ?vmt73x1) rfl (by kernel_rfl) (by kernel_rfl) (fun _ _ _ h => h) hS (Or.inl ⟨rfl, ?ymt73x1⟩) ?rmt73x1
      case ymt73x1 =>
        intro W hW
        obtain ⟨hW0, hW1⟩ := hW
        go_simp
        try with_reducible rfl
      try simp only [Act.put, List.getElem_toArray, List.getElem_cons_succ, List.getElem_cons_zero, List.setIfInBounds_toArray, List.set_cons_zero, List.set_cons_succ]
      refine wpAnyU_take 2 (v := ?vmt74x2) rfl (by kernel_rfl) (by kernel_rfl) (fun _ _ _ h => h) hS (Or.inl ⟨rfl, ?ymt74x2⟩) ?rmt74x2
      case ymt74x2 =>
        intro W hW
        obtain ⟨hW0, hW1⟩ := hW
        go_simp
        try with_reducible rfl
      try simp only [Act.put, List.getElem_toArray, List.getElem_cons_succ, List.getElem_cons_zero, List.setIfInBounds_toArray, List.set_cons_zero, List.set_cons_succ]
      refine wpAnyU_take 3 (v := ?vmt75x3) rfl (by kernel_rfl) (by kernel_rfl) (fun _ _ _ h => h) hS (Or.inl ⟨rfl, ?ymt75x3⟩) ?rmt75x3
      case ymt75x3 =>
        intro W hW
        obtain ⟨hW0, hW1⟩ := hW
        go_simp
        try with_reducible rfl
      try simp only [Act.put, List.getElem_toArray, List.getElem_cons_succ, List.getElem_cons_zero, List.setIfInBounds_toArray, List.set_cons_zero, List.set_cons_succ]
      refine wpAnyU_take 8 (v := ?vmt76x8) rfl (by kernel_rfl) (by kernel_rfl) (fun _ _ _ h => h) hS (Or.inl ⟨rfl, ?ymt76x8⟩) ?rmt76x8
      case ymt76x8 =>
        intro W hW
        obtain ⟨hW0, hW1⟩ := hW
        go_simp
        try with_reducible rfl
      try simp only [Act.put, List.getElem_toArray, List.getElem_cons_succ, List.getElem_cons_zero, List.setIfInBounds_toArray, List.set_cons_zero, List.set_cons_succ]
      refine wpAnyU_one 4 (by kernel_rfl) rfl (fun K hK => ?_)
      refine step_call rfl 67 Tryz.f67 Tryz.func67 (by kernel_rfl) (by kernel_rfl) _ _ rfl #[.slice A items.length c] (by simp [Act.eval]) ?_
      refine (clone_ok w0 w2 _ hm2 A items.length c items hx2 (by omega)).mono ?_
      rintro e w3 ⟨A3, c3, rfl, hm3⟩
      refine ⟨_, rfl, ?_⟩
      refine hK _ _ (fun _ => ⟨hm3.cell m1 1 rfl, hm3.cell m1 3 rfl⟩) ?_
      clear hK K hS hm2 hx2
      try simp only [Act.put, List.getElem_toArray, List.getElem_cons_succ, List.getElem_cons_zero, List.setIfInBounds_toArray, List.set_cons_zero, List.set_cons_succ]
      have hS : w3.cell? ⟨gb, 1, none⟩ = some (.slice A items.length c) ∧ w3.cell? ⟨gb, 3, none⟩ = some (.int .i64 fn) := ⟨hm3.cell m1 1 rfl, hm3.cell m1 3 rfl⟩
      refine wpAnyU_take 5 (v := ?vmt77x5) rfl (by kernel_rfl) (by kernel_rfl) (fun _ _ _ h => h) hS (Or.inl ⟨rfl, ?ymt77x5⟩) ?rmt77x5
      case ymt77x5 =>
        intro W hW
        obtain ⟨hW0, hW1⟩ := hW
        go_simp
        try with_reducible rfl
      try simp only [Act.put, List.getElem_toArray, List.getElem_cons_succ, List.getElem_cons_zero, List.setIfInBounds_toArray, List.set_cons_zero, List.set_cons_succ]
      refine wpAnyU_take 9 (v := ?vmt78x9) rfl (by kernel_rfl) (by kernel_rfl) (fun _ _ _ h => h) hS (Or.inl ⟨rfl, ?ymt78x9⟩) ?rmt78x9
      case ymt78x9 =>
        intro W hW
        obtain ⟨hW0, hW1⟩ := hW
        go_simp
        try with_reducible rfl
      try simp only [Act.put, List.getElem_toArray, List.getElem_cons_succ, List.getElem_cons_zero, List.setIfInBounds_toArray, List.set_cons_zero, List.set_cons_succ]
      refine wpAnyU_take 10 (v := undef) rfl (by kernel_rfl) (by kernel_rfl) (fun _ _ _ h => h) hS (Or.inr ⟨rfl, rfl⟩) ?roff7810
      try simp only [Act.put, List.getElem_toArray, List.getElem_cons_succ, List.getElem_cons_zero, List.setIfInBounds_toArray, List.set_cons_zero, List.set_cons_succ]
      refine wpAnyU_take 11 (v := ?vmt79x11) rfl (by kernel_rfl) (by kernel_rfl) (fun _ _ _ h => h) hS (Or.inl ⟨rfl, ?ymt79x11⟩) ?rmt79x11
      case ymt79x11 =>
        intro W hW
        obtain ⟨hW0, hW1⟩ := hW
        go_simp
        try with_reducible rfl
      try simp only [Act.put, List.getElem_toArray, List.getElem_cons_succ, List.getElem_cons_zero, List.setIfInBounds_toArray, List.set_cons_zero, List.set_cons_succ]
      refine wpAnyU_one 6 (by kernel_rfl) rfl (fun K hK => ?_)
      go_simp
      have hm4 := hm3.alloc (.cells [.int .i64 fn, .slice A3 items.length c3].toArray 119)
      generalize hg4 : w3.heap.size = g4 at hm4 ⊢
      generalize hw4 : w3.alloc (.cells [.int .i64 fn, .slice A3 items.length c3].toArray 119) = w4 at hm4 ⊢
      refine hK _ _ (fun _ => ⟨hm4.cell m2 1 rfl, hm4.cell m2 3 rfl⟩) ?_
      clear hK K hS hm3 hg4 hw4
      try simp only [Act.put, List.getElem_toArray, List.getElem_cons_succ, List.getElem_cons_zero, List.setIfInBounds_toArray, List.set_cons_zero, List.set_cons_succ]
      have hS : w4.cell? ⟨gb, 1, none⟩ = some (.slice A items.length c) ∧ w4.cell? ⟨gb, 3, none⟩ = some (.int .i64 fn) := ⟨hm4.cell m2 1 rfl, hm4.cell m2 3 rfl⟩
      refine wpAnyU_take 7 (v := ?vmt80x7) rfl (by kernel_rfl) (by kernel_rfl) (fun _ _ _ h => h) hS (Or.inl ⟨rfl, ?ymt80x7⟩) ?rmt80x7
      case ymt80x7 =>
        intro W hW
        obtain ⟨hW0, hW1⟩ := hW
        go_simp
        try with_reducible rfl
      try simp only [Act.put, List.getElem_toArray, List.getElem_cons_succ, List.getElem_cons_zero, List.setIfInBounds_toArray, List.set_cons_zero, List.set_cons_succ]
      refine wpAnyU_take 12 (v := ?vmt81x12) rfl (by kernel_rfl) (by kernel_rfl) (fun _ _ _ h => h) hS (Or.inl ⟨rfl, ?ymt81x12⟩) ?rmt81x12
      case ymt81x12 =>
        intro W hW
        obtain ⟨hW0, hW1⟩ := hW
        go_simp
        try with_reducible rfl
      try simp only [Act.put, List.getElem_toArray, List.getElem_cons_succ, List.getElem_cons_zero, List.setIfInBounds_toArray, List.set_cons_zero, List.set_cons_succ]
      refine wpAnyU_one 13 (by kernel_rfl) rfl (fun K hK => ?_)
      go_simp
      refine hK _ _ (fun h => absurd h (by decide)) ?_
      clear hK K hS
      try simp only [Act.put, List.getElem_toArray, List.getElem_cons_succ, List.getElem_cons_zero, List.setIfInBounds_toArray, List.set_cons_zero, List.set_cons_succ]
      refine wpAnyU_done (by kernel_rfl) ?_ _
      go_wp2
      go_ret2
      exact .inr ⟨hmb.out, _, rfl, hm4.tail.tail.tail⟩
theorem chanT_mem {w0 w : World} {M : List Chunk} (g : Nat) (A : Option Addr) (n c : Nat) (items : List V2) (cap : Int) (sh : Bool)
    (hm : Mem w0 w (Blk g (.cells [.int .i64 cap, .slice A n c, .bool sh].toArray 129) :: Own 2 (.slice A n c) (fV items) :: M)) : Mem w0 w (ThC ⟨g, A, n, c, none, 0, 0, none, ⟨9, items, [], 0, cap, sh⟩⟩ :: M) := by
  have h1 := (Mem.mapnil hm).nil 1 none
  have h2 : Mem w0 w (Th.chunks ⟨g, A, n, c, none, 0, 0, none, ⟨9, items, [], 0, cap, sh⟩⟩ ++ M) := by
    refine h1.perm ?_
    exact (List.perm_append_comm (l₁ := [Own 1 (.slice none 0 0) (nums .i64 []), MapC none []]) (l₂ := [Blk g (.cells [.int .i64 cap, .slice A n c, .bool sh].toArray 129), Own 2 (.slice A n c) (fV items)])).append_right M
  exact Mem.sht _ h2
theorem madeC_ok (w0 w : World) (L : List Chunk) (hm : Mem w0 w L) (A : Option Addr) (c : Nat) (KA : Option Addr) (kc : Nat) (items : List V2) (keys : List Int) (fn cap : Int) (sh : Bool) (hx : Fact (RdC w 2 (.slice A items.length c) (fV items))) (hi : items.length ≤ 1048576) (hkn : keys.length ≤ 1048576) (op : Bool) (hop : op = (cap == 0 && !sh)) :
    Calls Tryz.prog 50 #[.agg (obC 9 A items.length c KA keys.length kc fn cap sh).toArray] w fun e w' => MadeQ w0 L ⟨9, items, keys, fn, cap, sh⟩ e w' := by
  have hM : madeB ⟨9, items, keys, fn, cap, sh⟩ = ((keys.length == 0) && (fn == 0)) := rfl
  go_enter Tryz.func50, Tryz.ntmps50
  go_upto_region 1 with (fail)
  have hm1 := hm.alloc (.cells (obC 9 A items.length c KA keys.length kc fn cap sh).toArray 41)
  have hx1 := Fact.mk (hx.out.gr ((Gr.refl w).alloc (.cells (obC 9 A items.length c KA keys.length kc fn cap sh).toArray 41)))
  generalize hgb : w.heap.size = gb at hm1 ⊢
  generalize hw1 : w.alloc (.cells (obC 9 A items.length c KA keys.length kc fn cap sh).toArray 41) = w1 at hm1 hx1
  try refine wp_world hw1 ?_
  clear hw1 hgb hx
  have c0 := hm1.cell m0 0 rfl
  have c2 := hm1.cell m0 2 rfl
  have c4 := hm1.cell m0 4 rfl
  have c5 := hm1.cell m0 5 rfl
  go_upto_region 2 with (fail)
  go_cut [5] (fun s5 W => s5 = .bool op ∧ W = w1)
  case first =>
    by_cases qc : cap = 0
    · have qc' : (cap == 0) = true := beq_iff_eq.2 qc
      rw [qc', Bool.true_and] at hop
      clear qc
      subst hop
      go_wp2
      go_meet
      case rel => exact ⟨rfl, rfl⟩
    · have qc' : (cap == 0) = false := beq_eq_false_iff_ne.2 qc
      rw [qc', Bool.false_and] at hop
      clear qc
      subst hop
      go_wp2
      go_meet
      case rel => exact ⟨rfl, rfl⟩
  case rest =>
    obtain ⟨rfl, hwc⟩ := hcut
    rw [hwc]
    clear hwc c4 c5 c2
    clear hop
    by_cases qk : keys.length = 0
    · rw [beq_iff_eq.2 qk, Bool.true_and] at hM
      by_cases qf : fn = 0
      · rw [beq_iff_eq.2 qf] at hM
        have hmb := Fact.mk hM
        have hob : Fact ((⟨9, items, keys, fn, cap, sh⟩ : Ob) = ⟨9, items, [], 0, cap, sh⟩) := ⟨by rw [qf, List.eq_nil_of_length_eq_zero qk]⟩
        have qf' : (fn == 0) = true := beq_iff_eq.2 qf
        clear qf hM
        have qk' : ((keys.length : Int) == 0) = true := beq_iff_eq.2 (by omega)
        rw [qk']
        clear qk'
        go_upto_region 9 with (fail)
        clear c0
        have hm2 := hm1.drew
        have hx2 := Fact.mk (hx1.out.gr (Gr.refl w1).drew)
        clear hm1 hx1
        have hS : w1.drew.cell? ⟨gb, 1, none⟩ = some (.slice A items.length c) ∧ w1.drew.cell? ⟨gb, 3, none⟩ = some (.int .i64 fn) ∧ w1.drew.cell? ⟨gb, 4, none⟩ = some (.int .i64 cap) ∧ w1.drew.cell? ⟨gb, 5, none⟩ = some (.bool sh) := ⟨hm2.cell m0 1 rfl, hm2.cell m0 3 rfl, hm2.cell m0 4 rfl, hm2.cell m0 5 rfl⟩
        refine wp_region_until (S := fun W => W.cell? ⟨gb, 1, none⟩ = some (.slice A items.length c) ∧ W.cell? ⟨gb, 3, none⟩ = some (.int .i64 fn) ∧ W.cell? ⟨gb, 4, none⟩ = some (.int .i64 cap) ∧ W.cell? ⟨gb, 5, none⟩ = some (.bool sh)) 17 (by kernel_rfl) ?_
        generalize w1.drew = w2 at hm2 hx2 hS ⊢
        refine wpAnyU_take 0 (v := ?vmt82x0) rfl (by kernel_rfl) (by kernel_rfl) (fun _ _ _ h => h) hS (Or.inl ⟨rfl, ?ymt82x0⟩) ?rmt82x0
        case ymt82x0 =>
          intro W hW
          obtain ⟨hW0, hW1, hW2, hW3⟩ := hW
          go_simp
          try with_reducible rfl
        try simp only [Act.put, List.getElem_toArray, List.getElem_cons_succ, List.getElem_cons_zero, List.setIfInBounds_toArray, List.set_cons_zero, List.set_cons_succ]
        refine wpAnyU_take 1 (v := ?vmt83x1) rfl (by kernel_rfl) (by kernel_rfl) (fun _ _ _ h => h) hS (Or.inl ⟨rfl, ?ymt83x1⟩) ?rmt83x1
        case ymt83x1 =>
          intro W hW
          obtain ⟨hW0, hW1, hW2, hW3⟩ := hW
          go_simp
          try with_reducible rfl
        try simp only [Act.put, List.getElem_toArray, List.getElem_cons_succ, List.getElem_cons_zero, List.setIfInBounds_toArray, List.set_cons_zero, List.set_cons_succ]
        refine wpAnyU_take 2 (v := ?vmt84x2) rfl (by kernel_rfl) (by kernel_rfl) (fun _ _ _ h => h) hS (Or.inl ⟨rfl, ?ymt84x2⟩) ?rmt84x2
        case ymt84x2 =>
          intro W hW
          obtain ⟨hW0, hW1, hW2, hW3⟩ := hW
          go_simp
          try with_reducible rfl
        try simp only [Act.put, List.getElem_toArray, List.getElem_cons_succ, List.getElem_cons_zero, List.setIfInBounds_toArray, List.set_cons_zero, List.set_cons_succ]
        refine wpAnyU_take 3 (v := ?vmt85x3) rfl (by kernel_rfl) (by kernel_rfl) (fun _ _ _ h => h) hS (Or.inl ⟨rfl, ?ymt85x3⟩) ?rmt85x3
        case ymt85x3 =>
          intro W hW
          obtain ⟨hW0, hW1, hW2, hW3⟩ := hW
          go_simp
          try with_reducible rfl
        try simp only [Act.put, List.getElem_toArray, List.getElem_cons_succ, List.getElem_cons_zero, List.setIfInBounds_toArray, List.set_cons_zero, List.set_cons_succ]
        refine wpAnyU_take 5 (v := ?vmt86x5) rfl (by kernel_rfl) (by kernel_rfl) (fun _ _ _ h => h) hS (Or.inl ⟨rfl, ?ymt86x5⟩) ?rmt86x5
        case ymt86x5 =>
          intro W hW
          obtain ⟨hW0, hW1, hW2, hW3⟩ := hW
          go_simp
          try with_reducible rfl
        try simp only [Act.put, List.getElem_toArray, List.getElem_cons_succ, List.getElem_cons_zero, List.setIfInBounds_toArray, List.set_cons_zero, List.set_cons_succ]
        refine wpAnyU_take 6 (v := ?vmt87x6) rfl (by kernel_rfl) (by kernel_rfl) (fun _ _ _ h => h) hS (Or.inl ⟨rfl, ?ymt87x6⟩) ?rmt87x6
        case ymt87x6 =>
          intro W hW
          obtain ⟨hW0, hW1, hW2, hW3⟩ := hW
          go_simp
          try with_reducible rfl
        try simp only [Act.put, List.getElem_toArray, List.getElem_cons_succ, List.getElem_cons_zero, List.setIfInBounds_toArray, List.set_cons_zero, List.set_cons_succ]
        refine wpAnyU_take 10 (v := ?vmt88x10) rfl (by kernel_rfl) (by kernel_rfl) (fun _ _ _ h => h) hS (Or.inl ⟨rfl, ?ymt88x10⟩) ?rmt88x10
        case ymt88x10 =>
          intro W hW
          obtain ⟨hW0, hW1, hW2, hW3⟩ := hW
          go_simp
          try with_reducible rfl
        try simp only [Act.put, List.getElem_toArray, List.getElem_cons_succ, List.getElem_cons_zero, List.setIfInBounds_toArray, List.set_cons_zero, List.set_cons_succ]
        refine wpAnyU_one 4 (by kernel_rfl) rfl (fun K hK => ?_)
        refine step_call rfl 67 Tryz.f67 Tryz.func67 (by kernel_rfl) (by kernel_rfl) _ _ rfl #[.slice A items.length c] (by simp [Act.eval]) ?_
        refine (clone_ok w0 w2 _ hm2 A items.length c items hx2 (by omega)).mono ?_
        rintro e w3 ⟨A3, c3, rfl, hm3⟩
        refine ⟨_, rfl, ?_⟩
        refine hK _ _ (fun _ => ⟨hm3.cell m1 1 rfl, hm3.cell m1 3 rfl, hm3.cell m1 4 rfl, hm3.cell m1 5 rfl⟩) ?_
        clear hK K hS hm2 hx2
        try simp only [Act.put, List.getElem_toArray, List.getElem_cons_succ, List.getElem_cons_zero, List.setIfInBounds_toArray, List.set_cons_zero, List.set_cons_succ]
        have hS : w3.cell? ⟨gb, 1, none⟩ = some (.slice A items.length c) ∧ w3.cell? ⟨gb, 3, none⟩ = some (.int .i64 fn) ∧ w3.cell? ⟨gb, 4, none⟩ = some (.int .i64 cap) ∧ w3.cell? ⟨gb, 5, none⟩ = some (.bool sh) := ⟨hm3.cell m1 1 rfl, hm3.cell m1 3 rfl, hm3.cell m1 4 rfl, hm3.cell m1 5 rfl⟩
        refine wpAnyU_take 7 (v := ?vmt89x7) rfl (by kernel_rfl) (by kernel_rfl) (fun _ _ _ h => h) hS (Or.inl ⟨rfl, ?ymt89x7⟩) ?rmt89x7
        case ymt89x7 =>
          intro W hW
          obtain ⟨hW0, hW1, hW2, hW3⟩ := hW
          go_simp
          try with_reducible rfl
        try simp only [Act.put, List.getElem_toArray, List.getElem_cons_succ, List.getElem_cons_zero, List.setIfInBounds_toArray, List.set_cons_zero, List.set_cons_succ]
        refine wpAnyU_take 11 (v := ?vmt90x11) rfl (by kernel_rfl) (by kernel_rfl) (fun _ _ _ h => h) hS (Or.inl ⟨rfl, ?ymt90x11⟩) ?rmt90x11
        case ymt90x11 =>
          intro W hW
          obtain ⟨hW0, hW1, hW2, hW3⟩ := hW
          go_simp
          try with_reducible rfl
        try simp only [Act.put, List.getElem_toArray, List.getElem_cons_succ, List.getElem_cons_zero, List.setIfInBounds_toArray, List.set_cons_zero, List.set_cons_succ]
        refine wpAnyU_take 12 (v := ?vmt91x12) rfl (by kernel_rfl) (by kernel_rfl) (fun _ _ _ h => h) hS (Or.inl ⟨rfl, ?ymt91x12⟩) ?rmt91x12
        case ymt91x12 =>
          intro W hW
          obtain ⟨hW0, hW1, hW2, hW3⟩ := hW
          go_simp
          try with_reducible rfl
        try simp only [Act.put, List.getElem_toArray, List.getElem_cons_succ, List.getElem_cons_zero, List.setIfInBounds_toArray, List.set_cons_zero, List.set_cons_succ]
        refine wpAnyU_take 13 (v := ?vmt92x13) rfl (by kernel_rfl) (by kernel_rfl) (fun _ _ _ h => h) hS (Or.inl ⟨rfl, ?ymt92x13⟩) ?rmt92x13
        case ymt92x13 =>
          intro W hW
          obtain ⟨hW0, hW1, hW2, hW3⟩ := hW
          go_simp
          try with_reducible rfl
        try simp only [Act.put, List.getElem_toArray, List.getElem_cons_succ, List.getElem_cons_zero, List.setIfInBounds_toArray, List.set_cons_zero, List.set_cons_succ]
        refine wpAnyU_take 14 (v := ?vmt93x14) rfl (by kernel_rfl) (by kernel_rfl) (fun _ _ _ h => h) hS (Or.inl ⟨rfl, ?ymt93x14⟩) ?rmt93x14
        case ymt93x14 =>
          intro W hW
          obtain ⟨hW0, hW1, hW2, hW3⟩ := hW
          go_simp
          try with_reducible rfl
        try simp only [Act.put, List.getElem_toArray, List.getElem_cons_succ, List.getElem_cons_zero, List.setIfInBounds_toArray, List.set_cons_zero, List.set_cons_succ]
        refine wpAnyU_take 15 (v := ?vmt94x15) rfl (by kernel_rfl) (by kernel_rfl) (fun _ _ _ h => h) hS (Or.inl ⟨rfl, ?ymt94x15⟩) ?rmt94x15
        case ymt94x15 =>
          intro W hW
          obtain ⟨hW0, hW1, hW2, hW3⟩ := hW
          go_simp
          try with_reducible rfl
        try simp only [Act.put, List.getElem_toArray, List.getElem_cons_succ, List.getElem_cons_zero, List.setIfInBounds_toArray, List.set_cons_zero, List.set_cons_succ]
        refine wpAnyU_one 8 (by kernel_rfl) rfl (fun K hK => ?_)
        go_simp
        have hm4 := hm3.alloc (.cells [.int .i64 cap, .slice A3 items.length c3, .bool sh].toArray 129)
        generalize hg4 : w3.heap.size = g4 at hm4 ⊢
        generalize hw4 : w3.alloc (.cells [.int .i64 cap, .slice A3 items.length c3, .bool sh].toArray 129) = w4 at hm4 ⊢
        refine hK _ _ (fun _ => ⟨hm4.cell m2 1 rfl, hm4.cell m2 3 rfl, hm4.cell m2 4 rfl, hm4.cell m2 5 rfl⟩) ?_
        clear hK K hS hm3 hg4 hw4
        try simp only [Act.put, List.getElem_toArray, List.getElem_cons_succ, List.getElem_cons_zero, List.setIfInBounds_toArray, List.set_cons_zero, List.set_cons_succ]
        have hS : w4.cell? ⟨gb, 1, none⟩ = some (.slice A items.length c) ∧ w4.cell? ⟨gb, 3, none⟩ = some (.int .i64 fn) ∧ w4.cell? ⟨gb, 4, none⟩ = some (.int .i64 cap) ∧ w4.cell? ⟨gb, 5, none⟩ = some (.bool sh) := ⟨hm4.cell m2 1 rfl, hm4.cell m2 3 rfl, hm4.cell m2 4 rfl, hm4.cell m2 5 rfl⟩
        refine wpAnyU_take 9 (v := ?vmt95x9) rfl (by kernel_rfl) (by kernel_rfl) (fun _ _ _ h => h) hS (Or.inl ⟨rfl, ?ymt95x9⟩) ?rmt95x9
        case ymt95x9 =>
          intro W hW
          obtain ⟨hW0, hW1, hW2, hW3⟩ := hW
          go_simp
          try with_reducible rfl
        try simp only [Act.put, List.getElem_toArray, List.getElem_cons_succ, List.getElem_cons_zero, List.setIfInBounds_toArray, List.set_cons_zero, List.set_cons_succ]
        refine wpAnyU_take 16 (v := ?vmt96x16) rfl (by kernel_rfl) (by kernel_rfl) (fun _ _ _ h => h) hS (Or.inl ⟨rfl, ?ymt96x16⟩) ?rmt96x16
        case ymt96x16 =>
          intro W hW
          obtain ⟨hW0, hW1, hW2, hW3⟩ := hW
          go_simp
          try with_reducible rfl
        try simp only [Act.put, List.getElem_toArray, List.getElem_cons_succ, List.getElem_cons_zero, List.setIfInBounds_toArray, List.set_cons_zero, List.set_cons_succ]
        refine wpAnyU_one 17 (by kernel_rfl) rfl (fun K hK => ?_)
        go_simp
        refine hK _ _ (fun h => absurd h (by decide)) ?_
        clear hK K hS
        try simp only [Act.put, List.getElem_toArray, List.getElem_cons_succ, List.getElem_cons_zero, List.setIfInBounds_toArray, List.set_cons_zero, List.set_cons_succ]
        refine wpAnyU_done (by kernel_rfl) ?_ _
        go_wp2
        go_ret2
        rw [hob.out]
        refine .inl ⟨by rw [← hob.out]; exact hmb.out, ⟨g4, A3, items.length, c3, none, 0, 0, none, ⟨9, items, [], 0, cap, sh⟩⟩, rfl, ⟨.inr (.inr (.inr rfl)), hi, fun h => absurd (show (9 : Int) = 7 from h) (by decide), fun _ => rfl, List.nodup_nil, fun k hk => (nomatch hk), fun _ => rfl, fun h => absurd rfl h⟩, rfl, ?_⟩
        exact chanT_mem g4 A3 items.length c3 items cap sh (hm4.sub (List.Sublist.cons_cons _ (List.Sublist.cons_cons _ (List.sublist_cons_self _ _))))
      · rw [beq_eq_false_iff_ne.2 qf] at hM
        have hmb := Fact.mk hM
        have qf' : (fn == 0) = false := beq_eq_false_iff_ne.2 qf
        clear qf hM
        have qk' : ((keys.length : Int) == 0) = true := beq_iff_eq.2 (by omega)
        rw [qk']
        clear qk'
        go_upto_region 9 with (fail)
        clear c0
        have hm2 := hm1.drew
        have hx2 := Fact.mk (hx1.out.gr (Gr.refl w1).drew)
        clear hm1 hx1
        have hS : w1.drew.cell? ⟨gb, 1, none⟩ = some (.slice A items.length c) ∧ w1.drew.cell? ⟨gb, 3, none⟩ = some (.int .i64 fn) ∧ w1.drew.cell? ⟨gb, 4, none⟩ = some (.int .i64 cap) ∧ w1.drew.cell? ⟨gb, 5, none⟩ = some (.bool sh) := ⟨hm2.cell m0 1 rfl, hm2.cell m0 3 rfl, hm2.cell m0 4 rfl, hm2.cell m0 5 rfl⟩
        refine wp_region_until (S := fun W => W.cell? ⟨gb, 1, none⟩ = some (.slice A items.length c) ∧ W.cell? ⟨gb, 3, none⟩ = some (.int .i64 fn) ∧ W.cell? ⟨gb, 4, none⟩ = some (.int .i64 cap) ∧ W.cell? ⟨gb, 5, none⟩ = some (.bool sh)) 17 (by kernel_rfl) ?_
        generalize w1.drew = w2 at hm2 hx2 hS ⊢
        refine wpAnyU_take 0 (v := ?vmt97x0) rfl (by kernel_rfl) (by kernel_rfl) (fun _ _ _ h => h) hS (Or.inl ⟨rfl, ?ymt97x0⟩) ?rmt97x0
        case ymt97x0 =>
          intro W hW
          obtain ⟨hW0, hW1, hW2, hW3⟩ := hW
          go_simp
          try with_reducible rfl
        try simp only [Act.put, List.getElem_toArray, List.getElem_cons_succ, List.getElem_cons_zero, List.setIfInBounds_toArray, List.set_cons_zero, List.set_cons_succ]
        refine wpAnyU_take 1 (v := ?vmt98x1) rfl (by kernel_rfl) (by kernel_rfl) (fun _ _ _ h => h) hS (Or.inl ⟨rfl, ?ymt98x1⟩) ?rmt98x1
        case ymt98x1 =>
          intro W hW
          obtain ⟨hW0, hW1, hW2, hW3⟩ := hW
          go_simp
          try with_reducible rfl
        try simp only [Act.put, List.getElem_toArray, List.getElem_cons_succ, List.getElem_cons_zero, List.setIfInBounds_toArray, List.set_cons_zero, List.set_cons_succ]
        refine wpAnyU_take 2 (v := ?vmt99x2) rfl (by kernel_rfl) (by kernel_rfl) (fun _ _ _ h => h) hS (Or.inl ⟨rfl, ?ymt99x2⟩) ?rmt99x2
        case ymt99x2 =>
          intro W hW
          obtain ⟨hW0, hW1, hW2, hW3⟩ := hW
          go_simp
          try with_reducible rfl
        try simp only [Act.put, List.getElem_toArray, List.getElem_cons_succ, List.getElem_cons_zero, List.setIfInBounds_toArray, List.set_cons_zero, List.set_cons_succ]
        refine wpAnyU_take 3 (v := ?vmt100x3) rfl (by kernel_rfl) (by kernel_rfl) (fun _ _ _ h => h) hS (Or.inl ⟨rfl, ?ymt100x3⟩) ?rmt100x3
        case ymt100x3 =>
          intro W hW
          obtain ⟨hW0, hW1, hW2, hW3⟩ := hW
          go_simp
          try with_reducible rfl
        try simp only [Act.put, List.getElem_toArray, List.getElem_cons_succ, List.getElem_cons_zero, List.setIfInBounds_toArray, List.set_cons_zero, List.set_cons_succ]
        refine wpAnyU_take 5 (v := ?vmt101x5) rfl (by kernel_rfl) (by kernel_rfl) (fun _ _ _ h => h) hS (Or.inl ⟨rfl, ?ymt101x5⟩) ?rmt101x5
        case ymt101x5 =>
          intro W hW
          obtain ⟨hW0, hW1, hW2, hW3⟩ := hW
          go_simp
          try with_reducible rfl
        try simp only [Act.put, List.getElem_toArray, List.getElem_cons_succ, List.getElem_cons_zero, List.setIfInBounds_toArray, List.set_cons_zero, List.set_cons_succ]
        refine wpAnyU_take 6 (v := ?vmt102x6) rfl (by kernel_rfl) (by kernel_rfl) (fun _ _ _ h => h) hS (Or.inl ⟨rfl, ?ymt102x6⟩) ?rmt102x6
        case ymt102x6 =>
          intro W hW
          obtain ⟨hW0, hW1, hW2, hW3⟩ := hW
          go_simp
          try with_reducible rfl
        try simp only [Act.put, List.getElem_toArray, List.getElem_cons_succ, List.getElem_cons_zero, List.setIfInBounds_toArray, List.set_cons_zero, List.set_cons_succ]
        refine wpAnyU_take 10 (v := ?vmt103x10) rfl (by kernel_rfl) (by kernel_rfl) (fun _ _ _ h => h) hS (Or.inl ⟨rfl, ?ymt103x10⟩) ?rmt103x10
        case ymt103x10 =>
          intro W hW
          obtain ⟨hW0, hW1, hW2, hW3⟩ := hW
          go_simp
          try with_reducible rfl
        try simp only [Act.put, List.getElem_toArray, List.getElem_cons_succ, List.getElem_cons_zero, List.setIfInBounds_toArray, List.set_cons_zero, List.set_cons_succ]
        refine wpAnyU_one 4 (by kernel_rfl) rfl (fun K hK => ?_)
        refine step_call rfl 67 Tryz.f67 Tryz.func67 (by kernel_rfl) (by kernel_rfl) _ _ rfl #[.slice A items.length c] (by simp [Act.eval]) ?_
        refine (clone_ok w0 w2 _ hm2 A items.length c items hx2 (by omega)).mono ?_
        rintro e w3 ⟨A3, c3, rfl, hm3⟩
        refine ⟨_, rfl, ?_⟩
        refine hK _ _ (fun _ => ⟨hm3.cell m1 1 rfl, hm3.cell m1 3 rfl, hm3.cell m1 4 rfl, hm3.cell m1 5 rfl⟩) ?_
        clear hK K hS hm2 hx2
        try simp only [Act.put, List.getElem_toArray, List.getElem_cons_succ, List.getElem_cons_zero, List.setIfInBounds_toArray, List.set_cons_zero, List.set_cons_succ]
        have hS : w3.cell? ⟨gb, 1, none⟩ = some (.slice A items.length c) ∧ w3.cell? ⟨gb, 3, none⟩ = some (.int .i64 fn) ∧ w3.cell? ⟨gb, 4, none⟩ = some (.int .i64 cap) ∧ w3.cell? ⟨gb, 5, none⟩ = some (.bool sh) := ⟨hm3.cell m1 1 rfl, hm3.cell m1 3 rfl, hm3.cell m1 4 rfl, hm3.cell m1 5 rfl⟩
        refine wpAnyU_take 7 (v := ?vmt104x7) rfl (by kernel_rfl) (by kernel_rfl) (fun _ _ _ h => h) hS (Or.inl ⟨rfl, ?ymt104x7⟩) ?rmt104x7
        case ymt104x7 =>
          intro W hW
          obtain ⟨hW0, hW1, hW2, hW3⟩ := hW
          go_simp
          try with_reducible rfl
        try simp only [Act.put, List.getElem_toArray, List.getElem_cons_succ, List.getElem_cons_zero, List.setIfInBounds_toArray, List.set_cons_zero, List.set_cons_succ]
        refine wpAnyU_take 11 (v := ?vmt105x11) rfl (by kernel_rfl) (by kernel_rfl) (fun _ _ _ h => h) hS (Or.inl ⟨rfl, ?ymt105x11⟩) ?rmt105x11
        case ymt105x11 =>
          intro W hW
          obtain ⟨hW0, hW1, hW2, hW3⟩ := hW
          go_simp
          try with_reducible rfl
        try simp only [Act.put, List.getElem_toArray, List.getElem_cons_succ, List.getElem_cons_zero, List.setIfInBounds_toArray, List.set_cons_zero, List.set_cons_succ]
        refine wpAnyU_take 12 (v := ?vmt106x12) rfl (by kernel_rfl) (by kernel_rfl) (fun _ _ _ h => h) hS (Or.inl ⟨rfl, ?ymt106x12⟩) ?rmt106x12
        case ymt106x12 =>
          intro W hW
          obtain ⟨hW0, hW1, hW2, hW3⟩ := hW
          go_simp
          try with_reducible rfl
        try simp only [Act.put, List.getElem_toArray, List.getElem_cons_succ, List.getElem_cons_zero, List.setIfInBounds_toArray, List.set_cons_zero, List.set_cons_succ]
        refine wpAnyU_take 13 (v := ?vmt107x13) rfl (by kernel_rfl) (by kernel_rfl) (fun _ _ _ h => h) hS (Or.inl ⟨rfl, ?ymt107x13⟩) ?rmt107x13
        case ymt107x13 =>
          intro W hW
          obtain ⟨hW0, hW1, hW2, hW3⟩ := hW
          go_simp
          try with_reducible rfl
        try simp only [Act.put, List.getElem_toArray, List.getElem_cons_succ, List.getElem_cons_zero, List.setIfInBounds_toArray, List.set_cons_zero, List.set_cons_succ]
        refine wpAnyU_take 14 (v := ?vmt108x14) rfl (by kernel_rfl) (by kernel_rfl) (fun _ _ _ h => h) hS (Or.inl ⟨rfl, ?ymt108x14⟩) ?rmt108x14
        case ymt108x14 =>
          intro W hW
          obtain ⟨hW0, hW1, hW2, hW3⟩ := hW
          go_simp
          try with_reducible rfl
        try simp only [Act.put, List.getElem_toArray, List.getElem_cons_succ, List.getElem_cons_zero, List.setIfInBounds_toArray, List.set_cons_zero, List.set_cons_succ]
        refine wpAnyU_take 15 (v := ?vmt109x15) rfl (by kernel_rfl) (by kernel_rfl) (fun _ _ _ h => h) hS (Or.inl ⟨rfl, ?ymt109x15⟩) ?rmt109x15
        case ymt109x15 =>
          intro W hW
          obtain ⟨hW0, hW1, hW2, hW3⟩ := hW
          go_simp
          try with_reducible rfl
        try simp only [Act.put, List.getElem_toArray, List.getElem_cons_succ, List.getElem_cons_zero, List.setIfInBounds_toArray, List.set_cons_zero, List.set_cons_succ]
        refine wpAnyU_one 8 (by kernel_rfl) rfl (fun K hK => ?_)
        go_simp
        have hm4 := hm3.alloc (.cells [.int .i64 cap, .slice A3 items.length c3, .bool sh].toArray 129)
        generalize hg4 : w3.heap.size = g4 at hm4 ⊢
        generalize hw4 : w3.alloc (.cells [.int .i64 cap, .slice A3 items.length c3, .bool sh].toArray 129) = w4 at hm4 ⊢
        refine hK _ _ (fun _ => ⟨hm4.cell m2 1 rfl, hm4.cell m2 3 rfl, hm4.cell m2 4 rfl, hm4.cell m2 5 rfl⟩) ?_
        clear hK K hS hm3 hg4 hw4
        try simp only [Act.put, List.getElem_toArray, List.getElem_cons_succ, List.getElem_cons_zero, List.setIfInBounds_toArray, List.set_cons_zero, List.set_cons_succ]
        have hS : w4.cell? ⟨gb, 1, none⟩ = some (.slice A items.length c) ∧ w4.cell? ⟨gb, 3, none⟩ = some (.int .i64 fn) ∧ w4.cell? ⟨gb, 4, none⟩ = some (.int .i64 cap) ∧ w4.cell? ⟨gb, 5, none⟩ = some (.bool sh) := ⟨hm4.cell m2 1 rfl, hm4.cell m2 3 rfl, hm4.cell m2 4 rfl, hm4.cell m2 5 rfl⟩
        refine wpAnyU_take 9 (v := ?vmt110x9) rfl (by kernel_rfl) (by kernel_rfl) (fun _ _ _ h => h) hS (Or.inl ⟨rfl, ?ymt110x9⟩) ?rmt110x9
        case ymt110x9 =>
          intro W hW
          obtain ⟨hW0, hW1, hW2, hW3⟩ := hW
          go_simp
          try with_reducible rfl
        try simp only [Act.put, List.getElem_toArray, List.getElem_cons_succ, List.getElem_cons_zero, List.setIfInBounds_toArray, List.set_cons_zero, List.set_cons_succ]
        refine wpAnyU_take 16 (v := ?vmt111x16) rfl (by kernel_rfl) (by kernel_rfl) (fun _ _ _ h => h) hS (Or.inl ⟨rfl, ?ymt111x16⟩) ?rmt111x16
        case ymt111x16 =>
          intro W hW
          obtain ⟨hW0, hW1, hW2, hW3⟩ := hW
          go_simp
          try with_reducible rfl
        try simp only [Act.put, List.getElem_toArray, List.getElem_cons_succ, List.getElem_cons_zero, List.setIfInBounds_toArray, List.set_cons_zero, List.set_cons_succ]
        refine wpAnyU_one 17 (by kernel_rfl) rfl (fun K hK => ?_)
        go_simp
        refine hK _ _ (fun h => absurd h (by decide)) ?_
        clear hK K hS
        try simp only [Act.put, List.getElem_toArray, List.getElem_cons_succ, List.getElem_cons_zero, List.setIfInBounds_toArray, List.set_cons_zero, List.set_cons_succ]
        refine wpAnyU_done (by kernel_rfl) ?_ _
        go_wp2
        go_ret2
        exact .inr ⟨hmb.out, _, rfl, hm4.tail.tail.tail⟩
    · rw [beq_eq_false_iff_ne.2 qk, Bool.false_and] at hM
      have hmb := Fact.mk hM
      clear hM
      have qk' : ((keys.length : Int) == 0) = false := beq_eq_false_iff_ne.2 (by omega)
      rw [qk']
      clear qk'
      go_upto_region 9 with (fail)
      clear c0
      have hm2 := hm1.drew
      have hx2 := Fact.mk (hx1.out.gr (Gr.refl w1).drew)
      clear hm1 hx1
      have hS : w1.drew.cell? ⟨gb, 1, none⟩ = some (.slice A items.length c) ∧ w1.drew.cell? ⟨gb, 3, none⟩ = some (.int .i64 fn) ∧ w1.drew.cell? ⟨gb, 4, none⟩ = some (.int .i64 cap) ∧ w1.drew.cell? ⟨gb, 5, none⟩ = some (.bool sh) := ⟨hm2.cell m0 1 rfl, hm2.cell m0 3 rfl, hm2.cell m0 4 rfl, hm2.cell m0 5 rfl⟩
      refine wp_region_until (S := fun W => W.cell? ⟨gb, 1, none⟩ = some (.slice A items.length c) ∧ W.cell? ⟨gb, 3, none⟩ = some (.int .i64 fn) ∧ W.cell? ⟨gb, 4, none⟩ = some (.int .i64 cap) ∧ W.cell? ⟨gb, 5, none⟩ = some (.bool sh)) 17 (by kernel_rfl) ?_
      generalize w1.drew = w2 at hm2 hx2 hS ⊢
      refine wpAnyU_take 0 (v := ?vmt112x0) rfl (by kernel_rfl) (by kernel_rfl) (fun _ _ _ h => h) hS (Or.inl ⟨rfl, ?ymt112x0⟩) ?rmt112x0
      case ymt112x0 =>
        intro W hW
        obtain ⟨hW0, hW1, hW2, hW3⟩ := hW
        go_simp
        try with_reducible rfl
      try simp only [Act.put, List.getElem_toArray, List.getElem_cons_succ, List.getElem_cons_zero, List.setIfInBounds_toArray, List.set_cons_zero, List.set_cons_succ]
      refine wpAnyU_take 1 (v := ?vmt113x1) rfl (by kernel_rfl) (by kernel_rfl) (fun _ _ _ h => h) hS (Or.inl ⟨rfl, ?ymt113x1⟩) ?rmt113x1
      case ymt113x1 =>
        intro W hW
        obtain ⟨hW0, hW1, hW2, hW3⟩ := hW
        go_simp
        try with_reducible rfl
      try simp only [Act.put, List.getElem_toArray, List.getElem_cons_succ, List.getElem_cons_zero, List.setIfInBounds_toArray, List.set_cons_zero, List.set_cons_succ]
      refine wpAnyU_take 2 (v := ?vmt114x2) rfl (by kernel_rfl) (by kernel_rfl) (fun _ _ _ h => h) hS (Or.inl ⟨rfl, ?ymt114x2⟩) ?rmt114x2
      case ymt114x2 =>
        intro W hW
        obtain ⟨hW0, hW1, hW2, hW3⟩ := hW
        go_simp
        try with_reducible rfl
      try simp only [Act.put, List.getElem_toArray, List.getElem_cons_succ, List.getElem_cons_zero, List.setIfInBounds_toArray, List.set_cons_zero, List.set_cons_succ]
      refine wpAnyU_take 3 (v := ?vmt115x3) rfl (by kernel_rfl) (by kernel_rfl) (fun _ _ _ h => h) hS (Or.inl ⟨rfl, ?ymt115x3⟩) ?rmt115x3
      case ymt115x3 =>
        intro W hW
        obtain ⟨hW0, hW1, hW2, hW3⟩ := hW
        go_simp
        try with_reducible rfl
      try simp only [Act.put, List.getElem_toArray, List.getElem_cons_succ, List.getElem_cons_zero, List.setIfInBounds_toArray, List.set_cons_zero, List.set_cons_succ]
      refine wpAnyU_take 5 (v := ?vmt116x5) rfl (by kernel_rfl) (by kernel_rfl) (fun _ _ _ h => h) hS (Or.inl ⟨rfl, ?ymt116x5⟩) ?rmt116x5
      case ymt116x5 =>
        intro W hW
        obtain ⟨hW0, hW1, hW2, hW3⟩ := hW
        go_simp
        try with_reducible rfl
      try simp only [Act.put, List.getElem_toArray, List.getElem_cons_succ, List.getElem_cons_zero, List.setIfInBounds_toArray, List.set_cons_zero, List.set_cons_succ]
      refine wpAnyU_take 6 (v := ?vmt117x6) rfl (by kernel_rfl) (by kernel_rfl) (fun _ _ _ h => h) hS (Or.inl ⟨rfl, ?ymt117x6⟩) ?rmt117x6
      case ymt117x6 =>
        intro W hW
        obtain ⟨hW0, hW1, hW2, hW3⟩ := hW
        go_simp
        try with_reducible rfl
      try simp only [Act.put, List.getElem_toArray, List.getElem_cons_succ, List.getElem_cons_zero, List.setIfInBounds_toArray, List.set_cons_zero, List.set_cons_succ]
      refine wpAnyU_take 10 (v := ?vmt118x10) rfl (by kernel_rfl) (by kernel_rfl) (fun _ _ _ h => h) hS (Or.inl ⟨rfl, ?ymt118x10⟩) ?rmt118x10
      case ymt118x10 =>
        intro W hW
        obtain ⟨hW0, hW1, hW2, hW3⟩ := hW
        go_simp
        try with_reducible rfl
      try simp only [Act.put, List.getElem_toArray, List.getElem_cons_succ, List.getElem_cons_zero, List.setIfInBounds_toArray, List.set_cons_zero, List.set_cons_succ]
      refine wpAnyU_one 4 (by kernel_rfl) rfl (fun K hK => ?_)
      refine step_call rfl 67 Tryz.f67 Tryz.func67 (by kernel_rfl) (by kernel_rfl) _ _ rfl #[.slice A items.length c] (by simp [Act.eval]) ?_
      refine (clone_ok w0 w2 _ hm2 A items.length c items hx2 (by omega)).mono ?_
      rintro e w3 ⟨A3, c3, rfl, hm3⟩
      refine ⟨_, rfl, ?_⟩
      refine hK _ _ (fun _ => ⟨hm3.cell m1 1 rfl, hm3.cell m1 3 rfl, hm3.cell m1 4 rfl, hm3.cell m1 5 rfl⟩) ?_
      clear hK K hS hm2 hx2
      try simp only [Act.put, List.getElem_toArray, List.getElem_cons_succ, List.getElem_cons_zero, List.setIfInBounds_toArray, List.set_cons_zero, List.set_cons_succ]
      have hS : w3.cell? ⟨gb, 1, none⟩ = some (.slice A items.length c) ∧ w3.cell? ⟨gb, 3, none⟩ = some (.int .i64 fn) ∧ w3.cell? ⟨gb, 4, none⟩ = some (.int .i64 cap) ∧ w3.cell? ⟨gb, 5, none⟩ = some (.bool sh) := ⟨hm3.cell m1 1 rfl, hm3.cell m1 3 rfl, hm3.cell m1 4 rfl, hm3.cell m1 5 rfl⟩
      refine wpAnyU_take 7 (v := ?vmt119x7) rfl (by kernel_rfl) (by kernel_rfl) (fun _ _ _ h => h) hS (Or.inl ⟨rfl, ?ymt119x7⟩) ?rmt119x7
      case ymt119x7 =>
        intro W hW
        obtain ⟨hW0, hW1, hW2, hW3⟩ := hW
        go_simp
        try with_reducible rfl
      try simp only [Act.put, List.getElem_toArray, List.getElem_cons_succ, List.getElem_cons_zero, List.setIfInBounds_toArray, List.set_cons_zero, List.set_cons_succ]
      refine wpAnyU_take 11 (v := ?vmt120x11) rfl (by kernel_rfl) (by kernel_rfl) (fun _ _ _ h => h) hS (Or.inl ⟨rfl, ?ymt120x11⟩) ?rmt120x11
      case ymt120x11 =>
        intro W hW
        obtain ⟨hW0, hW1, hW2, hW3⟩ := hW
        go_simp
        try with_reducible rfl
      try simp only [Act.put, List.getElem_toArray, List.getElem_cons_succ, List.getElem_cons_zero, List.setIfInBounds_toArray, List.set_cons_zero, List.set_cons_succ]
      refine wpAnyU_take 12 (v := undef) rfl (by kernel_rfl) (by kernel_rfl) (fun _ _ _ h => h) hS (Or.inr ⟨rfl, rfl⟩) ?roff12012
      try simp only [Act.put, List.getElem_toArray, List.getElem_cons_succ, List.getElem_cons_zero, List.setIfInBounds_toArray, List.set_cons_zero, List.set_cons_succ]
      refine wpAnyU_take 13 (v := undef) rfl (by kernel_rfl) (by kernel_rfl) (fun _ _ _ h => h) hS (Or.inr ⟨rfl, rfl⟩) ?roff12013
      try simp only [Act.put, List.getElem_toArray, List.getElem_cons_succ, List.getElem_cons_zero, List.setIfInBounds_toArray, List.set_cons_zero, List.set_cons_succ]
      refine wpAnyU_take 14 (v := undef) rfl (by kernel_rfl) (by kernel_rfl) (fun _ _ _ h => h) hS (Or.inr ⟨rfl, rfl⟩) ?roff12014
      try simp only [Act.put, List.getElem_toArray, List.getElem_cons_succ, List.getElem_cons_zero, List.setIfInBounds_toArray, List.set_cons_zero, List.set_cons_succ]
      refine wpAnyU_take 15 (v := ?vmt121x15) rfl (by kernel_rfl) (by kernel_rfl) (fun _ _ _ h => h) hS (Or.inl ⟨rfl, ?ymt121x15⟩) ?rmt121x15
      case ymt121x15 =>
        intro W hW
        obtain ⟨hW0, hW1, hW2, hW3⟩ := hW
        go_simp
        try with_reducible rfl
      try simp only [Act.put, List.getElem_toArray, List.getElem_cons_succ, List.getElem_cons_zero, List.setIfInBounds_toArray, List.set_cons_zero, List.set_cons_succ]
      refine wpAnyU_one 8 (by kernel_rfl) rfl (fun K hK => ?_)
      go_simp
      have hm4 := hm3.alloc (.cells [.int .i64 cap, .slice A3 items.length c3, .bool sh].toArray 129)
      generalize hg4 : w3.heap.size = g4 at hm4 ⊢
      generalize hw4 : w3.alloc (.cells [.int .i64 cap, .slice A3 items.length c3, .bool sh].toArray 129) = w4 at hm4 ⊢
      refine hK _ _ (fun _ => ⟨hm4.cell m2 1 rfl, hm4.cell m2 3 rfl, hm4.cell m2 4 rfl, hm4.cell m2 5 rfl⟩) ?_
      clear hK K hS hm3 hg4 hw4
      try simp only [Act.put, List.getElem_toArray, List.getElem_cons_succ, List.getElem_cons_zero, List.setIfInBounds_toArray, List.set_cons_zero, List.set_cons_succ]
      have hS : w4.cell? ⟨gb, 1, none⟩ = some (.slice A items.length c) ∧ w4.cell? ⟨gb, 3, none⟩ = some (.int .i64 fn) ∧ w4.cell? ⟨gb, 4, none⟩ = some (.int .i64 cap) ∧ w4.cell? ⟨gb, 5, none⟩ = some (.bool sh) := ⟨hm4.cell m2 1 rfl, hm4.cell m2 3 rfl, hm4.cell m2 4 rfl, hm4.cell m2 5 rfl⟩
      refine wpAnyU_take 9 (v := ?vmt122x9) rfl (by kernel_rfl) (by kernel_rfl) (fun _ _ _ h => h) hS (Or.inl ⟨rfl, ?ymt122x9⟩) ?rmt122x9
      case ymt122x9 =>
        intro W hW
        obtain ⟨hW0, hW1, hW2, hW3⟩ := hW
        go_simp
        try with_reducible rfl
      try simp only [Act.put, List.getElem_toArray, List.getElem_cons_succ, List.getElem_cons_zero, List.setIfInBounds_toArray, List.set_cons_zero, List.set_cons_succ]
      refine wpAnyU_take 16 (v := ?vmt123x16) rfl (by kernel_rfl) (by kernel_rfl) (fun _ _ _ h => h) hS (Or.inl ⟨rfl, ?ymt123x16⟩) ?rmt123x16
      case ymt123x16 =>
        intro W hW
        obtain ⟨hW0, hW1, hW2, hW3⟩ := hW
        go_simp
        try with_reducible rfl
      try simp only [Act.put, List.getElem_toArray, List.getElem_cons_succ, List.getElem_cons_zero, List.setIfInBounds_toArray, List.set_cons_zero, List.set_cons_succ]
      refine wpAnyU_one 17 (by kernel_rfl) rfl (fun K hK => ?_)
      go_simp
      refine hK _ _ (fun h => absurd h (by decide)) ?_
      clear hK K hS
      try simp only [Act.put, List.getElem_toArray, List.getElem_cons_succ, List.getElem_cons_zero, List.setIfInBounds_toArray, List.set_cons_zero, List.set_cons_succ]
      refine wpAnyU_done (by kernel_rfl) ?_ _
      go_wp2
      go_ret2
      exact .inr ⟨hmb.out, _, rfl, hm4.tail.tail.tail⟩
end Go.Proofs.YtpibchjkmaghnaaGreat
namespace Go.Proofs.YtpibchjkmaghnaaGreat
open Go.RowKit Go.Mm
set_option maxHeartbeats 4000000
set_option maxRecDepth 100000
set_option linter.unusedSimpArgs false
theorem all_ge {ks : List Int} : (ks.all (fun k => decide (0 ≤ k)) = true) ↔ ∀ x, x ∈ ks → 0 ≤ x := by simp [List.all_eq_true]
theorem idx_mem {ks : List Int} {k : Int} (h : (ks.idxOf? k).isSome = true) : k ∈ ks := by
  cases e : ks.idxOf? k with
  | none => rw [e] at h; cases h
  | some i =>
    obtain ⟨h, e, _⟩ := List.idxOf?_eq_some_iff.1 e
    rw [← e]
    exact List.getElem_mem h
theorem idx_nomem {ks : List Int} {k : Int} (h : ks.idxOf? k = none) : k ∉ ks := by simpa using h
theorem madeR_ok (w0 w : World) (L : List Chunk) (hm : Mem w0 w L) (A : Option Addr) (c : Nat) (KA : Option Addr) (kc : Nat) (items : List V2) (keys : List Int) (fn cap : Int) (sh : Bool) (hx : Fact (RdC w 2 (.slice A items.length c) (fV items))) (hi : items.length ≤ 1048576) (hkn : keys.length ≤ 1048576) (hkx : Fact (RdC w 1 (.slice KA keys.length kc) (nums .i64 keys))) (hwf : ∀ k, k ∈ keys → (Lit.int .i64 k).wf = true) (op : Bool) (hop : op = (cap == 0 && !sh)) :
    Calls Tryz.prog 50 #[.agg (obC 7 A items.length c KA keys.length kc fn cap sh).toArray] w fun e w' => MadeQ w0 L ⟨7, items, keys, fn, cap, sh⟩ e w' := by
  have hM : madeB ⟨7, items, keys, fn, cap, sh⟩ = (op && (fn == 0) && (keys.length == items.length) && keys.all (fun k => decide (0 ≤ k)) && decide keys.Nodup) := by rw [hop]; rfl
  go_enter Tryz.func50, Tryz.ntmps50
  go_upto_region 1 with (fail)
  have hm1 := (Mem.start w).alloc (.cells (obC 7 A items.length c KA keys.length kc fn cap sh).toArray 41)
  generalize hgb : w.heap.size = gb at hm1 ⊢
  generalize hw1 : w.alloc (.cells (obC 7 A items.length c KA keys.length kc fn cap sh).toArray 41) = w1 at hm1
  try refine wp_world hw1 ?_
  clear hw1 hgb
  have c0 := hm1.cell m0 0 rfl
  have c2 := hm1.cell m0 2 rfl
  have c4 := hm1.cell m0 4 rfl
  have c5 := hm1.cell m0 5 rfl
  go_upto_region 2 with (fail)
  go_cut [5] (fun s5 W => s5 = .bool op ∧ W = w1)
  case first =>
    by_cases qc : cap = 0
    · have qc' : (cap == 0) = true := beq_iff_eq.2 qc
      rw [qc', Bool.true_and] at hop
      clear qc
      subst hop
      go_wp2
      go_meet
      case rel => exact ⟨rfl, rfl⟩
    · have qc' : (cap == 0) = false := beq_eq_false_iff_ne.2 qc
      rw [qc', Bool.false_and] at hop
      clear qc
      subst hop
      go_wp2
      go_meet
      case rel => exact ⟨rfl, rfl⟩
  case rest =>
    obtain ⟨rfl, hwc⟩ := hcut
    rw [hwc]
    clear hwc c4 c5 c2
    have hm2 := hm1.alloc (.cells (recC none 0 0 none 0 0 none).toArray 133)
    go_upto_region 12 with (fail)
    generalize hg2 : w1.heap.size = g at hm2 ⊢
    replace hm2 : Mem w (w1.alloc (.cells #[.slice none 0 0, .slice none 0 0, .map none] 133)) [Blk g (.cells (recC none 0 0 none 0 0 none).toArray 133), Blk gb (.cells (obC 7 A items.length c KA keys.length kc fn cap sh).toArray 41)] := hm2
    generalize hw2 : w1.alloc (.cells #[.slice none 0 0, .slice none 0 0, .map none] 133) = w2 at hm2 ⊢
    try refine wp_world hw2 ?_
    clear hw2 hg2 hm1 c0
    have c3 := hm2.cell m1 3 rfl
    have c1 := hm2.cell m1 1 rfl
    have c2 := hm2.cell m1 2 rfl
    cases op with
    | false =>
      rw [Bool.false_and, Bool.false_and, Bool.false_and, Bool.false_and] at hM
      have hmb := Fact.mk hM
      clear hM hop
      go_wp2
      go_ret2
      exact .inr ⟨hmb.out, _, rfl, (hm.join hm2).tail.tail⟩
    | true =>
      rw [Bool.true_and] at hM
      by_cases qf : fn = 0
      · skip
        by_cases ql : keys.length = items.length
        · skip
          rw [beq_iff_eq.2 qf, beq_iff_eq.2 ql, Bool.true_and, Bool.true_and] at hM
          have qf' : (fn == 0) = true := beq_iff_eq.2 qf
          have qf2 : (fn != 0) = false := by rw [qf]; rfl
          have ql' : ((keys.length : Int) == items.length) = true := beq_iff_eq.2 (by omega)
          have ql2 : ((keys.length : Int) != items.length) = false := by simp [ql]
          have hcs : cap = 0 ∧ sh = false := by
            have h := hop.symm
            simp only [Bool.and_eq_true, beq_iff_eq, Bool.not_eq_true'] at h
            exact h
          replace hM := Fact.mk hM
          replace qf := Fact.mk qf
          replace ql := Fact.mk ql
          replace hcs := Fact.mk hcs
          replace hwf := Fact.mk hwf
          clear hop
          have hm3 : Mem w w2 (Blk g (.cells (recC none 0 0 none 0 0 none).toArray 133) :: Own 2 (.slice none 0 0) (fV (items.take 0)) :: Own 1 (.slice none 0 0) (nums .i64 (keys.take 0)) :: MapC none (keys.take 0) :: Blk gb (.cells (obC 7 A items.length c KA keys.length kc fn cap sh).toArray 41) :: []) := (Mem.nil (Mem.nil (Mem.mapnil hm2) 1 none) 2 none).pull3
          clear hm2
          go_wp2
          clear c1 c2 c3 qf' qf2 ql' ql2
          go_loopw [97] (fun s97 W => ∃ (k : Nat) (A1 : Option Addr) (c1 : Nat) (K1 : Option Addr) (kc1 : Nat) (mp : Option Nat), s97 = .int .i64 k ∧ k ≤ keys.length ∧ Fact ((∀ x, x ∈ keys.take k → 0 ≤ x) ∧ (keys.take k).Nodup) ∧ Mem w W (Blk g (.cells (recC A1 k c1 K1 k kc1 mp).toArray 133) :: Own 2 (.slice A1 k c1) (fV (items.take k)) :: Own 1 (.slice K1 k kc1) (nums .i64 (keys.take k)) :: MapC mp (keys.take k) :: Blk gb (.cells (obC 7 A items.length c KA keys.length kc fn cap sh).toArray 41) :: [])) (fun s97 _ => keys.length - (intOf s97).toNat)
          case atStart => exact ⟨0, none, 0, none, 0, none, rfl, by omega, ⟨by simp, by simp⟩, hm3⟩
          case round =>
            obtain ⟨k, A1, c1, K1, kc1, mp, rfl, hk, hgd, hmr⟩ := hrel
            clear hm3
            by_cases hlt : k < keys.length
            · skip
              have hki : k < items.length := by have := ql.out; omega
              obtain ⟨b2, o2, hKA, gk, _⟩ := (hkx.out.gr hmr.below).num k hlt
              obtain ⟨b3, o3, hIA, g1, g2, _, _⟩ := rdV_at (hx.out.gr hmr.below) k hki
              have hsk := take_snoc' keys k hlt
              have hsi : items.take (k + 1) = items.take k ++ [items.getD k (0, 0)] := by rw [List.take_succ_eq_append_getElem hki]; simp [hki]
              have hxm : keys.getD k 0 ∈ keys := by rw [List.getD_eq_getElem?_getD, List.getElem?_eq_getElem hlt]; exact List.getElem_mem _
              generalize keys.getD k 0 = x at gk hsk hxm
              generalize items.getD k (0, 0) = y at g1 g2 hsi
              have z1 := hmr.cell m4 1 rfl
              rw [hIA] at z1
              rw [hKA]
              replace hKA := Fact.mk hKA
              replace hIA := Fact.mk hIA
              have lk : (keys.take k).length = k := by rw [List.length_take]; omega
              have li : (items.take k).length = k := by rw [List.length_take]; omega
              by_cases qx : x < 0
              · have hmb : Fact (madeB ⟨7, items, keys, fn, cap, sh⟩ = false) := ⟨by
                  rw [hM.out, Bool.and_eq_false_iff]
                  exact .inl (by rw [List.all_eq_false]; exact ⟨x, hxm, by simp; omega⟩)⟩
                go_wp2
                go_ret2
                exact .inr ⟨hmb.out, _, rfl, (hm.join hmr).tail.tail.tail.tail.tail⟩
              have qx' : (x < 0) = False := eq_false qx
              replace qx := Fact.mk qx
              have hxw := hwf.out x hxm
              cases hidx : (keys.take k).idxOf? x with
              | some i =>
                have hmb : Fact (madeB ⟨7, items, keys, fn, cap, sh⟩ = false) := ⟨by
                  have hin : x ∈ keys.take k := idx_mem (by rw [hidx]; rfl)
                  have hnd : ¬ keys.Nodup := fun hd => by
                    have h1 : (keys.take (k + 1)).Nodup := hd.sublist (List.take_sublist _ _)
                    rw [hsk, List.nodup_append] at h1
                    exact h1.2.2 x hin x (by simp) rfl
                  rw [hM.out, decide_eq_false hnd, Bool.and_false]⟩
                have hput := rputNo_ok w wr _ g A1 k c1 K1 k kc1 mp (keys.take k) (hmr.perm (((List.Perm.refl _).trans (perm_front (Blk g (.cells (recC A1 k c1 K1 k kc1 mp).toArray 133) :: Own 2 (.slice A1 k c1) (fV (items.take k)) :: Own 1 (.slice K1 k kc1) (nums .i64 (keys.take k)) :: MapC mp (keys.take k) :: Blk gb (.cells (obC 7 A items.length c KA keys.length kc fn cap sh).toArray 41) :: []) 3 (by simp))))) x hxw (by rw [hidx]; rfl) y.1 y.2
                replace hput := Fact.mk hput
                replace hidx := Fact.mk hidx
                clear lk li hsk hsi
                go_wp2_with (refine wp_rng rfl 35 _ rfl b3 (o3 + k * 2) rfl (cV y) (rng2 g1 g2) row_V sz_V ?_)
                refine hput.out.mono ?_
                rintro e w6 ⟨rfl, hm6⟩
                go_wp2
                go_ret2
                exact .inr ⟨hmb.out, _, rfl, (hm.join hm6).tail.tail.tail.tail.tail⟩
              | none =>
                have hput := rputYes_ok w wr [Blk gb (.cells (obC 7 A items.length c KA keys.length kc fn cap sh).toArray 41)] g A1 c1 K1 kc1 mp (keys.take k) (items.take k) (by rw [lk, li]; exact hmr) x hxw ⟨hidx⟩ y.1 y.2 (by omega) (by omega)
                rw [lk, li, ← hsi, ← hsk] at hput
                replace hput := Fact.mk hput
                have hgd2 : Fact ((∀ z, z ∈ keys.take (k + 1) → 0 ≤ z) ∧ (keys.take (k + 1)).Nodup) := ⟨by
                  rw [hsk]
                  refine ⟨fun z hz => ?_, ?_⟩
                  · rcases List.mem_append.1 hz with hz | hz
                    · exact hgd.out.1 z hz
                    · simp at hz; have := qx.out; omega
                  · rw [List.nodup_append]
                    exact ⟨hgd.out.2, by simp, fun a ha b hb => by simp at hb; subst hb; exact fun e => idx_nomem hidx (by rw [← e]; exact ha)⟩⟩
                clear lk li hsk hsi hidx
                go_wp2_with (refine wp_rng rfl 35 _ rfl b3 (o3 + k * 2) rfl (cV y) (rng2 g1 g2) row_V sz_V ?_)
                refine hput.out.mono ?_
                rintro e w6 ⟨rfl, A2, c2, K2, kc2, mp2, hm6⟩
                go_wp2
                go_roundw
                case rel => exact ⟨k + 1, A2, c2, K2, kc2, mp2, by go_num, by omega, hgd2, by rw [← hKA.out]; exact hm6⟩
                case measure => exact measP_lt hlt
            · obtain rfl : k = keys.length := by omega
              rw [List.take_of_length_le (Nat.le_refl _)] at hmr hgd
              rw [List.take_of_length_le (by have := ql.out; omega)] at hmr
              go_wp2
              go_ret2
              have hmb : madeB ⟨7, items, keys, fn, cap, sh⟩ = true := by rw [hM.out, decide_eq_true hgd.out.2, Bool.and_true, all_ge]; exact hgd.out.1
              refine .inl ⟨hmb, ⟨g, A1, keys.length, c1, K1, keys.length, kc1, mp, ⟨7, items, keys, fn, cap, sh⟩⟩, rfl, ⟨.inr (.inl rfl), hi, fun _ => ql.out, fun h => absurd rfl h, hgd.out.2, hwf.out, fun _ => qf.out, fun _ => hcs.out⟩, rfl, ?_⟩
              have hz := (hm.join hmr)
              refine Mem.sht (Th.chunks ⟨g, A1, keys.length, c1, K1, keys.length, kc1, mp, ⟨7, items, keys, fn, cap, sh⟩⟩) ?_
              exact hz.sub (List.Sublist.cons_cons _ (List.Sublist.cons_cons _ (List.Sublist.cons_cons _ (List.Sublist.cons_cons _ (List.sublist_cons_self _ _)))))
        · have hmb : Fact (madeB ⟨7, items, keys, fn, cap, sh⟩ = false) := ⟨by rw [hM, beq_eq_false_iff_ne.2 ql, Bool.and_false, Bool.false_and, Bool.false_and]⟩
          have qf' : (fn == 0) = true := beq_iff_eq.2 qf
          have qf2 : (fn != 0) = false := by rw [qf]; rfl
          have ql' : ((keys.length : Int) == items.length) = false := beq_eq_false_iff_ne.2 (by omega)
          have ql2 : ((keys.length : Int) != items.length) = true := by simp; omega
          clear qf ql hM hop
          go_wp2
          go_ret2
          exact .inr ⟨hmb.out, _, rfl, (hm.join hm2).tail.tail⟩
      · have hmb : Fact (madeB ⟨7, items, keys, fn, cap, sh⟩ = false) := ⟨by rw [hM, beq_eq_false_iff_ne.2 qf, Bool.false_and, Bool.false_and, Bool.false_and]⟩
        have qf' : (fn == 0) = false := beq_eq_false_iff_ne.2 qf
        have qf2 : (fn != 0) = true := by simp [qf]
        clear qf hM hop
        go_wp2
        go_ret2
        exact .inr ⟨hmb.out, _, rfl, (hm.join hm2).tail.tail⟩
end Go.Proofs.YtpibchjkmaghnaaGreat
namespace Go.Proofs.YtpibchjkmaghnaaGreat
open Go.RowKit Go.Mm
set_option maxHeartbeats 4000000
set_option maxRecDepth 100000
set_option linter.unusedSimpArgs false
theorem made_ok (w0 w : World) (L : List Chunk) (hm : Mem w0 w L) (x : RO) (hx : Fact (x.reads w)) (hi : x.ob.items.length ≤ 1048576) (hkn : x.ob.keys.length ≤ 1048576) (hwf : ∀ k, k ∈ x.ob.keys → (Lit.int .i64 k).wf = true) :
    Calls Tryz.prog 50 #[.agg (cRO x).toArray] w fun e w' => MadeQ w0 L x.ob e w' := by
  obtain ⟨A, c, KA, kc, ⟨k, items, keys, fn, cap, sh⟩⟩ := x
  by_cases q6 : k = 6
  · subst q6
    exact madeA_ok w0 w L hm A c KA kc items keys fn cap sh ⟨hx.out.1⟩ hi hkn _ rfl
  by_cases q8 : k = 8
  · subst q8
    exact madeB_ok w0 w L hm A c KA kc items keys fn cap sh ⟨hx.out.1⟩ hi hkn _ rfl
  by_cases q9 : k = 9
  · subst q9
    exact madeC_ok w0 w L hm A c KA kc items keys fn cap sh ⟨hx.out.1⟩ hi hkn _ rfl
  by_cases q7 : k = 7
  · subst q7
    exact madeR_ok w0 w L hm A c KA kc items keys fn cap sh ⟨hx.out.1⟩ hi hkn ⟨hx.out.2⟩ hwf _ rfl
  have hmb : Fact (madeB ⟨k, items, keys, fn, cap, sh⟩ = false) := ⟨by unfold madeB; rw [if_neg q6, if_neg q8, if_neg q9, if_neg q7]⟩
  replace q6 : (k == 6) = false := beq_eq_false_iff_ne.2 q6
  replace q7 : (k == 7) = false := beq_eq_false_iff_ne.2 q7
  replace q8 : (k == 8) = false := beq_eq_false_iff_ne.2 q8
  replace q9 : (k == 9) = false := beq_eq_false_iff_ne.2 q9
  unfold cRO
  by_cases qc : cap = 0
  all_goals
    first | (replace qc : (cap == 0) = true := beq_iff_eq.2 qc) | (replace qc : (cap == 0) = false := beq_eq_false_iff_ne.2 qc)
    go_enter Tryz.func50, Tryz.ntmps50
    go_upto_region 1 with (fail)
    have hm1 := hm.alloc (.cells (obC k A items.length c KA keys.length kc fn cap sh).toArray 41)
    generalize hgb : w.heap.size = gb at hm1 ⊢
    generalize hw1 : w.alloc (.cells (obC k A items.length c KA keys.length kc fn cap sh).toArray 41) = w1 at hm1
    try refine wp_world hw1 ?_
    clear hw1 hgb
    have c0 := hm1.cell m0 0 rfl
    have c2 := hm1.cell m0 2 rfl
    have c4 := hm1.cell m0 4 rfl
    have c5 := hm1.cell m0 5 rfl
    go_wp2
    go_ret2
    exact .inr ⟨hmb.out, _, rfl, hm1.tail⟩
/-- Whether objects make a heap, as the program asks it. -/
def loadP (l : List Ob) : Bool := l.all madeB && l.all (fun o => limB o && o.items.all (rightP l))
def Hp.more (h : Hp) (A : Option Addr) (c : Nat) (t : Th) : Hp := { h with A := A, c := c, ths := h.ths ++ [t] }
theorem Hp.more_abs (h : Hp) (A : Option Addr) (c : Nat) (t : Th) : (h.more A c t).abs = ⟨h.budget, h.spent, h.objs ++ [t.ob]⟩ := by simp [Hp.more, Hp.abs, Hp.objs]
theorem Hp.more_ok {h : Hp} (hok : h.Ok) (A : Option Addr) (c : Nat) (t : Th) (ht : t.Ok) (hl : h.ths.length < 16777216) : (h.more A c t).Ok := by
  refine ⟨fun u hu => ?_, by simp only [Hp.more, List.length_append, List.length_cons, List.length_nil]; omega, hok.b0, hok.b1, hok.s0, hok.s1⟩
  simp only [Hp.more, List.mem_append, List.mem_cons, List.not_mem_nil, or_false] at hu
  rcases hu with hu | rfl
  · exact hok.each u hu
  · exact ht
def LoadQ (w0 : World) (L : List Chunk) (b s : Int) (l : List Ob) (e : Ending) (w : World) : Prop :=
  (loadP l = true ∧ ∃ h : Hp, h.abs = ⟨b, s, l⟩ ∧ h.Ok ∧ e = .returned (.tuple #[.pointer (some ⟨h.g, 0, none⟩), .bool true]) ∧ Mem w0 w (HpC h :: L)) ∨ (loadP l = false ∧ e = .returned (.tuple #[.pointer none, .bool false]) ∧ Mem w0 w L)
theorem load_ok (w0 w : World) (L : List Chunk) (hm : Mem w0 w L) (b s : Int) (hb : b ≤ 9223372036854775807) (hs : s ≤ 9223372036854775807) (A : Option Addr) (n c : Nat) (xs : List RO) (hx : Fact (ObsR w A n c xs)) (hn : n ≤ 2097152)
    (hsz : ∀ x, x ∈ xs → x.ob.items.length ≤ 1048576 ∧ x.ob.keys.length ≤ 1048576) (hwf : ∀ x, x ∈ xs → ∀ k, k ∈ x.ob.keys → (Lit.int .i64 k).wf = true) :
    Calls Tryz.prog 22 #[.int .i64 b, .int .i64 s, .slice A n c] w fun e w' => LoadQ w0 L (max b 0) (max s 0) (xs.map (·.ob)) e w' := by
  obtain ⟨iT, hi, hz0, hz1, hz2⟩ := info_parts inf_T
  have hmf : ∀ (fn : Fn) (first cap : Array Value) (w : World), (Instr.makeFunc fn first cap).run Tryz.prog w = .ok (.func fn first cap) w := fun _ _ _ _ => rfl
  have hl := Fact.mk hx.out.len
  replace hsz := Fact.mk hsz
  replace hwf := Fact.mk hwf
  obtain ⟨obs, hobs⟩ : ∃ obs, xs.map (·.ob) = obs := ⟨_, rfl⟩
  rw [hobs]
  have hol : Fact (obs.length = n) := ⟨by rw [← hobs, List.length_map]; exact hl.out⟩
  have hoa : Fact (∀ k, k < n → obs.getD k ob0 = (xs.getD k ro0).ob) := ⟨fun k hk => by rw [← hobs]; simp [show k < xs.length by rw [hl.out]; exact hk]⟩
  clear hobs
  go_enter Tryz.func22, Tryz.ntmps22
  go_wp2_with fail
  refine (heapNew_ok w w [] (Mem.start w) b s).mono ?_
  rintro e w1 ⟨g, rfl, hm1⟩
  go_wp2
  go_loopw [20] (fun s20 W => ∃ (k : Nat) (h : Hp), s20 = .int .i64 k ∧ k ≤ n ∧ h.g = g ∧ Fact (h.abs = ⟨max b 0, max s 0, obs.take k⟩) ∧ Fact h.Ok ∧ Fact ((obs.take k).all madeB = true) ∧ Mem w W (HpC h :: [])) (fun s20 _ => n - (intOf s20).toNat)
  case atStart => exact ⟨0, ⟨g, max b 0, max s 0, none, 0, []⟩, rfl, by omega, rfl, ⟨rfl⟩, ⟨⟨by simp, by simp, by show (0 : Int) ≤ max b 0; omega, by show max b 0 ≤ _; omega, by show (0 : Int) ≤ max s 0; omega, by show max s 0 ≤ _; omega⟩⟩, ⟨rfl⟩, hm1⟩
  case round =>
    obtain ⟨k, h, rfl, hk, rfl, habs, hok, hall, hmr⟩ := hrel
    clear hm1
    have hthl : h.ths.length = k := by rw [← h.abs_len', habs.out]; simp only [List.length_take]; have := hol.out; omega
    replace hthl := Fact.mk hthl
    by_cases hlt : k < n
    · obtain ⟨bb, o, rfl, hc, hkl, hrd⟩ := (hx.out.gr hmr.below).at k hlt
      have hxm : xs.getD k ro0 ∈ xs := by rw [List.getD_eq_getElem?_getD, List.getElem?_eq_getElem hkl]; exact List.getElem_mem _
      have hox := hoa.out k hlt
      have htk : obs.take (k + 1) = obs.take k ++ [obs.getD k ob0] := by rw [List.take_succ_eq_append_getElem (by rw [hol.out]; exact hlt)]; simp [show k < obs.length by rw [hol.out]; exact hlt]
      have hall2 := take_all madeB obs k ob0 (by rw [hol.out]; exact hlt)
      have hno := take_all_no (p := madeB) (xs := obs) (k := k) (d := ob0) (by rw [hol.out]; exact hlt)
      have hszx := hsz.out _ hxm
      have hwfx := hwf.out _ hxm
      rw [hox] at htk hall2 hno
      rw [hall.out, Bool.true_and] at hall2
      generalize xs.getD k ro0 = x at hc hrd hszx hwfx htk hall2 hno
      replace hc := Fact.mk hc
      replace htk := Fact.mk htk
      replace hall2 := Fact.mk hall2
      replace hno := Fact.mk hno
      replace hrd := Fact.mk hrd
      clear hxm hox
      go_upto_region 5 with (first | (refine wp_rng rfl 41 _ rfl bb (o + k * 6) rfl (cRO x) hc.out row_O sz_O ?_) | (refine wp_setrow rfl 41 _ _ rfl wr.heap.size rfl 41 _ (cRO x) rfl ((Mem.start wr).alloc (.cells (obC 0 none 0 0 none 0 0 0 0 false).toArray 41)) sz_O rfl (cRO_one x) ?_; intro w5 hm5))
      generalize wr.heap.size = g5 at hm5 ⊢
      have hmade := made_ok w w5 _ (hmr.join hm5) x ⟨hrd.out.gr hm5.below⟩ hszx.1 hszx.2 hwfx
      have hrg := rng_blk hm5 m0
      clear hm5 hmr
      replace hmade := Fact.mk hmade
      go_wp2_with (refine wp_rng rfl 41 _ rfl g5 0 rfl (cRO x) hrg row_O sz_O ?_)
      refine hmade.out.mono ?_
      clear hmade hrg
      rintro e w6 (⟨hmb, t, hto, htok, rfl, hm6⟩ | ⟨hmb, v, rfl, hm6⟩)
      · replace hmb := Fact.mk hmb
        replace hto := Fact.mk hto
        replace htok := Fact.mk htok
        have hm7 : Mem w w6 (Blk h.g (.cells h.cells.toArray 96) :: Own 1 (.slice h.A h.ths.length h.c) (h.ths.map Th.val) :: (h.ths.map ThC ++ (ThC t :: Blk g5 (.cells (cRO x).toArray 41) :: []))) := Mem.opn hm6.pull2
        clear hm6
        have c2 := hm7.cell m0 2 rfl
        have hvl : t.val.cells = #[t.val] := rfl
        have hsl := hok.out.size
        have hv : t.val = .iface (thTy t.ob.kind) (.pointer (some ⟨t.g, 0, none⟩)) := rfl
        obtain ⟨T, hT⟩ : ∃ T, thTy t.ob.kind = T := ⟨_, rfl⟩
        rw [hT] at hv
        rw [hv]
        clear hvl
        go_wp2_with (first | (at_builtin; refine wp_app rfl _ _ _ rfl 91 iT _ 1 16 ty_Ts hi hz0 hz1 hz2 rfl h.A h.ths.length h.c _ rfl (hm7.alloc _).pull2 _ 1 1 [.iface T (.pointer (some ⟨t.g, 0, none⟩))] rfl (RdC.lit _ _ _ _ _ rfl (by simp [maxLen]) (fun u hu => by simp at hu; subst hu; rfl)) (by unfold maxLen; omega) (by omega) ?_; intro A1 c1 w7 HM1) | (refine wp_setat rfl 94 _ _ rfl h.g 2 rfl 96 _ [.slice A1 (h.ths.length + 1) c1] [.int .i64 h.budget, .int .i64 h.spent, .slice A1 (h.ths.length + 1) c1] (.slice A1 (h.ths.length + 1) c1) rfl rfl HM1.drop2.swap (by kernel_rfl) (by simp [Hp.cells]) (one_one rfl) rfl ?_; intro w8 hm8))
        have e1 : h.ths.map Th.val ++ [.iface T (.pointer (some ⟨t.g, 0, none⟩))] = (h.ths ++ [t]).map Th.val := by rw [← hv]; simp
        rw [e1] at hm8
        have hz : Mem w w8 (HpC (h.more A1 c1 t) :: []) := by
          have h9 : Mem w w8 (Blk h.g (.cells (h.more A1 c1 t).cells.toArray 96) :: Own 1 (.slice A1 (h.ths ++ [t]).length c1) ((h.ths ++ [t]).map Th.val) :: (h.ths.map ThC ++ (ThC t :: Blk g5 (.cells (cRO x).toArray 41) :: []))) := by simpa [Hp.more, Hp.cells] using hm8
          have h10 : (h.ths.map ThC ++ (ThC t :: Blk g5 (.cells (cRO x).toArray 41) :: [])) = (h.ths ++ [t]).map ThC ++ (Blk g5 (.cells (cRO x).toArray 41) :: []) := by simp
          rw [h10] at h9
          exact (Mem.sht (h.more A1 c1 t).chunks h9).sub (List.Sublist.cons_cons _ (List.nil_sublist _))
        clear hm8 HM1 hm7 c2
        go_roundw
        case rel => exact ⟨k + 1, h.more A1 c1 t, by go_num, by omega, rfl, ⟨by rw [Hp.more_abs, htk.out, hto.out]; have := habs.out; unfold Hp.abs at this; simp only [Hs.mk.injEq] at this; rw [this.1, this.2.1, this.2.2]⟩, ⟨Hp.more_ok hok.out A1 c1 t htok.out (by have := hthl.out; omega)⟩, ⟨by rw [hall2.out]; exact hmb.out⟩, hz⟩
        case measure => exact measP_lt hlt
      · have hfin : Fact (loadP obs = false) := ⟨by unfold loadP; rw [hno.out hmb, Bool.false_and]⟩
        go_wp2
        go_ret2
        exact .inr ⟨hfin.out, rfl, (hm.join hm6).tail.tail⟩
    · obtain rfl : k = n := by omega
      rw [List.take_of_length_le (by rw [hol.out]; exact Nat.le_refl _)] at habs hall
      have hob : h.objs = obs := by have := habs.out; unfold Hp.abs at this; simp only [Hs.mk.injEq] at this; exact this.2.2
      replace hob := Fact.mk hob
      obtain ⟨_, _, c2, _⟩ := Hp.read hmr m0
      rw [hthl.out] at c2
      go_wp2
      clear c2
      go_loopw [47] (fun s47 W => ∃ j : Nat, s47 = .int .i64 j ∧ j ≤ k ∧ Fact ((obs.take j).all (fun o => limB o && o.items.all (rightP obs)) = true) ∧ Mem w W (HpC h :: [])) (fun s47 _ => k - (intOf s47).toNat)
      case atStart => exact ⟨0, rfl, by omega, ⟨rfl⟩, hmr⟩
      case round =>
        obtain ⟨j, rfl, hj, hal, hmq⟩ := hrel
        clear hmr
        by_cases hjt : j < k
        · obtain ⟨_, _, _, _, _, hat⟩ := Hp.read hmq m0
          obtain ⟨b3, o3, hA, r1, hcs⟩ := hat j (by have := hthl.out; omega)
          have htj := th_ok hok.out (i := j) (by have := hthl.out; omega)
          have hri := rightI_ok w wr _ h hmq m0 hok _ htj hcs
          have hob2 : obs.getD j ob0 = (h.ths.getD j th0).ob := by rw [← hob.out]; exact ob_at (by have := hthl.out; omega)
          have hal2 := take_all (fun o => limB o && o.items.all (rightP obs)) obs j ob0 (by rw [hol.out]; exact hjt)
          have hno2 := take_all_no (p := (fun o => limB o && o.items.all (rightP obs))) (xs := obs) (k := j) (d := ob0) (by rw [hol.out]; exact hjt)
          rw [hob2] at hal2 hno2
          rw [hal.out, Bool.true_and] at hal2
          rw [hob.out] at hri
          generalize h.ths.getD j th0 = t at r1 hri hal2 hno2
          have hv : ∃ T p, t.val = .iface T (.pointer (some ⟨p, 0, none⟩)) := ⟨_, _, rfl⟩
          obtain ⟨T, p, hv⟩ := hv
          rw [hv] at r1 hri
          rw [hA]
          clear hv hat hcs htj hob2
          try simp only at hal2
          try simp only at hno2
          generalize (limB t.ob && t.ob.items.all (rightP obs)) = rr at hri hal2 hno2
          unfold rightF at hri
          cases rr with
          | false =>
            have hfin : Fact (loadP obs = false) := ⟨by unfold loadP; rw [hno2 rfl, Bool.and_false]⟩
            replace hri := Fact.mk hri
            clear hno2 hal2
            go_wp2_with (refine wp_inv rfl _ _ _ _ (by rfl) (.iface T (.pointer (some ⟨p, 0, none⟩))) (by rfl) [.func (.func 51) #[.pointer (some ⟨h.g, 0, none⟩)] #[]] (by rfl) (hri.out.mono ?_); rintro e w9 ⟨rfl, hg9⟩; refine ⟨_, rfl, ?_⟩)
            go_ret2
            exact .inr ⟨hfin.out, rfl, (hm.join hmq).tail.gr hg9⟩
          | true =>
            replace hri := Fact.mk hri
            replace hal2 := Fact.mk hal2
            clear hno2
            go_wp2_with (refine wp_inv rfl _ _ _ _ (by rfl) (.iface T (.pointer (some ⟨p, 0, none⟩))) (by rfl) [.func (.func 51) #[.pointer (some ⟨h.g, 0, none⟩)] #[]] (by rfl) (hri.out.mono ?_); rintro e w9 ⟨rfl, hg9⟩; refine ⟨_, rfl, ?_⟩)
            go_roundw
            case rel => exact ⟨j + 1, by go_num, by omega, ⟨hal2.out⟩, hmq.gr hg9⟩
            case measure => exact measP_lt hjt
        · obtain rfl : j = k := by omega
          rw [List.take_of_length_le (by rw [hol.out]; exact Nat.le_refl _)] at hal
          have hfin : Fact (loadP obs = true) := ⟨by unfold loadP; rw [hall.out, hal.out]; rfl⟩
          go_wp2
          go_ret2
          exact .inl ⟨hfin.out, h, habs.out, hok.out, rfl, hm.join hmq⟩
end Go.Proofs.YtpibchjkmaghnaaGreat
namespace Go.Proofs.YtpibchjkmaghnaaGreat
open Go.RowKit Go.Mm
set_option maxHeartbeats 4000000
set_option maxRecDepth 100000
set_option linter.unusedSimpArgs false
def rightKeysB (ks : List Int) : Bool := decide (ks.length ≤ 256) && ks.all (fun k => decide (0 ≤ k)) && decide ks.Nodup
theorem rightKeys_ok (w : World) (A : Option Addr) (n c : Nat) (ks : List Int) (hx : Fact (RdC w 1 (.slice A n c) (nums .i64 ks))) (hn : n ≤ 1048576) :
    Calls Tryz.prog 81 #[.slice A n c] w fun e w' => e = .returned (.bool (rightKeysB ks)) ∧ Gr w w' := by
  have hl := Fact.mk hx.out.nlen
  by_cases q : 256 < n
  · have q' : decide ((n : Int) > 256) = true := decide_eq_true (by omega)
    have hb : Fact (rightKeysB ks = false) := ⟨by unfold rightKeysB; rw [hl.out, decide_eq_false (by omega), Bool.false_and, Bool.false_and]⟩
    go_enter Tryz.func81, Tryz.ntmps81
    go_wp2
    go_ret
    exact ⟨by rw [hb.out]; rfl, Gr.refl w⟩
  have q' : decide ((n : Int) > 256) = false := decide_eq_false (by omega)
  go_enter Tryz.func81, Tryz.ntmps81
  go_wp2
  go_loopw [3] (fun s3 W => ∃ k : Nat, s3 = .int .i64 k ∧ k ≤ n ∧ Fact ((∀ x, x ∈ ks.take k → 0 ≤ x) ∧ (ks.take k).Nodup) ∧ Gr w W) (fun s3 _ => n - (intOf s3).toNat)
  case atStart => exact ⟨0, rfl, by omega, ⟨by simp, by simp⟩, Gr.refl w⟩
  case round =>
    obtain ⟨k, rfl, hk, hgd, hgr⟩ := hrel
    by_cases hlt : k < n
    · obtain ⟨b, o, rfl, gk, _⟩ := (hx.out.gr hgr).num k hlt
      have hkl : k < ks.length := by rw [hl.out]; exact hlt
      have hsk := take_snoc' ks k hkl
      have hxm : ks.getD k 0 ∈ ks := by rw [List.getD_eq_getElem?_getD, List.getElem?_eq_getElem hkl]; exact List.getElem_mem _
      have hcap : n ≤ c := by obtain ⟨_, _, _, e, _, h2, _⟩ := hx.out; cases e; exact h2
      have hpre : ∀ W, Gr w W → RdC W 1 (.slice (some ⟨b, o, none⟩) k c) (nums .i64 (ks.take k)) := fun W hW => by
        have := (hx.out.gr hW).pre k (by omega)
        rwa [Nat.mul_one, show (nums .i64 ks).take k = nums .i64 (ks.take k) by simp [nums, List.map_take]] at this
      generalize ks.getD k 0 = x at gk hsk hxm
      by_cases qx : x < 0
      · have hb : Fact (rightKeysB ks = false) := ⟨by
          unfold rightKeysB
          have : ks.all (fun k => decide (0 ≤ k)) = false := by rw [List.all_eq_false]; exact ⟨x, hxm, by simp; omega⟩
          rw [this, Bool.and_false, Bool.false_and]⟩
        go_upto_region 6 with (fail)
        go_quiet (fail)
        go_wp2
        go_ret
        exact ⟨by rw [hb.out]; rfl, hgr.drewN _⟩
      have qx' : (x < 0) = False := eq_false qx
      have hfind := fun (m : Nat) => find_ok (wr.drewN m) (some ⟨b, o, none⟩) k c (ks.take k) ⟨hpre _ (hgr.drewN m)⟩ (by omega) x
      cases hidx : (ks.take k).idxOf? x with
      | some i =>
        have hb : Fact (rightKeysB ks = false) := ⟨by
          unfold rightKeysB
          have hin : x ∈ ks.take k := idx_mem (by rw [hidx]; rfl)
          have hnd : ¬ ks.Nodup := fun hd => by
            have h1 : (ks.take (k + 1)).Nodup := hd.sublist (List.take_sublist _ _)
            rw [hsk, List.nodup_append] at h1
            exact h1.2.2 x hin x (by simp) rfl
          rw [decide_eq_false hnd, Bool.and_false]⟩
        have hfi : findI (ks.take k) x = (i : Nat) := by unfold findI; rw [hidx]
        rw [hfi] at hfind
        replace hfind := Fact.mk hfind
        have hge : decide ((i : Int) ≥ 0) = true := decide_eq_true (by omega)
        replace qx := Fact.mk qx
        clear hidx hfi hsk hpre
        go_upto_region 6 with (fail)
        go_quiet (exact Calls.quiet_of_same (hfind.out _))
        go_wp2
        go_ret
        exact ⟨by rw [hb.out]; rfl, hgr.drewN _⟩
      | none =>
        have hfi : findI (ks.take k) x = -1 := by unfold findI; rw [hidx]
        rw [hfi] at hfind
        replace hfind := Fact.mk hfind
        have hgd2 : Fact ((∀ z, z ∈ ks.take (k + 1) → 0 ≤ z) ∧ (ks.take (k + 1)).Nodup) := ⟨by
          rw [hsk]
          refine ⟨fun z hz => ?_, ?_⟩
          · rcases List.mem_append.1 hz with hz | hz
            · exact hgd.out.1 z hz
            · simp at hz; omega
          · rw [List.nodup_append]
            exact ⟨hgd.out.2, by simp, fun a ha b hb => by simp at hb; subst hb; exact fun e => idx_nomem hidx (by rw [← e]; exact ha)⟩⟩
        replace qx := Fact.mk qx
        clear hidx hfi hsk hpre
        go_upto_region 6 with (fail)
        go_quiet (exact Calls.quiet_of_same (hfind.out _))
        go_wp2
        go_roundw
        case rel => exact ⟨k + 1, by go_num, by omega, hgd2, hgr.drewN _⟩
        case measure => exact measP_lt hlt
    · obtain rfl : k = n := by omega
      rw [List.take_of_length_le (by rw [hl.out]; exact Nat.le_refl _)] at hgd
      have hb : Fact (rightKeysB ks = true) := ⟨by unfold rightKeysB; rw [hl.out, decide_eq_true (by omega), decide_eq_true hgd.out.2, all_ge.2 hgd.out.1]; rfl⟩
      go_wp2
      go_ret
      exact ⟨by rw [hb.out]; rfl, hgr⟩
end Go.Proofs.YtpibchjkmaghnaaGreat
namespace Go.Proofs.YtpibchjkmaghnaaGreat
open Go.RowKit Go.Mm
set_option maxHeartbeats 4000000
set_option maxRecDepth 100000
set_option linter.unusedSimpArgs false
def tabB (o : Ob) : Bool :=
  if o.kind = 6 then decide ((o.items.length : Int) ≤ 4096) && ((o.keys.length : Int) == 0) && (o.cap == 0 && !o.shut) && (o.fn == 0)
  else if o.kind = 8 then decide ((o.items.length : Int) ≤ 4096) && ((o.keys.length : Int) == 0) && (o.cap == 0 && !o.shut) && decide (0 ≤ o.fn)
  else if o.kind = 9 then decide (1 ≤ o.cap) && decide (o.cap ≤ 64) && decide ((o.items.length : Int) ≤ o.cap) && ((o.keys.length : Int) == 0) && (o.fn == 0)
  else if o.kind = 7 then rightKeysB o.keys && ((o.keys.length : Int) == o.items.length) && (o.cap == 0 && !o.shut) && (o.fn == 0)
  else false
/-- P6.9's table, as the document says it. -/
def refB (l : List Ob) (o : Ob) : Bool := o.items.all (rightV l) && tabB o
theorem refRightO_ok (w : World) (A : Option Addr) (n c : Nat) (xs : List RO) (hx : Fact (ObsR w A n c xs)) (hn : n ≤ 2097152) (x : RO) (hr : Fact (x.reads w)) (hi : x.ob.items.length ≤ 1048576) (hkn : x.ob.keys.length ≤ 1048576)
    (hwf : ∀ v, v ∈ x.ob.items → -9223372036854775808 ≤ v.2 ∧ v.2 ≤ 9223372036854775807) :
    Calls Tryz.prog 47 #[.slice A n c, .agg (cRO x).toArray] w fun e w' => e = .returned (.bool (refB (xs.map (·.ob)) x.ob)) ∧ Gr w w' := by
  obtain ⟨I, ci, KA, kc, ⟨kd, items, keys, fn, cap, sh⟩⟩ := x
  simp only at hi hkn hwf
  obtain ⟨hri, hrk⟩ := hr.out
  simp only at hri hrk
  replace hri := Fact.mk hri
  replace hrk := Fact.mk hrk
  replace hwf := Fact.mk hwf
  clear hr
  have hright := fun (W : World) (hg : Gr w W) (v : V2) (hv : v ∈ items) => refRight_ok w W [] ((Mem.start w).gr hg) A n c xs ⟨hx.out.gr hg⟩ (by omega) v.1 v.2 (hwf.out v hv).1 (hwf.out v hv).2
  generalize xs.map (·.ob) = obs at hright ⊢
  replace hright := Fact.mk hright
  unfold cRO
  go_enter Tryz.func47, Tryz.ntmps47
  go_upto_region 1 with (fail)
  have hm1 := (Mem.start w).alloc (.cells (obC kd I items.length ci KA keys.length kc fn cap sh).toArray 41)
  generalize hgb : w.heap.size = gb at hm1 ⊢
  generalize hw1 : w.alloc (.cells (obC kd I items.length ci KA keys.length kc fn cap sh).toArray 41) = w1 at hm1
  try refine wp_world hw1 ?_
  clear hw1 hgb
  go_wp2
  go_loopw [5] (fun s5 W => ∃ k : Nat, s5 = .int .i64 k ∧ k ≤ items.length ∧ Fact ((items.take k).all (rightV obs) = true) ∧ Mem w W [Blk gb (.cells (obC kd I items.length ci KA keys.length kc fn cap sh).toArray 41)]) (fun s5 _ => items.length - (intOf s5).toNat)
  case atStart => exact ⟨0, rfl, by omega, ⟨rfl⟩, hm1⟩
  case round =>
    obtain ⟨k, rfl, hk, hall, hmr⟩ := hrel
    clear hm1
    have c1 := hmr.cell m0 1 rfl
    by_cases hlt : k < items.length
    · obtain ⟨b, o, hI, g1, g2, _, hkl⟩ := rdV_at (hri.out.gr hmr.below) k hlt
      have hsn := take_all (rightV obs) items k (0, 0) hlt
      have hno := take_all_no (p := rightV obs) (xs := items) (k := k) (d := (0, 0)) hlt
      have hxm : items.getD k (0, 0) ∈ items := by rw [List.getD_eq_getElem?_getD, List.getElem?_eq_getElem hlt]; exact List.getElem_mem _
      have hc := hright.out wr hmr.below _ hxm
      generalize items.getD k (0, 0) = y at g1 g2 hsn hno hc
      rw [hI] at c1
      replace hI := Fact.mk hI
      clear hxm
      cases hr : rightV obs y with
      | false =>
        have hfin : Fact (refB obs ⟨kd, items, keys, fn, cap, sh⟩ = false) := ⟨by unfold refB; rw [hno hr, Bool.false_and]⟩
        rw [show ((y.1, y.2) : V2) = y from rfl, hr] at hc
        replace hc := Fact.mk hc
        clear hno hsn hr
        go_wp2_with (refine wp_rng rfl 35 _ rfl b (o + k * 2) rfl (cV y) (rng2 g1 g2) row_V sz_V ?_)
        refine hc.out.mono ?_
        rintro e w6 ⟨rfl, hg6⟩
        go_wp2
        go_ret
        exact ⟨by rw [hfin.out]; rfl, Gr.trans hmr.below hg6⟩
      | true =>
        rw [show ((y.1, y.2) : V2) = y from rfl, hr] at hc
        rw [hr, hall.out] at hsn
        replace hc := Fact.mk hc
        replace hsn := Fact.mk hsn
        clear hno hr
        go_wp2_with (refine wp_rng rfl 35 _ rfl b (o + k * 2) rfl (cV y) (rng2 g1 g2) row_V sz_V ?_)
        refine hc.out.mono ?_
        rintro e w6 ⟨rfl, hg6⟩
        go_wp2
        go_roundw
        case rel => exact ⟨k + 1, by go_num, by omega, ⟨hsn.out⟩, hmr.gr hg6⟩
        case measure => exact measP_lt hlt
    · obtain rfl : k = items.length := by omega
      rw [List.take_of_length_le (Nat.le_refl _)] at hall
      have hrf : Fact (refB obs ⟨kd, items, keys, fn, cap, sh⟩ = tabB ⟨kd, items, keys, fn, cap, sh⟩) := ⟨by unfold refB; rw [hall.out, Bool.true_and]⟩
      have c0 := hmr.cell m0 0 rfl
      have c2 := hmr.cell m0 2 rfl
      have c3 := hmr.cell m0 3 rfl
      have c4 := hmr.cell m0 4 rfl
      have c5 := hmr.cell m0 5 rfl
      obtain ⟨op, hop⟩ : ∃ op : Bool, op = (cap == 0 && !sh) := ⟨_, rfl⟩
      go_upto_region 7 with (fail)
      go_cut [7] (fun s7 W => s7 = .bool op ∧ W = wr)
      case first =>
        by_cases qc : cap = 0
        · have qc' : (cap == 0) = true := beq_iff_eq.2 qc
          rw [qc', Bool.true_and] at hop
          clear qc
          subst hop
          go_wp2
          go_meet
          case rel => exact ⟨rfl, rfl⟩
        · have qc' : (cap == 0) = false := beq_eq_false_iff_ne.2 qc
          rw [qc', Bool.false_and] at hop
          clear qc
          subst hop
          go_wp2
          go_meet
          case rel => exact ⟨rfl, rfl⟩
      case rest =>
        obtain ⟨rfl, hwc⟩ := hcut
        rw [hwc]
        clear hwc wc
        have hrf2 : refB obs ⟨kd, items, keys, fn, cap, sh⟩ = _ := hrf.out
        unfold tabB at hrf2
        simp only [← hop] at hrf2
        have hrk2 := rightKeys_ok wr KA keys.length kc keys ⟨hrk.out.gr hmr.below⟩ hkn
        clear hop hrf
        by_cases q6 : kd = 6
        · subst q6
          rw [if_pos rfl] at hrf2
          replace hrf2 := Fact.mk hrf2
          clear hrk2
          go_wp2
          all_goals
            go_ret
            exact ⟨by rw [hrf2.out]; simp [*] <;> (intros; omega), hmr.below⟩
        rw [if_neg q6] at hrf2
        by_cases q8 : kd = 8
        · subst q8
          rw [if_pos rfl] at hrf2
          replace hrf2 := Fact.mk hrf2
          clear hrk2
          go_wp2
          all_goals
            go_ret
            exact ⟨by rw [hrf2.out]; simp [*] <;> (intros; omega), hmr.below⟩
        rw [if_neg q8] at hrf2
        by_cases q9 : kd = 9
        · subst q9
          rw [if_pos rfl] at hrf2
          replace hrf2 := Fact.mk hrf2
          clear hrk2
          go_wp2
          all_goals
            go_ret
            exact ⟨by rw [hrf2.out]; simp [*] <;> (intros; omega), hmr.below⟩
        rw [if_neg q9] at hrf2
        by_cases q7 : kd = 7
        · subst q7
          rw [if_pos rfl] at hrf2
          replace hrf2 := Fact.mk hrf2
          replace hrk2 := Fact.mk hrk2
          go_wp2_with fail
          refine hrk2.out.mono ?_
          rintro e w6 ⟨rfl, hg6⟩
          have hm6 := hmr.gr hg6
          have c2 := hm6.cell m0 2 rfl
          have c3 := hm6.cell m0 3 rfl
          have c1 := hm6.cell m0 1 rfl
          cases hb : rightKeysB keys with
          | false =>
            go_wp2
            all_goals
              go_ret
              exact ⟨by rw [hrf2.out, hb]; simp [*], hm6.below⟩
          | true =>
            go_wp2
            all_goals
              go_ret
              exact ⟨by rw [hrf2.out, hb]; simp [*] <;> (intros; omega), hm6.below⟩
        rw [if_neg q7] at hrf2
        replace hrf2 := Fact.mk hrf2
        replace q6 : (kd == 6) = false := beq_eq_false_iff_ne.2 q6
        replace q7 : (kd == 7) = false := beq_eq_false_iff_ne.2 q7
        replace q8 : (kd == 8) = false := beq_eq_false_iff_ne.2 q8
        replace q9 : (kd == 9) = false := beq_eq_false_iff_ne.2 q9
        go_wp2
        go_ret
        exact ⟨by rw [hrf2.out]; rfl, hmr.below⟩
end Go.Proofs.YtpibchjkmaghnaaGreat
