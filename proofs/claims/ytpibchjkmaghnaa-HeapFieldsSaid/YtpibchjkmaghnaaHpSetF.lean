/- A heap's records: SetField. -/
import Derived.Test.YtpibchjkmaghnaaHpRec
import Derived.Test.YtpibchjkmaghnaaExt
namespace Go.Proofs.Ytpibchjkmaghnaa
open Go.RowKit Go.Mm
set_option maxHeartbeats 4000000
set_option maxRecDepth 100000
set_option linter.unusedSimpArgs false
theorem th_at {h : Hp} (hok : h.Ok) {i : Nat} (hi : i < h.ths.length) {t : Th} (ht : h.ths.getD i th0 = t) : t.Ok := by
  have := hok.each _ (List.getElem_mem hi)
  have e := ht
  simp only [List.getD_eq_getElem?_getD, List.getElem?_eq_getElem hi, Option.getD_some] at e
  rw [← e]
  exact this
theorem fV_set (xs : List V2) (j : Nat) (x : V2) (h : j < xs.length) : (fV xs).take (j * 2) ++ cV x ++ (fV xs).drop (j * 2 + 2) = fV (xs.set j x) := by
  have e1 : (fV xs).take (j * 2) = fV (xs.take j) := (flatMap_take cV 2 cV_len xs j).symm
  have e2 : (fV xs).drop (j * 2 + 2) = fV (xs.drop (j + 1)) := by
    rw [show j * 2 + 2 = (j + 1) * 2 by omega]
    exact (flatMap_drop cV 2 cV_len xs (j + 1)).symm
  rw [e1, e2, List.set_eq_take_append_cons_drop, if_pos h]
  simp [fV]
/-- SetField: there is a field of that key. -/
theorem setOld_ok (w0 w : World) (L : List Chunk) (h : Hp) (hm : Mem w0 w (HpC h :: L)) (hok : Fact h.Ok) (K N key : Int) (hw : Fact ((Lit.int .i64 key).wf = true)) (X Y : Int) (i : Nat) (hn : nm h.objs (K, N) = some i) (t : Th) (ht : Fact (h.ths.getD i th0 = t)) (hk : Fact (t.ob.kind = 7)) (j : Nat) (hj : Fact (t.ob.keys.idxOf? key = some j)) :
    Calls Try.prog 24 #[.pointer (some ⟨h.g, 0, none⟩), .agg #[.int .i64 K, .int .i64 N], .int .i64 key, .agg #[.int .i64 X, .int .i64 Y]] w fun e w' => e = .returned (.tuple #[.int .i64 0, .bool true]) ∧ ∃ t' : Th, t'.ob = { t.ob with items := t.ob.items.set j (X, Y) } ∧ t'.Ok ∧ Mem w0 w' (HpC (h.upd i t') :: L) := by
  have hil := (nm_in hn).1
  have has := Fact.mk (asK_yes hn ht.out 7 hk.out)
  have htk := th_at hok.out hil ht.out
  have hkl := htk.keys hk.out
  have hsz := htk.size
  have hjl := idx_lt hj.out
  have hfin : Fact (∀ W, Mem w0 W (recCh t.g t.A t.ob.items.length t.c t.KA t.ob.keys.length t.kc t.mp (t.ob.items.set j (X, Y)) t.ob.keys ++ (h.rest i ++ L)) → ∃ t' : Th, t'.ob = { t.ob with items := t.ob.items.set j (X, Y) } ∧ t'.Ok ∧ Mem w0 W (HpC (h.upd i t') :: L)) := ⟨fun W hW => ⟨_, rfl, fields_ok htk hk.out t.A _ t.c t.KA _ t.kc t.mp _ _ (by simpa using hsz) (by simpa using hkl) htk.nodup htk.wf, Hp.clsR i hil t ht.out hk.out _ _ _ _ _ _ _ _ _ hW⟩⟩
  clear hn
  go_enter Try.func24, Try.ntmps24
  go_upto_region 1 with (fail)
  have hm1 := (hm.alloc (.cells [.int .i64 K, .int .i64 N].toArray 27)).alloc (.cells [.int .i64 X, .int .i64 Y].toArray 27)
  simp only [World.size_alloc] at hm1
  generalize hgb : w.heap.size = gb at hm1 ⊢
  generalize hw1 : (w.alloc (.cells [.int .i64 K, .int .i64 N].toArray 27)).alloc (.cells [.int .i64 X, .int .i64 Y].toArray 27) = w1 at hm1
  try refine wp_world hw1 ?_
  clear hw1 hgb
  go_wp2_with (refine wp_rng rfl 27 _ rfl gb 0 rfl (cV (K, N)) (rng_blk hm1 m1) row_V sz_V ?_)
  refine (record_at w0 w1 _ h hm1 m2 hok K N).mono ?_
  rintro e w2 ⟨rfl, hg2⟩
  rw [has.out]
  simp only [trapK]
  have hm2 := hm1.gr hg2
  obtain ⟨_, _, c2, _, _, hM, en, ekn⟩ := Hp.readR (hm2.pull2) i hil t ht.out hk.out
  have hlook := mapOk_look hM key hw.out
  rw [hj.out] at hlook
  simp only [Option.isSome_some, Option.getD_some] at hlook
  clear hM hm1
  go_upto_region 6 with (fail)
  clear hlook c2
  have hm3 := Hp.opnR (L := Blk (gb + 1) (.cells [.int .i64 X, .int .i64 Y].toArray 27) :: Blk gb (.cells [.int .i64 K, .int .i64 N].toArray 27) :: L) (hm2.pull2) i hil t ht.out hk.out
  rw [en, ekn] at hm3
  have hm4 := (show Mem w0 w2 (Blk t.g (.cells (recC t.A t.ob.items.length t.c t.KA t.ob.keys.length t.kc t.mp).toArray 110) :: Own 2 (.slice t.A t.ob.items.length t.c) (fV t.ob.items) :: Own 1 (.slice t.KA t.ob.keys.length t.kc) (nums .i64 t.ob.keys) :: MapC t.mp t.ob.keys :: (h.rest i ++ (Blk (gb + 1) (.cells [.int .i64 X, .int .i64 Y].toArray 27) :: Blk gb (.cells [.int .i64 K, .int .i64 N].toArray 27) :: L))) from hm3).drew
  clear hm3 hm2
  have hxm : Blk (gb + 1) (.cells [.int .i64 X, .int .i64 Y].toArray 27) ∈ Blk t.g (.cells (recC t.A t.ob.items.length t.c t.KA t.ob.keys.length t.kc t.mp).toArray 110) :: Own 2 (.slice t.A t.ob.items.length t.c) (fV t.ob.items) :: Own 1 (.slice t.KA t.ob.keys.length t.kc) (nums .i64 t.ob.keys) :: MapC t.mp t.ob.keys :: (h.rest i ++ (Blk (gb + 1) (.cells [.int .i64 X, .int .i64 Y].toArray 27) :: Blk gb (.cells [.int .i64 K, .int .i64 N].toArray 27) :: L)) := .tail _ (.tail _ (.tail _ (.tail _ (List.mem_append_right _ m0))))
  have x0 := hm4.cell hxm 0 rfl
  have x1 := hm4.cell hxm 1 rfl
  clear hxm
  obtain ⟨b, o, hA⟩ := OwnAt.addr (hm4.ok _ m1) (by have := OwnAt.cap (hm4.ok _ m1); omega)
  rw [hA] at hm4 hfin
  have c1 := hm4.cell m0 1 rfl
  have hji : j < t.ob.items.length := by omega
  refine wp_region_still_tail 6 (by kernel_rfl) (by kernel_rfl) ?_
  simp only [List.take_succ_cons, List.take_zero, List.drop_succ_cons, List.drop_zero]
  repeat still_step
  refine wpStill_nil ?_
  go_wp2_with (refine wp_ownrow rfl 27 _ _ rfl (o + j * 2) (j * 2) rfl rfl [.int .i64 X, .int .i64 Y] rfl hm4.swap sz_V (by rw [fV_len]; simp; omega) (cV_one (X, Y)) ?_; intro w6 hm6)
  go_ret2
  have hz := hm6.swap.sub (List.Sublist.cons_cons _ (List.Sublist.cons_cons _ (List.Sublist.cons_cons _ (List.Sublist.cons_cons _ (List.Sublist.append (List.Sublist.refl _) ((List.sublist_cons_self _ _).trans (List.sublist_cons_self _ _)))))))
  have e5 := fV_set t.ob.items j (X, Y) hji
  refine ⟨rfl, hfin.out w6 ?_⟩
  show Mem w0 w6 (Blk t.g _ :: Own 2 (.slice _ (t.ob.items.length) t.c) (fV (t.ob.items.set j (X, Y))) :: _)
  rw [← e5]
  exact hz
/-- SetField: there is no field of that key, and the record is full. -/
theorem setFull_ok (w0 w : World) (L : List Chunk) (h : Hp) (hm : Mem w0 w (HpC h :: L)) (hok : Fact h.Ok) (K N key : Int) (hw : Fact ((Lit.int .i64 key).wf = true)) (X Y : Int) (i : Nat) (hn : nm h.objs (K, N) = some i) (t : Th) (ht : Fact (h.ths.getD i th0 = t)) (hk : Fact (t.ob.kind = 7)) (hj : Fact (t.ob.keys.idxOf? key = none)) (hf : 256 ≤ t.ob.keys.length) :
    Calls Try.prog 24 #[.pointer (some ⟨h.g, 0, none⟩), .agg #[.int .i64 K, .int .i64 N], .int .i64 key, .agg #[.int .i64 X, .int .i64 Y]] w fun e w' => e = .returned (.tuple #[.int .i64 8, .bool true]) ∧ Mem w0 w' (HpC h :: L) := by
  have hil := (nm_in hn).1
  have has := Fact.mk (asK_yes hn ht.out 7 hk.out)
  have hf' : decide ((t.ob.keys.length : Int) ≥ 256) = true := decide_eq_true (by omega)
  clear hn
  go_enter Try.func24, Try.ntmps24
  go_upto_region 1 with (fail)
  have hm1 := (hm.alloc (.cells [.int .i64 K, .int .i64 N].toArray 27)).alloc (.cells [.int .i64 X, .int .i64 Y].toArray 27)
  simp only [World.size_alloc] at hm1
  generalize hgb : w.heap.size = gb at hm1 ⊢
  generalize hw1 : (w.alloc (.cells [.int .i64 K, .int .i64 N].toArray 27)).alloc (.cells [.int .i64 X, .int .i64 Y].toArray 27) = w1 at hm1
  try refine wp_world hw1 ?_
  clear hw1 hgb
  go_wp2_with (refine wp_rng rfl 27 _ rfl gb 0 rfl (cV (K, N)) (rng_blk hm1 m1) row_V sz_V ?_)
  refine (record_at w0 w1 _ h hm1 m2 hok K N).mono ?_
  rintro e w2 ⟨rfl, hg2⟩
  rw [has.out]
  simp only [trapK]
  have hm2 := hm1.gr hg2
  obtain ⟨c0, _, c2, _, _, hM, en, ekn⟩ := Hp.readR (hm2.pull2) i hil t ht.out hk.out
  have hlook := mapOk_look hM key hw.out
  rw [hj.out] at hlook
  simp only [Option.isSome_none, Option.getD_none] at hlook
  clear hM hm1
  go_wp2
  go_ret2
  exact ⟨rfl, hm2.tail.tail⟩
/-- .. there is room for one more, but the budget is spent. -/
theorem setPoor_ok (w0 w : World) (L : List Chunk) (h : Hp) (hm : Mem w0 w (HpC h :: L)) (hok : Fact h.Ok) (K N key : Int) (hw : Fact ((Lit.int .i64 key).wf = true)) (X Y : Int) (i : Nat) (hn : nm h.objs (K, N) = some i) (t : Th) (ht : Fact (h.ths.getD i th0 = t)) (hk : Fact (t.ob.kind = 7)) (hj : Fact (t.ob.keys.idxOf? key = none)) (hf : t.ob.keys.length < 256) (hr : Fact (h.room 2 = false)) :
    Calls Try.prog 24 #[.pointer (some ⟨h.g, 0, none⟩), .agg #[.int .i64 K, .int .i64 N], .int .i64 key, .agg #[.int .i64 X, .int .i64 Y]] w fun e w' => e = .returned (.tuple #[.int .i64 0, .bool false]) ∧ Mem w0 w' (HpC h :: L) := by
  have hil := (nm_in hn).1
  have has := Fact.mk (asK_yes hn ht.out 7 hk.out)
  have hf' : decide ((t.ob.keys.length : Int) ≥ 256) = false := decide_eq_false (by omega)
  clear hn
  go_enter Try.func24, Try.ntmps24
  go_upto_region 1 with (fail)
  have hm1 := (hm.alloc (.cells [.int .i64 K, .int .i64 N].toArray 27)).alloc (.cells [.int .i64 X, .int .i64 Y].toArray 27)
  simp only [World.size_alloc] at hm1
  generalize hgb : w.heap.size = gb at hm1 ⊢
  generalize hw1 : (w.alloc (.cells [.int .i64 K, .int .i64 N].toArray 27)).alloc (.cells [.int .i64 X, .int .i64 Y].toArray 27) = w1 at hm1
  try refine wp_world hw1 ?_
  clear hw1 hgb
  go_wp2_with (refine wp_rng rfl 27 _ rfl gb 0 rfl (cV (K, N)) (rng_blk hm1 m1) row_V sz_V ?_)
  refine (record_at w0 w1 _ h hm1 m2 hok K N).mono ?_
  rintro e w2 ⟨rfl, hg2⟩
  rw [has.out]
  simp only [trapK]
  have hm2 := hm1.gr hg2
  obtain ⟨c0, _, c2, _, _, hM, en, ekn⟩ := Hp.readR (hm2.pull2) i hil t ht.out hk.out
  have hlook := mapOk_look hM key hw.out
  rw [hj.out] at hlook
  simp only [Option.isSome_none, Option.getD_none] at hlook
  clear hM hm1
  go_wp2_with fail
  have hsp := heapSpend_ok w0 w2 _ h hm2.pull2 hok 2
  rw [show h.spend 2 = h from by unfold Hp.spend; rw [hr.out]; rfl, hr.out] at hsp
  refine hsp.mono ?_
  clear hsp
  rintro e w3 ⟨rfl, hm3⟩
  go_wp2_with fail
  go_ret2
  exact ⟨rfl, hm3.sub (List.Sublist.cons_cons _ ((List.sublist_cons_self _ _).trans (List.sublist_cons_self _ _)))⟩
/-- .. a field more. -/
theorem setNew_ok (w0 w : World) (L : List Chunk) (h : Hp) (hm : Mem w0 w (HpC h :: L)) (hok : Fact h.Ok) (K N key : Int) (hw : Fact ((Lit.int .i64 key).wf = true)) (X Y : Int) (i : Nat) (hn : nm h.objs (K, N) = some i) (t : Th) (ht : Fact (h.ths.getD i th0 = t)) (hk : Fact (t.ob.kind = 7)) (hj : Fact (t.ob.keys.idxOf? key = none)) (hf : t.ob.keys.length < 256) (hr : Fact (h.room 2 = true)) :
    Calls Try.prog 24 #[.pointer (some ⟨h.g, 0, none⟩), .agg #[.int .i64 K, .int .i64 N], .int .i64 key, .agg #[.int .i64 X, .int .i64 Y]] w fun e w' => e = .returned (.tuple #[.int .i64 0, .bool true]) ∧ ∃ t' : Th, t'.ob = { t.ob with items := t.ob.items ++ [(X, Y)], keys := t.ob.keys ++ [key] } ∧ t'.Ok ∧ Mem w0 w' (HpC ((h.spend 2).upd i t') :: L) := by
  have hil := (nm_in hn).1
  have has := Fact.mk (asK_yes hn ht.out 7 hk.out)
  have htk := th_at hok.out hil ht.out
  have hkl := htk.keys hk.out
  have hf' : decide ((t.ob.keys.length : Int) ≥ 256) = false := decide_eq_false (by omega)
  have hths : (h.spend 2).ths = h.ths := by unfold Hp.spend; split <;> rfl
  have hnd : (t.ob.keys ++ [key]).Nodup := by
    rw [List.nodup_append]
    refine ⟨htk.nodup, by simp, fun a ha b hb hab => ?_⟩
    simp only [List.mem_singleton] at hb
    subst hb hab
    have h1 := hj.out
    rw [List.idxOf?, List.findIdx?_eq_none_iff] at h1
    have := h1 a ha
    simp at this
  have hfin : Fact (∀ W A c KA kc mp, Mem w0 W (recCh t.g A (t.ob.items.length + 1) c KA (t.ob.keys.length + 1) kc mp (t.ob.items ++ [(X, Y)]) (t.ob.keys ++ [key]) ++ ((h.spend 2).rest i ++ L)) → ∃ t' : Th, t'.ob = { t.ob with items := t.ob.items ++ [(X, Y)], keys := t.ob.keys ++ [key] } ∧ t'.Ok ∧ Mem w0 W (HpC ((h.spend 2).upd i t') :: L)) := ⟨fun W A c KA kc mp hW => ⟨_, rfl, fields_ok htk hk.out A _ c KA _ kc mp _ _ (by simp; omega) (by simp; omega) hnd (fun k hkm => by
    simp only [List.mem_append, List.mem_singleton] at hkm
    rcases hkm with h1 | rfl
    · exact htk.wf k h1
    · exact hw.out), Hp.clsR i (by rw [hths]; exact hil) t (by rw [hths]; exact ht.out) hk.out _ _ _ _ _ _ _ _ _ hW⟩⟩
  have hths := Fact.mk hths
  clear hn hnd htk
  go_enter Try.func24, Try.ntmps24
  go_upto_region 1 with (fail)
  have hm1 := (hm.alloc (.cells [.int .i64 K, .int .i64 N].toArray 27)).alloc (.cells [.int .i64 X, .int .i64 Y].toArray 27)
  simp only [World.size_alloc] at hm1
  generalize hgb : w.heap.size = gb at hm1 ⊢
  generalize hw1 : (w.alloc (.cells [.int .i64 K, .int .i64 N].toArray 27)).alloc (.cells [.int .i64 X, .int .i64 Y].toArray 27) = w1 at hm1
  try refine wp_world hw1 ?_
  clear hw1 hgb
  go_wp2_with (refine wp_rng rfl 27 _ rfl gb 0 rfl (cV (K, N)) (rng_blk hm1 m1) row_V sz_V ?_)
  refine (record_at w0 w1 _ h hm1 m2 hok K N).mono ?_
  rintro e w2 ⟨rfl, hg2⟩
  rw [has.out]
  simp only [trapK]
  have hm2 := hm1.gr hg2
  obtain ⟨c0, _, c2, _, _, hM, en, ekn⟩ := Hp.readR (hm2.pull2) i hil t ht.out hk.out
  have hlook := mapOk_look hM key hw.out
  rw [hj.out] at hlook
  simp only [Option.isSome_none, Option.getD_none] at hlook
  clear hM hm1
  go_wp2_with fail
  have hsp := heapSpend_ok w0 w2 _ h hm2.pull2 hok 2
  rw [hr.out] at hsp
  refine hsp.mono ?_
  clear hsp
  rintro e w3 ⟨rfl, hm3⟩
  obtain ⟨_, _, _, _, _, _, en3, ekn3⟩ := Hp.readR hm3 i (by rw [hths.out]; exact hil) t (by rw [hths.out]; exact ht.out) hk.out
  have hm4 := Hp.opnR hm3 i (by rw [hths.out]; exact hil) t (by rw [hths.out]; exact ht.out) hk.out
  rw [en3, ekn3] at hm4
  clear hm3 hm2 c0 c2 hlook
  have hxm : Blk (gb + 1) (.cells [.int .i64 X, .int .i64 Y].toArray 27) ∈ recCh t.g t.A t.ob.items.length t.c t.KA t.ob.keys.length t.kc t.mp t.ob.items t.ob.keys ++ ((h.spend 2).rest i ++ (Blk (gb + 1) (.cells [.int .i64 X, .int .i64 Y].toArray 27) :: Blk gb (.cells [.int .i64 K, .int .i64 N].toArray 27) :: L)) := List.mem_append_right _ (List.mem_append_right _ m0)
  have x0 := hm4.cell hxm 0 rfl
  have x1 := hm4.cell hxm 1 rfl
  clear hxm
  go_wp2_with (refine wp_rng rfl 27 _ rfl (gb + 1) 0 rfl (cV (X, Y)) (rng2 x0 x1) row_V sz_V ?_)
  refine (rputYes_ok w0 w3 _ t.g t.A t.c t.KA t.kc t.mp t.ob.keys t.ob.items hm4 key hw.out hj X Y (by omega) (by omega)).mono ?_
  rintro e w5 ⟨rfl, A5, c5, KA5, kc5, mp5, hm5⟩
  clear x0 x1
  go_wp2_with fail
  go_ret2
  have hz : Mem w0 w5 (recCh t.g A5 (t.ob.items.length + 1) c5 KA5 (t.ob.keys.length + 1) kc5 mp5 (t.ob.items ++ [(X, Y)]) (t.ob.keys ++ [key]) ++ ((h.spend 2).rest i ++ (Blk (gb + 1) (.cells [.int .i64 X, .int .i64 Y].toArray 27) :: Blk gb (.cells [.int .i64 K, .int .i64 N].toArray 27) :: L))) := hm5
  exact ⟨rfl, hfin.out _ A5 c5 KA5 kc5 mp5 (hz.sub (List.Sublist.append (List.Sublist.refl _) (List.Sublist.append (List.Sublist.refl _) ((List.sublist_cons_self _ _).trans (List.sublist_cons_self _ _)))))⟩
end Go.Proofs.Ytpibchjkmaghnaa
