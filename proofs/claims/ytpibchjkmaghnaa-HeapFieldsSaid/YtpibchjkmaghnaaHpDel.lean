/- A heap's records: Delete. -/
import Derived.Test.YtpibchjkmaghnaaHpSetF
import Derived.Test.YtpibchjkmaghnaaDelN
import Derived.Test.YtpibchjkmaghnaaHpAsk
import Derived.Test.YtpibchjkmaghnaaDelV
namespace Go.Proofs.Ytpibchjkmaghnaa
open Go.RowKit Go.Mm
set_option maxHeartbeats 4000000
set_option maxRecDepth 100000
set_option linter.unusedSimpArgs false
/-! ### places of keys, one key struck out -/
theorem idx_some {ks : List Int} (hn : ks.Nodup) {k : Int} {j : Nat} : ks.idxOf? k = some j ↔ ks[j]? = some k := by
  rw [List.idxOf?, List.findIdx?_eq_some_iff_getElem]
  constructor
  · rintro ⟨h, h1, _⟩
    rw [List.getElem?_eq_getElem h]
    simpa using h1
  · intro h
    obtain ⟨hj, e⟩ := List.getElem?_eq_some_iff.1 h
    refine ⟨hj, by simpa using e, fun i hi => ?_⟩
    simp only [beq_iff_eq]
    intro e2
    have := (List.getElem_inj hn).1 (e2.trans e.symm)
    omega
theorem idx_none {ks : List Int} {k : Int} : ks.idxOf? k = none ↔ k ∉ ks := by
  rw [List.idxOf?, List.findIdx?_eq_none_iff]
  constructor
  · intro h hk
    have := h k hk
    simp at this
  · intro h x hx
    simp only [beq_eq_false_iff_ne, ne_eq]
    rintro rfl
    exact h hx
/-- A map of places is right up to place k, and holds just these keys. -/
structure UpTo (ks : List Int) (k : Nat) (f : Int → Option Nat) : Prop where
  done : ∀ i, i < k → ∀ q, ks[i]? = some q → f q = some i
  held : ∀ q, q ∈ ks → (f q).isSome = true
  none : ∀ q, q ∉ ks → f q = none
theorem UpTo.start {ks : List Int} (hn : ks.Nodup) {key : Int} {j : Nat} (hj : ks.idxOf? key = some j) : UpTo (ks.take j ++ ks.drop (j + 1)) j (delF (fun k => ks.idxOf? k) key) := by
  have hk := (idx_some hn).1 hj
  obtain ⟨hjl, hke⟩ := List.getElem?_eq_some_iff.1 hk
  have hmem : ∀ q, q ∈ ks.take j ++ ks.drop (j + 1) ↔ q ∈ ks ∧ q ≠ key := by
    intro q
    have e : ks = ks.take j ++ key :: ks.drop (j + 1) := by
      conv => lhs; rw [← List.take_append_drop j ks, List.drop_eq_getElem_cons hjl, hke]
    have hn2 := hn
    rw [e, List.nodup_append] at hn2
    obtain ⟨n1, n2, n3⟩ := hn2
    have n4 := List.nodup_cons.1 n2
    constructor
    · intro h
      refine ⟨by rw [e]; rcases List.mem_append.1 h with h | h; exact List.mem_append_left _ h; exact List.mem_append_right _ (.tail _ h), ?_⟩
      rintro rfl
      rcases List.mem_append.1 h with h | h
      · exact n3 _ h _ (.head _) rfl
      · exact n4.1 h
    · rintro ⟨h, h2⟩
      rw [e] at h
      rcases List.mem_append.1 h with h | h
      · exact List.mem_append_left _ h
      · rcases List.mem_cons.1 h with h | h
        · exact absurd h h2
        · exact List.mem_append_right _ h
  refine ⟨fun i hi q hq => ?_, fun q hq => ?_, fun q hq => ?_⟩
  · rw [List.getElem?_append_left (by rw [List.length_take]; omega), List.getElem?_take_of_lt hi] at hq
    have h1 : q ≠ key := by
      rintro rfl
      have := (List.getElem?_inj (by omega) hn).1 (hq.trans hk.symm)
      omega
    unfold delF
    rw [if_neg h1]
    exact (idx_some hn).2 hq
  · obtain ⟨h1, h2⟩ := (hmem q).1 hq
    unfold delF
    rw [if_neg h2]
    show (ks.idxOf? q).isSome = true
    cases h : ks.idxOf? q with
    | none => exact absurd h1 (idx_none.1 h)
    | some _ => rfl
  · unfold delF
    by_cases h2 : q = key
    · rw [if_pos h2]
    · rw [if_neg h2]
      exact idx_none.2 fun h1 => hq ((hmem q).2 ⟨h1, h2⟩)
theorem UpTo.step {ks : List Int} (hn : ks.Nodup) {k : Nat} {f : Int → Option Nat} (h : UpTo ks k f) {q : Int} (hq : ks[k]? = some q) : UpTo ks (k + 1) (updF f q k) := by
  have hm := List.mem_of_getElem? hq
  refine ⟨fun i hi x hx => ?_, fun x hx => ?_, fun x hx => ?_⟩
  · unfold updF
    by_cases e : x = q
    · subst e
      rw [if_pos rfl]
      obtain ⟨hk, _⟩ := List.getElem?_eq_some_iff.1 hq
      rw [(List.getElem?_inj hk hn).1 (hq.trans hx.symm)]
    · rw [if_neg e]
      refine h.done i ?_ x hx
      rcases Nat.lt_succ_iff_lt_or_eq.1 hi with h1 | h1
      · exact h1
      · subst h1; rw [hq] at hx; exact absurd (Option.some.inj hx).symm e
  · unfold updF
    split
    · rfl
    · exact h.held x hx
  · unfold updF
    rw [if_neg (fun e => hx (by rw [e]; exact hm))]
    exact h.none x hx
theorem UpTo.all {ks : List Int} (hn : ks.Nodup) {f : Int → Option Nat} (h : UpTo ks ks.length f) (q : Int) : f q = ks.idxOf? q := by
  by_cases hq : q ∈ ks
  · obtain ⟨i, hi⟩ := List.mem_iff_getElem?.1 hq
    obtain ⟨hil, _⟩ := List.getElem?_eq_some_iff.1 hi
    rw [h.done i hil q hi, (idx_some hn).2 hi]
  · rw [h.none q hq, idx_none.2 hq]
def dropK (ks : List Int) (j : Nat) : List Int := ks.take j ++ ks.drop (j + 1)
def dropV (xs : List V2) (j : Nat) : List V2 := xs.take j ++ xs.drop (j + 1)
theorem dropK_len {ks : List Int} {j : Nat} (h : j < ks.length) : (dropK ks j).length = ks.length - 1 := by unfold dropK; rw [List.length_append, List.length_take, List.length_drop]; omega
theorem dropV_len {xs : List V2} {j : Nat} (h : j < xs.length) : (dropV xs j).length = xs.length - 1 := by unfold dropV; rw [List.length_append, List.length_take, List.length_drop]; omega
theorem nums_cut (ks : List Int) (j : Nat) : (nums .i64 ks).take j ++ (nums .i64 ks).drop (j + 1) = nums .i64 (dropK ks j) := by simp [nums, dropK, List.map_take, List.map_drop]
theorem fV_cut (xs : List V2) (j : Nat) : (fV xs).take (j * 2) ++ (fV xs).drop (j * 2 + 2) = fV (dropV xs j) := by
  have e1 : (fV xs).take (j * 2) = fV (xs.take j) := (flatMap_take cV 2 cV_len xs j).symm
  have e2 : (fV xs).drop (j * 2 + 2) = fV (xs.drop (j + 1)) := by
    rw [show j * 2 + 2 = (j + 1) * 2 by omega]
    exact (flatMap_drop cV 2 cV_len xs (j + 1)).symm
  rw [e1, e2, dropV, fV_app]
theorem dropK_nodup {ks : List Int} (h : ks.Nodup) (j : Nat) : (dropK ks j).Nodup := by
  have hs : (dropK ks j).Sublist ks := by
    unfold dropK
    conv => rhs; rw [← List.take_append_drop j ks]
    exact List.Sublist.append (List.Sublist.refl _) (by rw [← List.drop_drop]; exact List.drop_sublist 1 _)
  exact h.sublist hs
theorem dropK_mem {ks : List Int} {j : Nat} {k : Int} (h : k ∈ dropK ks j) : k ∈ ks := by
  rcases List.mem_append.1 h with h | h
  · exact List.mem_of_mem_take h
  · exact List.mem_of_mem_drop h
theorem deleteYes_ok (w0 w : World) (L : List Chunk) (h : Hp) (hm : Mem w0 w (HpC h :: L)) (hok : Fact h.Ok) (K N key : Int) (hw : Fact ((Lit.int .i64 key).wf = true)) (i : Nat) (hn : nm h.objs (K, N) = some i) (t : Th) (ht : Fact (h.ths.getD i th0 = t)) (hk : Fact (t.ob.kind = 7)) (j : Nat) (hj : Fact (t.ob.keys.idxOf? key = some j)) :
    Calls Try.prog 23 #[.pointer (some ⟨h.g, 0, none⟩), .agg #[.int .i64 K, .int .i64 N], .int .i64 key] w fun e w' => e = .returned (.int .i64 0) ∧ ∃ t' : Th, t'.ob = { t.ob with items := dropV t.ob.items j, keys := dropK t.ob.keys j } ∧ t'.Ok ∧ Mem w0 w' (HpC (h.upd i t') :: L) := by
  have hil := (nm_in hn).1
  have has := Fact.mk (asK_yes hn ht.out 7 hk.out)
  have htk := th_at hok.out hil ht.out
  have hkl := htk.keys hk.out
  have hsz := htk.size
  have hjl := idx_lt hj.out
  have hlk := Fact.mk (dropK_len hjl)
  have hlv := Fact.mk (dropV_len (xs := t.ob.items) (j := j) (by omega))
  have hnd := Fact.mk (dropK_nodup htk.nodup j)
  have hst := Fact.mk (UpTo.start htk.nodup hj.out)
  have hwf : Fact (∀ k, k ∈ dropK t.ob.keys j → (Lit.int .i64 k).wf = true) := ⟨fun k hk => htk.wf k (dropK_mem hk)⟩
  have hfin : Fact (∀ W A c KA kc mp, Mem w0 W (recCh t.g A (t.ob.items.length - 1) c KA (t.ob.keys.length - 1) kc mp (dropV t.ob.items j) (dropK t.ob.keys j) ++ (h.rest i ++ L)) → ∃ t' : Th, t'.ob = { t.ob with items := dropV t.ob.items j, keys := dropK t.ob.keys j } ∧ t'.Ok ∧ Mem w0 W (HpC (h.upd i t') :: L)) := ⟨fun W A c KA kc mp hW => ⟨_, rfl, fields_ok htk hk.out A _ c KA _ kc mp _ _ (by rw [hlv.out]; omega) (by rw [hlv.out, hlk.out]; omega) hnd.out hwf.out, Hp.clsR i hil t ht.out hk.out _ _ _ _ _ _ _ _ _ hW⟩⟩
  have hjv : j < t.ob.items.length := by omega
  have hkb : t.ob.keys.length ≤ 1048576 := by omega
  replace hkl := Fact.mk hkl
  clear hn
  go_enter Try.func23, Try.ntmps23
  go_upto_region 1 with (fail)
  have hm1 := hm.alloc (.cells [.int .i64 K, .int .i64 N].toArray 27)
  generalize hgb : w.heap.size = gb at hm1 ⊢
  generalize hw1 : w.alloc (.cells [.int .i64 K, .int .i64 N].toArray 27) = w1 at hm1
  try refine wp_world hw1 ?_
  clear hw1 hgb
  go_wp2_with (refine wp_rng rfl 27 _ rfl gb 0 rfl (cV (K, N)) (rng_blk hm1 m0) row_V sz_V ?_)
  refine (record_at w0 w1 _ h hm1 m1 hok K N).mono ?_
  rintro e w2 ⟨rfl, hg2⟩
  rw [has.out]
  simp only [trapK]
  have hm2 := (hm1.gr hg2).swap
  obtain ⟨c0, _, c2, _, _, hM, en, ekn⟩ := Hp.readR hm2 i hil t ht.out hk.out
  have hlook := mapOk_look hM key hw.out
  rw [hj.out] at hlook
  simp only [Option.isSome_some, Option.getD_some] at hlook
  obtain ⟨b, hb⟩ : ∃ b, t.mp = some b := by
    cases hmp : t.mp with
    | none =>
      rw [hmp] at hM
      have hM : t.ob.keys = [] := hM
      rw [hM] at hjl
      cases hjl
    | some b => exact ⟨b, rfl⟩
  have hm3 := Hp.opnR hm2 i hil t ht.out hk.out
  rw [en, ekn, hb] at hm3
  rw [hb] at c2 hlook
  obtain ⟨R, hR⟩ : ∃ R, R = h.rest i ++ (Blk gb (.cells [.int .i64 K, .int .i64 N].toArray 27) :: L) := ⟨_, rfl⟩
  rw [← hR] at hm3
  replace hR := Fact.mk hR
  replace hm3 : Mem w0 w2 (Blk t.g (.cells (recC t.A t.ob.items.length t.c t.KA t.ob.keys.length t.kc (some b)).toArray 110) :: Own 2 (.slice t.A t.ob.items.length t.c) (fV t.ob.items) :: Own 1 (.slice t.KA t.ob.keys.length t.kc) (nums .i64 t.ob.keys) :: MapC (some b) t.ob.keys :: R) := hm3
  clear hM hm1 hm2
  have ej : IntKind.i64.wrap ((j : Int) + 1) = (j : Int) + 1 := IntWalk.i64_in _ (by omega)
  go_wp2_with fail
  refine (delN_ok w0 w2 _ t.KA t.ob.keys.length t.kc (nums .i64 t.ob.keys) hm3.pull2 j hjl (by have := hkl.out; omega) j (j + 1) rfl rfl).mono ?_
  rintro e w4 ⟨rfl, hm4⟩
  rw [nums_cut] at hm4
  clear hlook c0 c2 hm3
  have hm4s := hm4.swap
  go_wp2_with (refine wp_setat rfl 50 _ _ rfl t.g 0 rfl 110 _ [.slice t.KA (t.ob.keys.length - 1) t.kc] (recC t.A t.ob.items.length t.c t.KA (t.ob.keys.length - 1) t.kc (some b)) (.slice t.KA (t.ob.keys.length - 1) t.kc) rfl rfl hm4s sz_Is' (by simp [recC]) (one_one rfl) rfl ?_; intro w5 hm5; have c1 := hm5.cell m0 1 rfl)
  refine (delV_ok w0 w5 _ t.A t.ob.items.length t.c (fV t.ob.items) hm5.pull2 j hjv hsz j (j + 1) rfl rfl).mono ?_
  rintro e w6 ⟨rfl, hm6⟩
  rw [fV_cut] at hm6
  clear c1 hm5 hm4 hm4s
  have hm6s := hm6.swap
  go_upto_region 10 with (first | (refine wp_setat rfl 30 _ _ rfl t.g 1 rfl 110 _ [.slice t.A (t.ob.items.length - 1) t.c] (recC t.A (t.ob.items.length - 1) t.c t.KA (t.ob.keys.length - 1) t.kc (some b)) (.slice t.A (t.ob.items.length - 1) t.c) rfl rfl hm6s sz_Vs' (by simp [recC]) (one_one rfl) rfl ?_; intro w7 hm7; have c2 := hm7.cell m0 2 rfl; have hm7f := Mem.toF hm7.pull3) | (at_delete; refine wp_mapdel rfl _ _ rfl b _ (fun k => t.ob.keys.idxOf? k) rfl hm7f key rfl hw.out (by show (t.ob.keys.idxOf? key).isSome = true; rw [hj.out]; rfl) ?_; intro w8 hm8))
  clear c2 hm7f hm7 hm6s hm6
  go_wp2
  go_loopw [11] (fun s11 W => ∃ (k : Nat) (f : Int → Option Nat), s11 = .int .i64 k ∧ k ≤ t.ob.keys.length - 1 ∧ UpTo (dropK t.ob.keys j) k f ∧ Mem w0 W (MapF b (t.ob.keys.length - 1) f :: Blk t.g (.cells (recC t.A (t.ob.items.length - 1) t.c t.KA (t.ob.keys.length - 1) t.kc (some b)).toArray 110) :: Own 2 (.slice t.A (t.ob.items.length - 1) t.c) (fV (dropV t.ob.items j)) :: Own 1 (.slice t.KA (t.ob.keys.length - 1) t.kc) (nums .i64 (dropK t.ob.keys j)) :: R)) (fun s11 _ => (t.ob.keys.length - 1) - (intOf s11).toNat)
  case atStart => exact ⟨j, _, rfl, by omega, hst.out, hm8⟩
  case round =>
    obtain ⟨k, f, rfl, hkk, hup, hmr⟩ := hrel
    clear hm8
    have hup := Fact.mk hup
    by_cases hlt : k < t.ob.keys.length - 1
    · have hmd := hmr.drew
      have hks := hmd.rd m3
      obtain ⟨qb, qo, hqA, hqc, _⟩ := hks.num k hlt
      replace hqA := Fact.mk hqA
      have hqk : (dropK t.ob.keys j)[k]? = some ((dropK t.ob.keys j).getD k 0) := by
        rw [List.getD_eq_getElem?_getD, List.getElem?_eq_getElem (by rw [hlk.out]; exact hlt)]
        rfl
      generalize (dropK t.ob.keys j).getD k 0 = q at hqc hqk
      have hqw := Fact.mk (hwf.out q (List.mem_of_getElem? hqk))
      have hqs := hup.out.held q (List.mem_of_getElem? hqk)
      have hqs := Fact.mk hqs
      have hst2 := Fact.mk (hup.out.step hnd.out hqk)
      clear hqk hks
      have c0 := hmr.cell m1 0 rfl
      go_upto_region 13 with (fail)
      clear c0
      have c0 := hmd.cell m1 0 rfl
      have c2 := hmd.cell m1 2 rfl
      rw [hqA.out] at c0
      refine wp_region_still_tail 12 (by kernel_rfl) (by kernel_rfl) ?_
      simp only [List.take_succ_cons, List.take_zero, List.drop_succ_cons, List.drop_zero]
      repeat still_step
      refine wpStill_nil ?_
      go_wp2_with (refine wp_mapput rfl _ _ _ rfl b (t.ob.keys.length - 1) f rfl hmd (by unfold maxLen; omega) q rfl hqw.out k rfl (by omega) ?_; intro w9 hm9)
      rw [if_pos hqs.out] at hm9
      go_roundw
      case rel => exact ⟨k + 1, _, by go_num, by omega, hst2.out, hm9⟩
      case measure => exact measP_lt hlt
    · obtain rfl : k = t.ob.keys.length - 1 := by omega
      have c0 := hmr.cell m1 0 rfl
      go_wp2
      go_ret
      have hup2 := hup.out
      rw [← hlk.out] at hup2
      have hz := (Mem.toC (ks := dropK t.ob.keys j) hmr (by rw [hlk.out]; exact Nat.le_refl _) (fun q _ => hup2.all hnd.out q)).back2.swap.back2
      rw [hR.out] at hz
      refine ⟨rfl, hfin.out wr t.A t.c t.KA t.kc (some b) ?_⟩
      have hz3 : Mem w0 wr (recCh t.g t.A (t.ob.items.length - 1) t.c t.KA (t.ob.keys.length - 1) t.kc (some b) (dropV t.ob.items j) (dropK t.ob.keys j) ++ (h.rest i ++ (Blk gb (.cells [.int .i64 K, .int .i64 N].toArray 27) :: L))) := hz.perm (((List.Perm.swap _ _ _).trans ((List.Perm.swap _ _ _).cons _)).cons _)
      exact hz3.sub (List.Sublist.append (List.Sublist.refl _) (List.Sublist.append (List.Sublist.refl _) (List.sublist_cons_self _ _)))
end Go.Proofs.Ytpibchjkmaghnaa
