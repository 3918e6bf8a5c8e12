/- A heap's records: opened and closed; Field, Has. -/
import Derived.Test.YtpibchjkmaghnaaRecPut
namespace Go.Proofs.Ytpibchjkmaghnaa
open Go.RowKit Go.Mm
set_option maxHeartbeats 4000000
set_option maxRecDepth 100000
set_option linter.unusedSimpArgs false
theorem record_at (w0 w : World) (L : List Chunk) (h : Hp) (hm : Mem w0 w L) (hh : HpC h ∈ L) (hok : Fact h.Ok) (K N : Int) :
    Calls Try.prog 60 #[.pointer (some ⟨h.g, 0, none⟩), .agg #[.int .i64 K, .int .i64 N]] w fun e w' => e = .returned (.tuple #[.pointer (asK h (K, N) 7), .int .i64 (trapK (asK h (K, N) 7))]) ∧ Gr w w' := by
  go_enter Try.func60, Try.ntmps60
  go_upto_region 1 with (fail)
  have hm1 := hm.alloc (.cells [.int .i64 K, .int .i64 N].toArray 27)
  generalize hgb : w.heap.size = gb at hm1 ⊢
  generalize hw1 : w.alloc (.cells [.int .i64 K, .int .i64 N].toArray 27) = w1 at hm1
  try refine wp_world hw1 ?_
  have hg1 : Gr w w1 := by rw [← hw1]; exact (Gr.refl w).alloc _
  clear hw1 hgb
  go_wp2_with (refine wp_rng rfl 27 _ rfl gb 0 rfl (cV (K, N)) (rng_blk hm1 m0) row_V sz_V ?_)
  refine (named_ok w0 w1 _ h hm1 (.tail _ hh) hok K N).mono ?_
  rintro e w2 ⟨rfl, hg2⟩
  have hta := tan_R hok.out (K, N) w2
  generalize namedV h (K, N) = nv at hta ⊢
  have hgr : Gr w w2 := hg1.trans hg2
  cases hq : asK h (K, N) 7 with
  | none =>
    rw [hq] at hta
    simp only [Option.isSome] at hta
    go_wp2
    go_ret2
    exact ⟨by rw [hq]; rfl, hgr⟩
  | some a =>
    rw [hq] at hta
    simp only [Option.isSome] at hta
    go_wp2
    go_ret2
    exact ⟨by rw [hq]; rfl, hgr⟩
/-- A record, its fields others. -/
def Th.fields (t : Th) (A : Option Addr) (n c : Nat) (KA : Option Addr) (kn kc : Nat) (mp : Option Nat) (items : List V2) (keys : List Int) : Th := { t with A := A, n := n, c := c, KA := KA, kn := kn, kc := kc, mp := mp, ob := { t.ob with items := items, keys := keys } }
def recCh (g : Nat) (A : Option Addr) (n c : Nat) (KA : Option Addr) (kn kc : Nat) (mp : Option Nat) (items : List V2) (keys : List Int) : List Chunk :=
  [Blk g (.cells (recC A n c KA kn kc mp).toArray 110), Own 2 (.slice A n c) (fV items), Own 1 (.slice KA kn kc) (nums .i64 keys), MapC mp keys]
theorem Th.chunksR (t : Th) (hk : t.ob.kind = 7) : t.chunks = recCh t.g t.A t.n t.c t.KA t.kn t.kc t.mp t.ob.items t.ob.keys := by
  unfold Th.chunks Th.cells thEl recCh recC
  rw [hk]
  rfl
theorem Hp.opnR {w0 w : World} {L : List Chunk} {h : Hp} (hm : Mem w0 w (HpC h :: L)) (i : Nat) (hi : i < h.ths.length) (t : Th) (ht : h.ths.getD i th0 = t) (hk : t.ob.kind = 7) :
    Mem w0 w (recCh t.g t.A t.n t.c t.KA t.kn t.kc t.mp t.ob.items t.ob.keys ++ (h.rest i ++ L)) := by
  have h1 := Hp.opn hm i hi
  rw [ht, t.chunksR hk] at h1
  exact h1
theorem Hp.clsR {w0 w : World} {L : List Chunk} {h : Hp} (i : Nat) (hi : i < h.ths.length) (t : Th) (ht : h.ths.getD i th0 = t) (hk : t.ob.kind = 7) (A : Option Addr) (n c : Nat) (KA : Option Addr) (kn kc : Nat) (mp : Option Nat) (items : List V2) (keys : List Int)
    (hm : Mem w0 w (recCh t.g A n c KA kn kc mp items keys ++ (h.rest i ++ L))) : Mem w0 w (HpC (h.upd i (t.fields A n c KA kn kc mp items keys)) :: L) := by
  refine Hp.cls i hi (t.fields A n c KA kn kc mp items keys) (by rw [ht]; rfl) ?_
  rw [Th.chunksR (t.fields A n c KA kn kc mp items keys) hk]
  exact hm
theorem fields_ok {t : Th} (ht : t.Ok) (hk : t.ob.kind = 7) (A : Option Addr) (n c : Nat) (KA : Option Addr) (kn kc : Nat) (mp : Option Nat) (items : List V2) (keys : List Int) (hl : items.length ≤ 1048576) (hkl : keys.length = items.length) (hnd : keys.Nodup) (hw : ∀ k, k ∈ keys → (Lit.int .i64 k).wf = true) : (t.fields A n c KA kn kc mp items keys).Ok :=
  ⟨ht.kind, hl, fun _ => hkl, fun h7 => absurd hk h7, hnd, hw, ht.fn, ht.cap⟩
/-- What is read of a record. -/
theorem Hp.readR {w0 w : World} {L : List Chunk} {h : Hp} (hm : Mem w0 w (HpC h :: L)) (i : Nat) (hi : i < h.ths.length) (t : Th) (ht : h.ths.getD i th0 = t) (hk : t.ob.kind = 7) :
    w.cell? ⟨t.g, 0, none⟩ = some (.slice t.KA t.ob.keys.length t.kc) ∧ w.cell? ⟨t.g, 1, none⟩ = some (.slice t.A t.ob.items.length t.c) ∧ w.cell? ⟨t.g, 2, none⟩ = some (.map t.mp) ∧ RdC w 2 (.slice t.A t.ob.items.length t.c) (fV t.ob.items) ∧ RdC w 1 (.slice t.KA t.ob.keys.length t.kc) (nums .i64 t.ob.keys) ∧ mapOk t.mp t.ob.keys w ∧ t.n = t.ob.items.length ∧ t.kn = t.ob.keys.length := by
  have h1 := Hp.opnR hm i hi t ht hk
  have hx : RdC w 2 (.slice t.A t.n t.c) (fV t.ob.items) := (h1.ok (Own 2 (.slice t.A t.n t.c) (fV t.ob.items)) (.tail _ (.head _)) : OwnAt _ _ _ _).rd
  have hy : RdC w 1 (.slice t.KA t.kn t.kc) (nums .i64 t.ob.keys) := (h1.ok (Own 1 (.slice t.KA t.kn t.kc) (nums .i64 t.ob.keys)) (.tail _ (.tail _ (.head _))) : OwnAt _ _ _ _).rd
  have e1 := rdV_len hx
  have e2 := RdC.nlen hy
  have hb : Blk t.g (.cells (recC t.A t.n t.c t.KA t.kn t.kc t.mp).toArray 110) ∈ recCh t.g t.A t.n t.c t.KA t.kn t.kc t.mp t.ob.items t.ob.keys ++ (h.rest i ++ L) := .head _
  have c0 := h1.cell hb 0 rfl
  have c1 := h1.cell hb 1 rfl
  have c2 := h1.cell hb 2 rfl
  have hM : mapOk t.mp t.ob.keys w := h1.ok (MapC t.mp t.ob.keys) (.tail _ (.tail _ (.tail _ (.head _))))
  rw [← e1] at c1 hx
  rw [← e2] at c0 hy
  exact ⟨c0, c1, c2, hx, hy, hM, e1.symm, e2.symm⟩
theorem idx_lt {ks : List Int} {k : Int} {j : Nat} (h : ks.idxOf? k = some j) : j < ks.length := by
  rw [List.idxOf?, List.findIdx?_eq_some_iff_getElem] at h
  exact h.1
def fldV (o : Ob) (key : Int) : V2 := match o.keys.idxOf? key with | some j => o.items.getD j (0, 0) | none => (0, 0)
def fldT (o : Ob) (key : Int) : Int := match o.keys.idxOf? key with | some _ => 0 | none => 4
theorem field_ok (w0 w : World) (L : List Chunk) (h : Hp) (hm : Mem w0 w (HpC h :: L)) (hok : Fact h.Ok) (K N key : Int) (hw : Fact ((Lit.int .i64 key).wf = true)) (i : Nat) (hn : nm h.objs (K, N) = some i) (t : Th) (ht : Fact (h.ths.getD i th0 = t)) (hk : Fact (t.ob.kind = 7)) :
    Calls Try.prog 63 #[.pointer (some ⟨h.g, 0, none⟩), .agg #[.int .i64 K, .int .i64 N], .int .i64 key] w fun e w' => e = .returned (.tuple #[.agg #[.int .i64 (fldV t.ob key).1, .int .i64 (fldV t.ob key).2], .int .i64 (fldT t.ob key)]) ∧ Mem w0 w' (HpC h :: L) := by
  have hil := (nm_in hn).1
  have has := Fact.mk (asK_yes hn ht.out 7 hk.out)
  have htk : t.Ok := by
    have := hok.out.each _ (List.getElem_mem hil)
    have e := ht.out
    simp only [List.getD_eq_getElem?_getD, List.getElem?_eq_getElem hil, Option.getD_some] at e
    rw [← e]
    exact this
  have hkl := htk.keys hk.out
  have hsz := htk.size
  clear hn
  have hfv : fldV t.ob key = match t.ob.keys.idxOf? key with | some j => t.ob.items.getD j (0, 0) | none => (0, 0) := rfl
  have hft : fldT t.ob key = match t.ob.keys.idxOf? key with | some _ => 0 | none => 4 := rfl
  generalize fldV t.ob key = V at hfv ⊢
  generalize fldT t.ob key = T at hft ⊢
  replace hfv := Fact.mk hfv
  replace hft := Fact.mk hft
  go_enter Try.func63, Try.ntmps63
  go_upto_region 1 with (fail)
  have hm1 := (hm.alloc (.cells [.int .i64 K, .int .i64 N].toArray 27)).alloc (.cells [.int .i64 0, .int .i64 0].toArray 27)
  simp only [World.size_alloc] at hm1
  generalize hgb : w.heap.size = gb at hm1 ⊢
  generalize hw1 : (w.alloc (.cells [.int .i64 K, .int .i64 N].toArray 27)).alloc (.cells [.int .i64 0, .int .i64 0].toArray 27) = w1 at hm1
  try refine wp_world hw1 ?_
  clear hw1 hgb
  go_wp2_with (refine wp_rng rfl 27 _ rfl gb 0 rfl (cV (K, N)) (rng_blk hm1 m1) row_V sz_V ?_)
  refine (record_at w0 w1 _ h hm1 m2 hok K N).mono ?_
  rintro e w2 ⟨rfl, hg2⟩
  rw [has.out]
  simp only [trapK]
  have hm2 := hm1.gr hg2
  obtain ⟨_, c1, c2, hx, _, hM, _, _⟩ := Hp.readR (hm2.pull2) i hil t ht.out hk.out
  have hlook := mapOk_look hM key hw.out
  clear hM hm1
  cases hq : t.ob.keys.idxOf? key with
  | none =>
    have hV := hfv.out
    have hT := hft.out
    rw [hq] at hlook hV hT
    simp only at hV hT
    subst hV hT
    simp only [Option.isSome_none, Option.getD_none] at hlook
    clear hq hx
    go_wp2_with (refine wp_setrow rfl 27 _ _ rfl (gb + 1) rfl 27 _ [.int .i64 0, .int .i64 0] rfl hm2 sz_V rfl (cV_one (0, 0)) ?_; intro w3 hm3)
    refine bodyPost_ret (Mm.res_cell_tmp rfl _ (gb + 1) 27 [.int .i64 0, .int .i64 0] (0, 0) rfl hm3 m0 row_V sz_V) rfl ⟨rfl, hm3.tail.tail⟩
  | some j =>
    have hV := hfv.out
    have hT := hft.out
    have hj := idx_lt hq
    rw [hq] at hlook hV hT
    simp only at hV hT
    subst hT
    simp only [Option.isSome_some, Option.getD_some] at hlook
    clear hq
    obtain ⟨b, o, hA, g1, g2, _, _⟩ := rdV_at hx j (by omega)
    rw [← hV] at g1 g2
    rw [hA] at c1
    clear hV
    have hjl : j < t.ob.items.length := by omega
    go_wp2_with (first | (refine wp_rng rfl 27 _ rfl b (o + j * 2) rfl (cV V) (rng2 g1 g2) row_V sz_V ?_) | (refine wp_setrow rfl 27 _ _ rfl (gb + 1) rfl 27 _ (cV V) rfl hm2 sz_V rfl (cV_one V) ?_; intro w3 hm3))
    refine bodyPost_ret (Mm.res_cell_tmp rfl _ (gb + 1) 27 (cV V) (0, 0) rfl hm3 m0 row_V sz_V) rfl ⟨rfl, hm3.tail.tail⟩
theorem has_ok (w0 w : World) (L : List Chunk) (h : Hp) (hm : Mem w0 w (HpC h :: L)) (hok : Fact h.Ok) (K N key : Int) (hw : Fact ((Lit.int .i64 key).wf = true)) (i : Nat) (hn : nm h.objs (K, N) = some i) (t : Th) (ht : Fact (h.ths.getD i th0 = t)) (hk : Fact (t.ob.kind = 7)) :
    Calls Try.prog 64 #[.pointer (some ⟨h.g, 0, none⟩), .agg #[.int .i64 K, .int .i64 N], .int .i64 key] w fun e w' => e = .returned (.tuple #[.bool (t.ob.keys.idxOf? key).isSome, .int .i64 0]) ∧ Mem w0 w' (HpC h :: L) := by
  have hil := (nm_in hn).1
  have has := Fact.mk (asK_yes hn ht.out 7 hk.out)
  clear hn
  go_enter Try.func64, Try.ntmps64
  go_upto_region 1 with (fail)
  have hm1 := hm.alloc (.cells [.int .i64 K, .int .i64 N].toArray 27)
  generalize hgb : w.heap.size = gb at hm1 ⊢
  generalize hw1 : w.alloc (.cells [.int .i64 K, .int .i64 N].toArray 27) = w1 at hm1
  try refine wp_world hw1 ?_
  clear hw1 hgb
  go_wp2_with (refine wp_rng rfl 27 _ rfl gb 0 rfl (cV (K, N)) (rng_blk hm1 m0) row_V sz_V ?_)
  refine (record_at w0 w1 _ h hm1 m1 hok K N).mono ?_
  rintro e w2 ⟨rfl, hg2⟩
  rw [has.out]
  simp only [trapK]
  have hm2 := hm1.gr hg2
  obtain ⟨_, _, c2, _, _, hM, _, _⟩ := Hp.readR (hm2.swap) i hil t ht.out hk.out
  have hlook := mapOk_look hM key hw.out
  clear hM hm1
  obtain ⟨q, hq⟩ : ∃ q, q = t.ob.keys.idxOf? key := ⟨_, rfl⟩
  rw [← hq] at hlook
  replace hq := Fact.mk hq
  go_wp2
  go_ret2
  exact ⟨by rw [← hq.out]; rfl, hm2.tail⟩
end Go.Proofs.Ytpibchjkmaghnaa
