/- HeapFields: has the record just these fields? And Delete of a key that is not there. -/
import Derived.Test.YtpibchjkmaghnaaHpDel
import Derived.Test.YtpibchjkmaghnaaHpSame
namespace Go.Proofs.Ytpibchjkmaghnaa
open Go.RowKit Go.Mm
set_option maxHeartbeats 4000000
set_option maxRecDepth 100000
set_option linter.unusedSimpArgs false
theorem deleteNo_ok (w0 w : World) (L : List Chunk) (h : Hp) (hm : Mem w0 w (HpC h :: L)) (hok : Fact h.Ok) (K N key : Int) (hw : Fact ((Lit.int .i64 key).wf = true)) (i : Nat) (hn : nm h.objs (K, N) = some i) (t : Th) (ht : Fact (h.ths.getD i th0 = t)) (hk : Fact (t.ob.kind = 7)) (hj : Fact (t.ob.keys.idxOf? key = none)) :
    Calls Try.prog 23 #[.pointer (some ⟨h.g, 0, none⟩), .agg #[.int .i64 K, .int .i64 N], .int .i64 key] w fun e w' => e = .returned (.int .i64 4) ∧ Mem w0 w' (HpC h :: L) := by
  have hil := (nm_in hn).1
  have has := Fact.mk (asK_yes hn ht.out 7 hk.out)
  clear hn
  go_enter Try.func23, Try.ntmps23
  go_upto_region 1 with (fail)
  have hm1 := hm.alloc (.cells [.int .i64 K, .int .i64 N].toArray 27)
  generalize hgb : w.heap.size = gb at hm1 ⊢
  generalize hw1 : w.alloc (.cells [.int .i64 K, .int .i64 N].toArray 27) = w1 at hm1
  try refine wp_world hw1 ?_
  clear hw1 hgb
  go_wp2_with (refine wp_rng rfl 27 _ rfl gb 0 rfl (cV (K, N)) (rng_blk hm1 m0) row_V sz_V ?_)
  refine (record_at w0 w1 _ h hm1 m1 hok K N).mono ?_
  rintro e w2 ⟨rfl, hg2⟩
  rw [has.out]
  simp only [trapK]
  have hm2 := hm1.gr hg2
  obtain ⟨_, _, c2, _, _, hM, _, _⟩ := Hp.readR (hm2.swap) i hil t ht.out hk.out
  have hlook := mapOk_look hM key hw.out
  rw [hj.out] at hlook
  simp only [Option.isSome_none, Option.getD_none] at hlook
  clear hM hm1
  go_wp2
  go_ret
  exact ⟨rfl, hm2.tail⟩
theorem there_step {ks : List Int} {k : Nat} {key q : Int} (h : ks[k]? = some q) : (((ks.take k).idxOf? key).isSome || decide (q = key)) = ((ks.take (k + 1)).idxOf? key).isSome := by
  obtain ⟨hk, e⟩ := List.getElem?_eq_some_iff.1 h
  rw [List.take_succ_eq_append_getElem hk, e, idx_app]
  cases (ks.take k).idxOf? key with
  | some i => rfl
  | none =>
    rw [List.idxOf?_cons]
    by_cases q2 : q = key
    · subst q2; simp
    · rw [decide_eq_false q2, if_neg (by simpa using q2)]; rfl
theorem fieldsAre_ok (w0 w : World) (L : List Chunk) (h : Hp) (hm : Mem w0 w (HpC h :: L)) (hok : Fact h.Ok) (t : Th) (hth : Fact (h.ths = [t])) (ks : List Int) (vs : List V2) (hob : Fact (t.ob = ⟨7, vs, ks, 0, 0, false⟩)) (hlen : Fact (vs.length = ks.length)) (hkn : ks.length ≤ 1048576) (KA : Option Addr) (kc : Nat) (VA : Option Addr) (vc : Nat)
    (hkm : Fact (Own 1 (.slice KA ks.length kc) (nums .i64 ks) ∈ L)) (hvm : Fact (Own 2 (.slice VA ks.length vc) (fV vs) ∈ L)) (key : Int) (hw : Fact ((Lit.int .i64 key).wf = true)) :
    Calls Try.prog 25 #[.pointer (some ⟨h.g, 0, none⟩), .agg #[.int .i64 7, .int .i64 0], .slice KA ks.length kc, .slice VA ks.length vc, .int .i64 key] w fun e w' => e = .returned (.bool true) ∧ Mem w0 w' (HpC h :: L) := by
  have hnm : nm h.objs (7, 0) = some 0 := by simp [nm, Hp.objs, hth.out, hob.out]
  have hgt : Fact (h.ths.getD 0 th0 = t) := ⟨by simp [hth.out]⟩
  have hk7 : Fact (t.ob.kind = 7) := ⟨by rw [hob.out]⟩
  have htk := Fact.mk (th_at hok.out (by rw [hth.out]; simp) hgt.out)
  have hwfs : Fact (∀ q, q ∈ ks → (Lit.int .i64 q).wf = true) := ⟨fun q hq => htk.out.wf q (by rw [hob.out]; exact hq)⟩
  have hnd : Fact ks.Nodup := ⟨by have := htk.out.nodup; rw [hob.out] at this; exact this⟩
  have hobj := fun (w1 : World) (L1 : List Chunk) (hm1 : Mem w0 w1 (HpC h :: L1)) => object_ok w0 w1 L1 h hm1 hok 0
  have his : h.abs.is 0 = true := by simp [Hs.is, Hp.abs, Hp.objs, hth.out]
  have hat : h.abs.at 0 = ⟨7, vs, ks, 0, 0, false⟩ := by unfold Hs.at; rw [his]; simp [Hp.abs, Hp.objs, hth.out, hob.out]
  rw [his, hat] at hobj
  replace hobj := Fact.mk hobj
  have hfld : Fact (∀ (w1 : World) (L1 : List Chunk) (q : Int) (x : V2) (k : Nat), Mem w0 w1 (HpC h :: L1) → ks[k]? = some q → vs[k]? = some x → Calls Try.prog 63 #[.pointer (some ⟨h.g, 0, none⟩), .agg #[.int .i64 7, .int .i64 0], .int .i64 q] w1 fun e w' => e = .returned (.tuple #[.agg #[.int .i64 x.1, .int .i64 x.2], .int .i64 0]) ∧ Mem w0 w' (HpC h :: L1)) := ⟨fun w1 L1 q x k hm1 hq hx => by
    have h1 := field_ok w0 w1 L1 h hm1 hok 7 0 q ⟨hwfs.out q (List.mem_of_getElem? hq)⟩ 0 hnm t hgt hk7
    have e1 : ks.idxOf? q = some k := (idx_some hnd.out).2 hq
    have e2 : fldV t.ob q = x := by unfold fldV; rw [hob.out]; simp only [e1]; rw [List.getD_eq_getElem?_getD, hx]; rfl
    have e3 : fldT t.ob q = 0 := by unfold fldT; rw [hob.out]; simp only [e1]
    rw [e2, e3] at h1
    exact h1⟩
  have hhas := fun (w1 : World) (L1 : List Chunk) (hm1 : Mem w0 w1 (HpC h :: L1)) => has_ok w0 w1 L1 h hm1 hok 7 0 key hw 0 hnm t hgt hk7
  rw [show t.ob.keys = ks by rw [hob.out]] at hhas
  replace hhas := Fact.mk hhas
  clear his hat hnm
  go_enter Try.func25, Try.ntmps25
  go_upto_region 1 with (fail)
  have hm1 := hm.alloc (.cells [.int .i64 7, .int .i64 0].toArray 27)
  generalize hgb : w.heap.size = g6 at hm1 ⊢
  generalize hw1 : w.alloc (.cells [.int .i64 7, .int .i64 0].toArray 27) = w1 at hm1
  try refine wp_world hw1 ?_
  clear hw1 hgb
  have x1 := hm1.cell m0 1 rfl
  go_wp2_with fail
  refine (hobj.out w1 _ hm1.swap).mono ?_
  rintro e w2 ⟨v, rfl, A2, d2, K2, k2, rfl, hm2⟩
  simp only at hm2
  rw [hlen.out] at hm2
  simp only
  rw [hlen.out]
  clear hm1 x1 hobj
  go_upto_region 4 with (refine wp_setrow rfl 71 _ _ rfl w2.heap.size rfl 71 _ (obC 7 A2 ks.length d2 K2 ks.length k2 0 0 false) rfl (hm2.alloc _) sz_O rfl (obC_one _ _ _ _ _ _ _ _ _ _) ?_; intro w3 hm3; have y1 := hm3.cell m0 1 rfl; have y2 := hm3.cell m0 2 rfl)
  generalize w2.heap.size = g11 at hm3 y1 y2 ⊢
  clear y1 y2 hm2
  have hm4 : Mem w0 w3 (HpC h :: Blk g11 (.cells (obC 7 A2 ks.length d2 K2 ks.length k2 0 0 false).toArray 71) :: Own 2 (.slice A2 ks.length d2) (fV vs) :: Own 1 (.slice K2 ks.length k2) (nums .i64 ks) :: Blk g6 (.cells [.int .i64 7, .int .i64 0].toArray 27) :: L) := hm3.pull3
  clear hm3
  go_wp2
  go_loopw [13, 14] (fun s13 s14 W => ∃ (k : Nat), s13 = .bool ((ks.take k).idxOf? key).isSome ∧ s14 = .int .i64 k ∧ k ≤ ks.length ∧ Mem w0 W (HpC h :: Blk g11 (.cells (obC 7 A2 ks.length d2 K2 ks.length k2 0 0 false).toArray 71) :: Own 2 (.slice A2 ks.length d2) (fV vs) :: Own 1 (.slice K2 ks.length k2) (nums .i64 ks) :: Blk g6 (.cells [.int .i64 7, .int .i64 0].toArray 27) :: L)) (fun _ s14 _ => ks.length - (intOf s14).toNat)
  case atStart => exact ⟨0, rfl, rfl, by omega, hm4⟩
  case round =>
    obtain ⟨k, rfl, rfl, hkk, hmr⟩ := hrel
    clear hm4
    by_cases hlt : k < ks.length
    · obtain ⟨q, hq⟩ : ∃ q, ks[k]? = some q := ⟨_, List.getElem?_eq_getElem hlt⟩
      obtain ⟨x, hx⟩ : ∃ x, vs[k]? = some x := ⟨_, List.getElem?_eq_getElem (by rw [hlen.out]; exact hlt)⟩
      have hqd : ks.getD k 0 = q := by rw [List.getD_eq_getElem?_getD, hq]; rfl
      have hxd : vs.getD k (0, 0) = x := by rw [List.getD_eq_getElem?_getD, hx]; rfl
      have hkm5 : Own 1 (.slice KA ks.length kc) (nums .i64 ks) ∈ HpC h :: Blk g11 (.cells (obC 7 A2 ks.length d2 K2 ks.length k2 0 0 false).toArray 71) :: Own 2 (.slice A2 ks.length d2) (fV vs) :: Own 1 (.slice K2 ks.length k2) (nums .i64 ks) :: Blk g6 (.cells [.int .i64 7, .int .i64 0].toArray 27) :: L := .tail _ (.tail _ (.tail _ (.tail _ (.tail _ hkm.out))))
      obtain ⟨qb, qo, rfl, hqc, _⟩ := (hmr.rd hkm5).num k hlt
      rw [hqd] at hqc
      have hkq : Fact (∀ W, Mem w0 W (HpC h :: Blk g11 (.cells (obC 7 A2 ks.length d2 K2 ks.length k2 0 0 false).toArray 71) :: Own 2 (.slice A2 ks.length d2) (fV vs) :: Own 1 (.slice K2 ks.length k2) (nums .i64 ks) :: Blk g6 (.cells [.int .i64 7, .int .i64 0].toArray 27) :: L) → W.cell? ⟨qb, qo + k, none⟩ = some (.int .i64 q)) := ⟨fun W hW => by
        obtain ⟨b', o', e', hc', _⟩ := (hW.rd hkm5).num k hlt
        cases e'
        rw [hqd] at hc'
        exact hc'⟩
      clear hqd hqc hkm5
      replace hq := Fact.mk hq
      replace hx := Fact.mk hx
      replace hxd := Fact.mk hxd
      have hm5 := hmr.drew
      have hS : wr.drew.cell? ⟨g6, 0, none⟩ = some (.int .i64 7) ∧ wr.drew.cell? ⟨g6, 1, none⟩ = some (.int .i64 0) ∧ Fact (wr.drew.cell? ⟨qb, qo + k, none⟩ = some (.int .i64 q)) := ⟨hm5.cell m4 0 rfl, hm5.cell m4 1 rfl, ⟨hkq.out _ hm5⟩⟩
      go_upto_region 8 with (fail)
      refine wp_region_until (S := fun W => W.cell? ⟨g6, 0, none⟩ = some (.int .i64 7) ∧ W.cell? ⟨g6, 1, none⟩ = some (.int .i64 0) ∧ Fact (W.cell? ⟨qb, qo + k, none⟩ = some (.int .i64 q))) 12 (by kernel_rfl) ?_
      generalize wr.drew = w5 at hm5 hS ⊢
      clear hmr
      refine wpAnyU_take 0 (v := ?vsa0) rfl (by kernel_rfl) (by kernel_rfl) (fun _ _ _ h => h) hS (Or.inl ⟨rfl, ?ysa0⟩) ?rsa0
      case ysa0 =>
        intro W hW
        obtain ⟨hW0, hW1, hW2⟩ := hW
        go_simp
        try with_reducible rfl
      try simp only [Act.put, List.getElem_toArray, List.getElem_cons_succ, List.getElem_cons_zero, List.setIfInBounds_toArray, List.set_cons_zero, List.set_cons_succ]
      refine wpAnyU_take 1 (v := ?vsa1) rfl (by kernel_rfl) (by kernel_rfl) (fun _ _ _ h => h) hS (Or.inl ⟨rfl, ?ysa1⟩) ?rsa1
      case ysa1 =>
        intro W hW
        obtain ⟨hW0, hW1, hW2⟩ := hW
        go_simp
        try with_reducible rfl
      try simp only [Act.put, List.getElem_toArray, List.getElem_cons_succ, List.getElem_cons_zero, List.setIfInBounds_toArray, List.set_cons_zero, List.set_cons_succ]
      refine wpAnyU_take 2 (v := ?vsa2) rfl (by kernel_rfl) (by kernel_rfl) (fun _ _ _ h => h) hS (Or.inl ⟨rfl, ?ysa2⟩) ?rsa2
      case ysa2 =>
        intro W hW
        obtain ⟨hW0, hW1, hW2⟩ := hW
        go_simp
        try with_reducible rfl
      try simp only [Act.put, List.getElem_toArray, List.getElem_cons_succ, List.getElem_cons_zero, List.setIfInBounds_toArray, List.set_cons_zero, List.set_cons_succ]
      refine wpAnyU_take 3 (v := ?vsa3) rfl (by kernel_rfl) (by kernel_rfl) (fun _ _ _ h => h) hS (Or.inl ⟨rfl, ?ysa3⟩) ?rsa3
      case ysa3 =>
        intro W hW
        obtain ⟨hW0, hW1, hW2⟩ := hW
        go_simp
        try with_reducible rfl
      try simp only [Act.put, List.getElem_toArray, List.getElem_cons_succ, List.getElem_cons_zero, List.setIfInBounds_toArray, List.set_cons_zero, List.set_cons_succ]
      refine wpAnyU_take 4 (v := ?vsa4) rfl (by kernel_rfl) (by kernel_rfl) (fun _ _ _ h => h) hS (Or.inl ⟨rfl, ?ysa4⟩) ?rsa4
      case ysa4 =>
        intro W hW
        obtain ⟨hW0, hW1, hW2⟩ := hW
        go_simp
        try with_reducible rfl
      try simp only [Act.put, List.getElem_toArray, List.getElem_cons_succ, List.getElem_cons_zero, List.setIfInBounds_toArray, List.set_cons_zero, List.set_cons_succ]
      refine wpAnyU_take 5 (v := .int .i64 q) rfl (by kernel_rfl) (by kernel_rfl) (fun _ _ _ h => h) hS (Or.inl ⟨rfl, ?yz5⟩) ?rz5
      case yz5 =>
        intro W hW
        obtain ⟨hW0, hW1, hW2⟩ := hW
        replace hW2 := hW2.out
        go_simp
      try simp only [Act.put, List.getElem_toArray, List.getElem_cons_succ, List.getElem_cons_zero, List.setIfInBounds_toArray, List.set_cons_zero, List.set_cons_succ]
      refine wpAnyU_two 6 10 (by kernel_rfl) rfl rfl (fun K hK => ?_) (fun K hK => ?_)
      · skip
        refine step_call rfl 63 Try.f63 Try.func63 (by kernel_rfl) (by kernel_rfl) _ _ rfl #[.pointer (some ⟨h.g, 0, none⟩), .agg #[.int .i64 7, .int .i64 0], .int .i64 q] (by simp [Act.eval]) ?_
        refine (hfld.out w5 _ q x k hm5 hq.out hx.out).mono ?_
        rintro e w6 ⟨rfl, hm6⟩
        refine ⟨_, rfl, ?_⟩
        have hT : w6.cell? ⟨g6, 0, none⟩ = some (.int .i64 7) ∧ w6.cell? ⟨g6, 1, none⟩ = some (.int .i64 0) ∧ Fact (w6.cell? ⟨qb, qo + k, none⟩ = some (.int .i64 q)) := ⟨hm6.cell m4 0 rfl, hm6.cell m4 1 rfl, ⟨hkq.out _ hm6⟩⟩
        refine hK _ _ (fun _ => hT) ?_
        clear hK K hS hm5
        try simp only [Act.put, List.getElem_toArray, List.getElem_cons_succ, List.getElem_cons_zero, List.setIfInBounds_toArray, List.set_cons_zero, List.set_cons_succ]
        refine wpAnyU_take 7 (v := ?vsb7) rfl (by kernel_rfl) (by kernel_rfl) (fun _ _ _ h => h) hT (Or.inl ⟨rfl, ?ysb7⟩) ?rsb7
        case ysb7 =>
          intro W hW
          obtain ⟨hW0, hW1, hW2⟩ := hW
          go_simp
          try with_reducible rfl
        try simp only [Act.put, List.getElem_toArray, List.getElem_cons_succ, List.getElem_cons_zero, List.setIfInBounds_toArray, List.set_cons_zero, List.set_cons_succ]
        refine wpAnyU_take 8 (v := ?vsb8) rfl (by kernel_rfl) (by kernel_rfl) (fun _ _ _ h => h) hT (Or.inl ⟨rfl, ?ysb8⟩) ?rsb8
        case ysb8 =>
          intro W hW
          obtain ⟨hW0, hW1, hW2⟩ := hW
          go_simp
          try with_reducible rfl
        try simp only [Act.put, List.getElem_toArray, List.getElem_cons_succ, List.getElem_cons_zero, List.setIfInBounds_toArray, List.set_cons_zero, List.set_cons_succ]
        refine wpAnyU_take 9 (v := ?vsb9) rfl (by kernel_rfl) (by kernel_rfl) (fun _ _ _ h => h) hT (Or.inl ⟨rfl, ?ysb9⟩) ?rsb9
        case ysb9 =>
          intro W hW
          obtain ⟨hW0, hW1, hW2⟩ := hW
          go_simp
          try with_reducible rfl
        try simp only [Act.put, List.getElem_toArray, List.getElem_cons_succ, List.getElem_cons_zero, List.setIfInBounds_toArray, List.set_cons_zero, List.set_cons_succ]
        refine wpAnyU_one 10 (by kernel_rfl) rfl (fun K hK => ?_)
        go_simp
        have hm8 := hm6.alloc (.cells [.int .i64 0, .int .i64 0].toArray 27)
        refine hK _ _ (fun _ => ⟨hm8.cell m5 0 rfl, hm8.cell m5 1 rfl, ⟨hkq.out _ hm8.tail⟩⟩) ?_
        clear hK K hT
        generalize w6.heap.size = g15 at hm8 ⊢
        clear hm6
        try simp only [Act.put, List.getElem_toArray, List.getElem_cons_succ, List.getElem_cons_zero, List.setIfInBounds_toArray, List.set_cons_zero, List.set_cons_succ]
        refine wpAnyU_one 11 (by kernel_rfl) rfl (fun K hK => ?_)
        refine step_setrow rfl 27 _ _ rfl g15 rfl 27 _ [.int .i64 x.1, .int .i64 x.2] rfl hm8 sz_V rfl (cV_one x) ?_
        intro w9 hm9
        refine hK _ _ (fun _ => ⟨hm9.cell m5 0 rfl, hm9.cell m5 1 rfl, Fact.mk (hkq.out _ hm9.tail)⟩) ?_
        clear hK K
        try simp only [Act.put, List.getElem_toArray, List.getElem_cons_succ, List.getElem_cons_zero, List.setIfInBounds_toArray, List.set_cons_zero, List.set_cons_succ]
        refine wpAnyU_one 12 (by kernel_rfl) rfl (fun K hK => ?_)
        go_simp
        refine hK _ _ (fun h => absurd h (by decide)) ?_
        clear hK K
        try simp only [Act.put, List.getElem_toArray, List.getElem_cons_succ, List.getElem_cons_zero, List.setIfInBounds_toArray, List.set_cons_zero, List.set_cons_succ]
        refine wpAnyU_done (by kernel_rfl) ?_ _
        clear hm8
        go_upto_region 9 with (fail)
        have e1 := hm9.cell m2 1 rfl
        have e2 := hm9.cell m2 2 rfl
        have u0 := hm9.cell m0 0 rfl
        have u1 := hm9.cell m0 1 rfl
        have kq := hkq.out _ hm9.tail
        obtain ⟨kb, ko, hK2, kc2, _⟩ := (hm9.rd m4).num k hlt
        obtain ⟨ab, ao, hA2, a0, a1, _, _⟩ := rdV_at (hm9.rd m3) k hlt
        obtain ⟨vb, vo, rfl, v0, v1, _, _⟩ := rdV_at (hm9.rd (.tail _ (.tail _ (.tail _ (.tail _ (.tail _ (.tail _ hvm.out))))))) k hlt
        rw [hxd.out] at a0 a1 v0 v1
        rw [show ks.getD k 0 = q by rw [List.getD_eq_getElem?_getD, hq.out]; rfl] at kc2
        rw [hK2] at e2
        rw [hA2] at e1
        clear hK2 hA2
        go_quiet (fail)
        clear e1 e2 u0 u1 kq kc2 a0 a1 v0 v1
        have hm11 := hm9.drewN nq
        clear hm9
        generalize w9.drewN nq = w11 at hm11 ⊢
        have kq := hkq.out _ hm11.tail
        have hstep := Fact.mk (there_step (key := key) hq.out)
        obtain ⟨th, hth2⟩ : ∃ th, th = ((ks.take k).idxOf? key).isSome := ⟨_, rfl⟩
        rw [← hth2] at hstep ⊢
        clear hth2
        cases th with
        | true =>
          go_wp2
          go_roundw
          case rel => exact ⟨k + 1, by rw [← hstep.out]; rfl, by go_num, by omega, hm11.tail⟩
          case measure => exact measP_lt hlt
        | false =>
          go_wp2
          go_roundw
          case rel => exact ⟨k + 1, by rw [← hstep.out]; rfl, by go_num, by omega, hm11.tail⟩
          case measure => exact measP_lt hlt
      · go_simp
        have hm7 := hm5.alloc (.cells [.int .i64 0, .int .i64 0].toArray 27)
        have hT : (w5.alloc (.cells [.int .i64 0, .int .i64 0].toArray 27)).cell? ⟨g6, 0, none⟩ = some (.int .i64 7) ∧ (w5.alloc (.cells [.int .i64 0, .int .i64 0].toArray 27)).cell? ⟨g6, 1, none⟩ = some (.int .i64 0) ∧ Fact ((w5.alloc (.cells [.int .i64 0, .int .i64 0].toArray 27)).cell? ⟨qb, qo + k, none⟩ = some (.int .i64 q)) := ⟨hm7.cell m5 0 rfl, hm7.cell m5 1 rfl, ⟨hkq.out _ hm7.tail⟩⟩
        refine hK _ _ (fun _ => hT) ?_
        clear hK K hS
        generalize w5.heap.size = g15 at hm7 ⊢
        generalize w5.alloc (.cells [.int .i64 0, .int .i64 0].toArray 27) = w6 at hm7 hT ⊢
        clear hm5
        try simp only [Act.put, List.getElem_toArray, List.getElem_cons_succ, List.getElem_cons_zero, List.setIfInBounds_toArray, List.set_cons_zero, List.set_cons_succ]
        refine wpAnyU_one 6 (by kernel_rfl) rfl (fun K hK => ?_)
        refine step_call rfl 63 Try.f63 Try.func63 (by kernel_rfl) (by kernel_rfl) _ _ rfl #[.pointer (some ⟨h.g, 0, none⟩), .agg #[.int .i64 7, .int .i64 0], .int .i64 q] (by simp [Act.eval]) ?_
        refine (hfld.out w6 _ q x k hm7.swap hq.out hx.out).mono ?_
        rintro e w7 ⟨rfl, hm6⟩
        refine ⟨_, rfl, ?_⟩
        have hU : w7.cell? ⟨g6, 0, none⟩ = some (.int .i64 7) ∧ w7.cell? ⟨g6, 1, none⟩ = some (.int .i64 0) ∧ Fact (w7.cell? ⟨qb, qo + k, none⟩ = some (.int .i64 q)) := ⟨hm6.cell m5 0 rfl, hm6.cell m5 1 rfl, ⟨hkq.out _ hm6.drop2⟩⟩
        refine hK _ _ (fun _ => hU) ?_
        clear hK K hT hm7
        try simp only [Act.put, List.getElem_toArray, List.getElem_cons_succ, List.getElem_cons_zero, List.setIfInBounds_toArray, List.set_cons_zero, List.set_cons_succ]
        refine wpAnyU_take 7 (v := ?vsc7) rfl (by kernel_rfl) (by kernel_rfl) (fun _ _ _ h => h) hU (Or.inl ⟨rfl, ?ysc7⟩) ?rsc7
        case ysc7 =>
          intro W hW
          obtain ⟨hW0, hW1, hW2⟩ := hW
          go_simp
          try with_reducible rfl
        try simp only [Act.put, List.getElem_toArray, List.getElem_cons_succ, List.getElem_cons_zero, List.setIfInBounds_toArray, List.set_cons_zero, List.set_cons_succ]
        refine wpAnyU_take 8 (v := ?vsc8) rfl (by kernel_rfl) (by kernel_rfl) (fun _ _ _ h => h) hU (Or.inl ⟨rfl, ?ysc8⟩) ?rsc8
        case ysc8 =>
          intro W hW
          obtain ⟨hW0, hW1, hW2⟩ := hW
          go_simp
          try with_reducible rfl
        try simp only [Act.put, List.getElem_toArray, List.getElem_cons_succ, List.getElem_cons_zero, List.setIfInBounds_toArray, List.set_cons_zero, List.set_cons_succ]
        refine wpAnyU_take 9 (v := ?vsc9) rfl (by kernel_rfl) (by kernel_rfl) (fun _ _ _ h => h) hU (Or.inl ⟨rfl, ?ysc9⟩) ?rsc9
        case ysc9 =>
          intro W hW
          obtain ⟨hW0, hW1, hW2⟩ := hW
          go_simp
          try with_reducible rfl
        try simp only [Act.put, List.getElem_toArray, List.getElem_cons_succ, List.getElem_cons_zero, List.setIfInBounds_toArray, List.set_cons_zero, List.set_cons_succ]
        have hm8 := hm6.swap
        clear hm6
        refine wpAnyU_one 11 (by kernel_rfl) rfl (fun K hK => ?_)
        refine step_setrow rfl 27 _ _ rfl g15 rfl 27 _ [.int .i64 x.1, .int .i64 x.2] rfl hm8 sz_V rfl (cV_one x) ?_
        intro w9 hm9
        refine hK _ _ (fun _ => ⟨hm9.cell m5 0 rfl, hm9.cell m5 1 rfl, Fact.mk (hkq.out _ hm9.tail)⟩) ?_
        clear hK K
        try simp only [Act.put, List.getElem_toArray, List.getElem_cons_succ, List.getElem_cons_zero, List.setIfInBounds_toArray, List.set_cons_zero, List.set_cons_succ]
        refine wpAnyU_one 12 (by kernel_rfl) rfl (fun K hK => ?_)
        go_simp
        refine hK _ _ (fun h => absurd h (by decide)) ?_
        clear hK K
        try simp only [Act.put, List.getElem_toArray, List.getElem_cons_succ, List.getElem_cons_zero, List.setIfInBounds_toArray, List.set_cons_zero, List.set_cons_succ]
        refine wpAnyU_done (by kernel_rfl) ?_ _
        clear hm8
        go_upto_region 9 with (fail)
        have e1 := hm9.cell m2 1 rfl
        have e2 := hm9.cell m2 2 rfl
        have u0 := hm9.cell m0 0 rfl
        have u1 := hm9.cell m0 1 rfl
        have kq := hkq.out _ hm9.tail
        obtain ⟨kb, ko, hK2, kc2, _⟩ := (hm9.rd m4).num k hlt
        obtain ⟨ab, ao, hA2, a0, a1, _, _⟩ := rdV_at (hm9.rd m3) k hlt
        obtain ⟨vb, vo, rfl, v0, v1, _, _⟩ := rdV_at (hm9.rd (.tail _ (.tail _ (.tail _ (.tail _ (.tail _ (.tail _ hvm.out))))))) k hlt
        rw [hxd.out] at a0 a1 v0 v1
        rw [show ks.getD k 0 = q by rw [List.getD_eq_getElem?_getD, hq.out]; rfl] at kc2
        rw [hK2] at e2
        rw [hA2] at e1
        clear hK2 hA2
        go_quiet (fail)
        clear e1 e2 u0 u1 kq kc2 a0 a1 v0 v1
        have hm11 := hm9.drewN nq
        clear hm9
        generalize w9.drewN nq = w11 at hm11 ⊢
        have kq := hkq.out _ hm11.tail
        have hstep := Fact.mk (there_step (key := key) hq.out)
        obtain ⟨th, hth2⟩ : ∃ th, th = ((ks.take k).idxOf? key).isSome := ⟨_, rfl⟩
        rw [← hth2] at hstep ⊢
        clear hth2
        cases th with
        | true =>
          go_wp2
          go_roundw
          case rel => exact ⟨k + 1, by rw [← hstep.out]; rfl, by go_num, by omega, hm11.tail⟩
          case measure => exact measP_lt hlt
        | false =>
          go_wp2
          go_roundw
          case rel => exact ⟨k + 1, by rw [← hstep.out]; rfl, by go_num, by omega, hm11.tail⟩
          case measure => exact measP_lt hlt
    · obtain rfl : k = ks.length := by omega
      have z0 := hmr.cell m4 0 rfl
      have z1 := hmr.cell m4 1 rfl
      rw [List.take_of_length_le (Nat.le_refl _)]
      go_wp2_with (refine wp_rng rfl 27 _ rfl g6 0 rfl (cV (7, 0)) (rng_blk hmr m4) row_V sz_V ?_)
      refine (hhas.out wr _ hmr).mono ?_
      rintro e w5 ⟨rfl, hm5⟩
      obtain ⟨bb, hbb⟩ : ∃ bb, bb = (ks.idxOf? key).isSome := ⟨_, rfl⟩
      rw [← hbb]
      clear hbb
      go_wp2_with fail
      go_ret
      exact ⟨rfl, hm5.sub (List.Sublist.cons_cons _ (.cons _ (.cons _ (.cons _ (List.sublist_cons_self _ _)))))⟩
end Go.Proofs.Ytpibchjkmaghnaa
