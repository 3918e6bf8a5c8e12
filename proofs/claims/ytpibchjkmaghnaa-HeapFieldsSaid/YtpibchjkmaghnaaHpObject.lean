/- A heap's Object. -/
import Derived.Test.YtpibchjkmaghnaaHpObj
namespace Go.Proofs.Ytpibchjkmaghnaa
open Go.RowKit Go.Mm
set_option maxHeartbeats 4000000
set_option maxRecDepth 100000
/-- An object handed out: in memory of its own. -/
def ObQ (w0 : World) (L : List Chunk) (o : Ob) (v : Value) (w : World) : Prop := ∃ A c K k, v = .agg (obC o.kind A o.items.length c K o.keys.length k o.fn o.cap o.shut).toArray ∧ Mem w0 w (Own 2 (.slice A o.items.length c) (fV o.items) :: Own 1 (.slice K o.keys.length k) (nums .i64 o.keys) :: L)
theorem mobA (a : Addr) (w : World) : (callMethod (.iface 104 (.pointer (some a))) "portage/heap.object" #[]).run Try.prog w = .ok (.enter 139 #[.pointer (some a)]) w := by kernel_rfl
theorem mobR (a : Addr) (w : World) : (callMethod (.iface 107 (.pointer (some a))) "portage/heap.object" #[]).run Try.prog w = .ok (.enter 143 #[.pointer (some a)]) w := by kernel_rfl
theorem mobB (a : Addr) (w : World) : (callMethod (.iface 145 (.pointer (some a))) "portage/heap.object" #[]).run Try.prog w = .ok (.enter 148 #[.pointer (some a)]) w := by kernel_rfl
theorem mobC (a : Addr) (w : World) : (callMethod (.iface 95 (.pointer (some a))) "portage/heap.object" #[]).run Try.prog w = .ok (.enter 134 #[.pointer (some a)]) w := by kernel_rfl
/-- What a thing's chunks say. -/
theorem Th.reads {t : Th} {w : World} (h : ∀ c, c ∈ t.chunks → c.ok w) : (∀ (i : Nat) (u : Value), t.cells[i]? = some u → w.cell? ⟨t.g, i, none⟩ = some u) ∧ RdC w 2 (.slice t.A t.n t.c) (fV t.ob.items) ∧ RdC w 1 (.slice t.KA t.kn t.kc) (nums .i64 t.ob.keys) := by
  have h1 : w.heap[t.g]? = some (.cells t.cells.toArray (thEl t.ob.kind) (0, 0)) := h _ (.head _)
  have h2 : OwnAt 2 (.slice t.A t.n t.c) (fV t.ob.items) w := h _ (.tail _ (.head _))
  have h3 : OwnAt 1 (.slice t.KA t.kn t.kc) (nums .i64 t.ob.keys) w := h _ (.tail _ (.tail _ (.head _)))
  exact ⟨fun i u hu => by rw [cell_of_row w _ _ _ _ _ h1]; simpa using hu, h2.rd, h3.rd⟩
theorem objI_ok (w0 w : World) (L : List Chunk) (hm : Mem w0 w L) (t : Th) (ht : t.Ok) (hc : ∀ c, c ∈ t.chunks → c.ok w) :
    ICalls Try.prog t.val "portage/heap.object" #[] w fun e w' => ∃ v, e = .returned v ∧ ObQ w0 L t.ob v w' := by
  obtain ⟨h0, hx, hk⟩ := Th.reads hc
  have hl := rdV_len hx
  have hkl := RdC.nlen hk
  have hsz := ht.size
  have nk := ht.nokeys
  have nf := ht.fn
  have nc := ht.cap
  have kk := ht.keys
  unfold ObQ
  rw [hl, hkl]
  rcases t.val_of ht.kind with ⟨hkd, hv⟩ | ⟨hkd, hv⟩ | ⟨hkd, hv⟩ | ⟨hkd, hv⟩ <;> rw [hv] <;> rw [hkd] at nk nf nc kk <;> rw [hkd] <;> simp only [Th.cells, hkd] at h0
  · have e1 := nk (by decide)
    have e2 := nf (by decide)
    have e3 := nc (by decide)
    have e4 : t.kn = 0 := by rw [e1] at hkl; exact hkl.symm
    rw [e2, e3.1, e3.2, e4, e1]
    refine ⟨_, _, mobA _ w, (objA_ok w0 w L hm t.g t.A t.n t.c t.ob.items ⟨hx⟩ (by omega) (h0 0 _ rfl)).mono ?_⟩
    rintro e w' ⟨A, c, rfl, hm'⟩
    exact ⟨_, rfl, A, c, none, 0, rfl, (Mem.nil hm' 1 none).swap⟩
  · have e2 := nf (by decide)
    have e3 := nc (by decide)
    have e4 := kk rfl
    rw [e2, e3.1, e3.2]
    refine ⟨_, _, mobR _ w, (objR_ok w0 w L hm t.g t.A t.n t.c t.ob.items ⟨hx⟩ (by omega) t.KA t.kn t.kc t.ob.keys ⟨hk⟩ (by omega) (h0 0 _ rfl) (h0 1 _ rfl)).mono ?_⟩
    rintro e w' ⟨A, c, K, k, rfl, hm'⟩
    exact ⟨_, rfl, A, c, K, k, rfl, hm'⟩
  · have e1 := nk (by decide)
    have e3 := nc (by decide)
    have e4 : t.kn = 0 := by rw [e1] at hkl; exact hkl.symm
    rw [e3.1, e3.2, e4, e1]
    refine ⟨_, _, mobB _ w, (objB_ok w0 w L hm t.g t.ob.fn t.A t.n t.c t.ob.items ⟨hx⟩ (by omega) (h0 0 _ rfl) (h0 1 _ rfl)).mono ?_⟩
    rintro e w' ⟨A, c, rfl, hm'⟩
    exact ⟨_, rfl, A, c, none, 0, rfl, (Mem.nil hm' 1 none).swap⟩
  · have e1 := nk (by decide)
    have e2 := nf (by decide)
    have e4 : t.kn = 0 := by rw [e1] at hkl; exact hkl.symm
    rw [e2, e4, e1]
    refine ⟨_, _, mobC _ w, (objC_ok w0 w L hm t.g t.ob.cap t.ob.shut t.A t.n t.c t.ob.items ⟨hx⟩ (by omega) (h0 0 _ rfl) (h0 1 _ rfl) (h0 2 _ rfl)).mono ?_⟩
    rintro e w' ⟨A, c, rfl, hm'⟩
    exact ⟨_, rfl, A, c, none, 0, rfl, (Mem.nil hm' 1 none).swap⟩
def Hs.is (s : Hs) (i : Int) : Bool := decide (0 ≤ i) && decide (i < s.objs.length)
def Hs.at (s : Hs) (i : Int) : Ob := match s.is i with | true => s.objs.getD i.toNat ob0 | false => ob0
theorem object_ok (w0 w : World) (L : List Chunk) (h : Hp) (hm : Mem w0 w (HpC h :: L)) (hok : Fact h.Ok) (i : Int) :
    Calls Try.prog 37 #[.pointer (some ⟨h.g, 0, none⟩), .int .i64 i] w fun e w' => ∃ v, e = .returned (.tuple #[v, .bool (h.abs.is i)]) ∧ ObQ w0 (HpC h :: L) (h.abs.at i) v w' := by
  have hlen : h.abs.objs.length = h.ths.length := h.abs_len
  by_cases q0 : i < 0
  · have q0' : decide (i < 0) = true := decide_eq_true q0
    have his : h.abs.is i = false := by unfold Hs.is; rw [decide_eq_false (by omega), Bool.false_and]
    unfold Hs.at
    rw [his]
    clear his hlen
    go_enter Try.func37, Try.ntmps37
    go_upto_region 1 with (fail)
    have hm1 := hm.alloc (.cells (obC 0 none 0 0 none 0 0 0 0 false).toArray 71)
    generalize hgb : w.heap.size = gb at hm1 ⊢
    generalize hw1 : w.alloc (.cells (obC 0 none 0 0 none 0 0 0 0 false).toArray 71) = w1 at hm1
    try refine wp_world hw1 ?_
    clear hw1 hgb
    go_wp2_with (refine wp_setrow rfl 71 _ _ rfl gb rfl 71 _ (obC 0 none 0 0 none 0 0 0 0 false) rfl hm1 sz_O rfl (obC_one _ _ _ _ _ _ _ _ _ _) ?_; intro w2 hm2)
    exact bodyPost_ret (Mm.res_cell_tmp rfl _ gb 71 (obC 0 none 0 0 none 0 0 0 0 false) (0, 0) rfl hm2 m0 row_O sz_O) rfl ⟨_, rfl, none, 0, none, 0, rfl, (Mem.nil (Mem.nil hm2.tail 1 none) 2 none)⟩
  have q0' : decide (i < 0) = false := decide_eq_false q0
  by_cases q1 : i < h.ths.length
  · have q1' : decide (i ≥ h.ths.length) = false := decide_eq_false (by omega)
    have his : h.abs.is i = true := by unfold Hs.is; rw [decide_eq_true (by omega), decide_eq_true (by omega)]; rfl
    obtain ⟨k, rfl⟩ := Int.eq_ofNat_of_zero_le (Int.not_lt.1 q0)
    have hk : k < h.ths.length := by omega
    have hat : h.abs.at k = (h.ths.getD k th0).ob := by
      unfold Hs.at
      rw [his]
      simp [Hp.abs, Hp.objs, hk]
    obtain ⟨t, ht⟩ : ∃ t, h.ths.getD k th0 = t := ⟨_, rfl⟩
    rw [his, hat, ht]
    clear his hat hlen
    replace ht := Fact.mk ht
    have hm0 := hm.alloc (.cells (obC 0 none 0 0 none 0 0 0 0 false).toArray 71)
    go_enter Try.func37, Try.ntmps37
    go_upto_region 1 with (fail)
    generalize hgb : w.heap.size = gb at hm0 ⊢
    generalize hw1 : w.alloc (.cells (obC 0 none 0 0 none 0 0 0 0 false).toArray 71) = w1 at hm0
    try refine wp_world hw1 ?_
    clear hw1 hgb hm
    obtain ⟨_, _, c2, _, _, hat⟩ := Hp.read hm0 m1
    obtain ⟨b, o, hA, r1, hcs⟩ := hat k hk
    have htk : (h.ths.getD k th0).Ok := by
      have := hok.out.each _ (List.getElem_mem hk)
      simpa [hk] using this
    clear hat
    rw [ht.out] at r1 hcs htk
    rw [hA] at c2
    have hI := Fact.mk (objI_ok w0 w1 _ hm0 t htk hcs)
    have htk := Fact.mk htk
    clear hcs
    have hv : ∃ T p, t.val = .iface T (.pointer (some ⟨p, 0, none⟩)) := ⟨_, _, rfl⟩
    obtain ⟨T, p, hv⟩ := hv
    rw [hv] at r1 hI
    clear hv
    go_wp2_with (first | (refine wp_inv rfl _ _ _ _ (by rfl) (.iface T (.pointer (some ⟨p, 0, none⟩))) (by rfl) [] (by rfl) (hI.out.mono ?_); rintro e w2 ⟨v, rfl, A2, d2, K2, k2, rfl, hm2⟩; refine ⟨_, rfl, ?_⟩) | (refine wp_setrow rfl 71 _ _ rfl gb rfl 71 _ (obC t.ob.kind A2 t.ob.items.length d2 K2 t.ob.keys.length k2 t.ob.fn t.ob.cap t.ob.shut) rfl (hm2.perm (((List.Perm.swap _ _ _).cons _).trans (List.Perm.swap _ _ _))) sz_O rfl (obC_one _ _ _ _ _ _ _ _ _ _) ?_; intro w3 hm3))
    exact bodyPost_ret (Mm.res_cell_tmp rfl _ gb 71 (obC t.ob.kind A2 t.ob.items.length d2 K2 t.ob.keys.length k2 t.ob.fn t.ob.cap t.ob.shut) (0, 0) rfl hm3 m0 row_O sz_O) rfl ⟨_, rfl, A2, d2, K2, k2, rfl, hm3.tail⟩
  · have q1' : decide (i ≥ h.ths.length) = true := decide_eq_true (by omega)
    have his : h.abs.is i = false := by unfold Hs.is; rw [hlen, decide_eq_false (show ¬ i < (h.ths.length : Int) by omega), Bool.and_false]
    unfold Hs.at
    rw [his]
    clear his hlen
    go_enter Try.func37, Try.ntmps37
    go_upto_region 1 with (fail)
    have hm1 := hm.alloc (.cells (obC 0 none 0 0 none 0 0 0 0 false).toArray 71)
    obtain ⟨_, _, c2, _, _, _⟩ := Hp.read hm1 m1
    generalize hgb : w.heap.size = gb at hm1 ⊢
    generalize hw1 : w.alloc (.cells (obC 0 none 0 0 none 0 0 0 0 false).toArray 71) = w1 at hm1 c2
    try refine wp_world hw1 ?_
    clear hw1 hgb
    go_wp2_with (refine wp_setrow rfl 71 _ _ rfl gb rfl 71 _ (obC 0 none 0 0 none 0 0 0 0 false) rfl hm1 sz_O rfl (obC_one _ _ _ _ _ _ _ _ _ _) ?_; intro w2 hm2)
    exact bodyPost_ret (Mm.res_cell_tmp rfl _ gb 71 (obC 0 none 0 0 none 0 0 0 0 false) (0, 0) rfl hm2 m0 row_O sz_O) rfl ⟨_, rfl, none, 0, none, 0, rfl, (Mem.nil (Mem.nil hm2.tail 1 none) 2 none)⟩
end Go.Proofs.Ytpibchjkmaghnaa
