/- A heap that is only read: Len, Object. -/
import Derived.Test.YtgflfpepfpekhaaHpSb
namespace Go.Proofs.Ytgflfpepfpekhaa
open Go.RowKit Go.Mm
set_option maxHeartbeats 4000000
set_option maxRecDepth 100000
theorem Mem.solo {w : World} {c : Chunk} (h : c.ok w) (hf : ∀ k, c.foot k → k < w.heap.size) : Mem { w with heap := #[] } w [c] :=
  ⟨⟨rfl, rfl, rfl, by simp, fun k hk => by simp at hk⟩, by simpa using h, fun d hd k hk => by simp at hd; subst hd; exact ⟨by simp, hf k hk⟩, by simp⟩
/-- A heap lies there. -/
structure HpR (w : World) (h : Hp) : Prop where
  ok : (HpC h).ok w
  low : ∀ k, (HpC h).foot k → k < w.heap.size
theorem HpR.gr {w w' : World} {h : Hp} (hr : HpR w h) (hg : Gr w w') : HpR w' h :=
  ⟨(HpC h).loc w w' (fun k hk => hg.block k (hr.low k hk)) hr.ok, fun k hk => Nat.lt_of_lt_of_le (hr.low k hk) hg.size⟩
theorem Mem.hpR {w0 w : World} {L : List Chunk} {h : Hp} (hm : Mem w0 w L) (hh : HpC h ∈ L) : HpR w h := ⟨hm.ok _ hh, fun k hk => (hm.rng _ hh k hk).2⟩
theorem heapLenR_ok (w : World) (h : Hp) (hr : HpR w h) :
    Calls Try.prog 69 #[.pointer (some ⟨h.g, 0, none⟩)] w fun e w' => e = .returned (.int .i64 h.objs.length) ∧ w' = w := by
  have := heapLen_ok _ w _ h (Mem.solo hr.ok hr.low) (.head _)
  rwa [← h.abs_len] at this
theorem objectR_ok (w : World) (h : Hp) (hr : Fact (HpR w h)) (hok : Fact h.Ok) (k : Nat) (hk : k < h.objs.length) :
    Calls Try.prog 70 #[.pointer (some ⟨h.g, 0, none⟩), .int .i64 k] w fun e w' => ∃ v, e = .returned (.tuple #[v, .bool true]) ∧ ObQ w [] (h.objs.getD k ob0) v w' := by
  have hlen : h.objs.length = h.ths.length := h.abs_len
  have hk : k < h.ths.length := by omega
  have q0' : decide ((k : Int) < 0) = false := decide_eq_false (by omega)
  have q1' : decide ((k : Int) ≥ h.ths.length) = false := decide_eq_false (by omega)
  have hat : h.objs.getD k ob0 = (h.ths.getD k th0).ob := by
    simp [Hp.objs, hk]
  obtain ⟨t, ht⟩ : ∃ t, h.ths.getD k th0 = t := ⟨_, rfl⟩
  rw [hat, ht]
  clear hat hlen
  replace ht := Fact.mk ht
  have hm0 := (Mem.start w).alloc (.cells (obC 0 none 0 0 none 0 0 0 0 false).toArray 124)
  go_enter Try.func70, Try.ntmps70
  go_upto_region 1 with (fail)
  generalize hgb : w.heap.size = gb at hm0 ⊢
  generalize hw1 : w.alloc (.cells (obC 0 none 0 0 none 0 0 0 0 false).toArray 124) = w1 at hm0
  try refine wp_world hw1 ?_
  clear hw1 hgb
  have hr1 := hr.out.gr hm0.below
  obtain ⟨_, _, c2, _, _, hat⟩ := Hp.read (Mem.solo hr1.ok hr1.low) (.head _)
  obtain ⟨b, o, hA, r1, hcs⟩ := hat k hk
  have htk : (h.ths.getD k th0).Ok := by
    have := hok.out.each _ (List.getElem_mem hk)
    simpa [hk] using this
  clear hat hr1
  rw [ht.out] at r1 hcs htk
  rw [hA] at c2
  have hI := Fact.mk (objI_ok w w1 _ hm0 t htk hcs)
  have htk := Fact.mk htk
  clear hcs
  have hv : ∃ T p, t.val = .iface T (.pointer (some ⟨p, 0, none⟩)) := ⟨_, _, rfl⟩
  obtain ⟨T, p, hv⟩ := hv
  rw [hv] at r1 hI
  clear hv
  go_wp2_with (first | (refine wp_inv rfl _ _ _ _ (by rfl) (.iface T (.pointer (some ⟨p, 0, none⟩))) (by rfl) [] (by rfl) (hI.out.mono ?_); rintro e w2 ⟨v, rfl, A2, d2, K2, k2, rfl, hm2⟩; refine ⟨_, rfl, ?_⟩) | (refine wp_setrow rfl 124 _ _ rfl gb rfl 124 _ (obC t.ob.kind A2 t.ob.items.length d2 K2 t.ob.keys.length k2 t.ob.fn t.ob.cap t.ob.shut) rfl (hm2.perm ((List.Perm.swap _ _ _).cons _ |>.trans (List.Perm.swap _ _ _))) sz_O rfl (obC_one _ _ _ _ _ _ _ _ _ _) ?_; intro w3 hm3))
  exact bodyPost_ret (Mm.res_cell_tmp rfl _ gb 124 (obC t.ob.kind A2 t.ob.items.length d2 K2 t.ob.keys.length k2 t.ob.fn t.ob.cap t.ob.shut) (0, 0) rfl hm3 m0 row_O sz_O) rfl ⟨_, rfl, A2, d2, K2, k2, rfl, hm3.tail⟩
end Go.Proofs.Ytgflfpepfpekhaa
