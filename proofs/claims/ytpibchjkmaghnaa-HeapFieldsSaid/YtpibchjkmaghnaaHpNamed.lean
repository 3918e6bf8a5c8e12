/- Which object a value names. -/
import Derived.Test.YtpibchjkmaghnaaHpBase
import Derived.Test.YtpibchjkmaghnaaInv
namespace Go.Proofs.Ytpibchjkmaghnaa
open Go.RowKit Go.Mm
set_option maxHeartbeats 2000000
set_option maxRecDepth 100000
/-- What is known of a heap that lies in memory. -/
theorem Hp.read {w0 w : World} {L : List Chunk} {h : Hp} (hm : Mem w0 w L) (hh : HpC h ∈ L) :
    w.cell? ⟨h.g, 0, none⟩ = some (.int .i64 h.budget) ∧ w.cell? ⟨h.g, 1, none⟩ = some (.int .i64 h.spent) ∧ w.cell? ⟨h.g, 2, none⟩ = some (.slice h.A h.ths.length h.c) ∧
      h.ths.length ≤ h.c ∧ h.c ≤ maxLen ∧ ∀ i, i < h.ths.length → ∃ b o, h.A = some ⟨b, o, none⟩ ∧ w.cell? ⟨b, o + i, none⟩ = some (h.ths.getD i th0).val ∧ ∀ c, c ∈ (h.ths.getD i th0).chunks → c.ok w := by
  have ho := hm.ok _ hh
  have hb : w.heap[h.g]? = some (.cells h.cells.toArray 93 (0, 0)) := ho.1 _ (.head _)
  have hs : OwnAt 1 (.slice h.A h.ths.length h.c) (h.ths.map Th.val) w := ho.1 _ (.tail _ (.head _))
  refine ⟨by rw [cell_of_row w _ _ _ _ _ hb]; rfl, by rw [cell_of_row w _ _ _ _ _ hb]; rfl, by rw [cell_of_row w _ _ _ _ _ hb]; rfl, hs.cap.1, hs.cap.2, fun i hi => ?_⟩
  obtain ⟨b, o, c0, e, h1, h2, _⟩ := hs.rd.at1 i hi
  have hg : h.ths.getD i th0 = h.ths[i] := by simp [hi]
  rw [List.getElem?_map, List.getElem?_eq_getElem hi] at h2
  cases h2
  rw [hg]
  refine ⟨b, o, e, h1, fun c hc => ?_⟩
  have ht : (ThC h.ths[i]).ok w := ho.1 _ (.tail _ (.tail _ (List.mem_map_of_mem (List.getElem_mem _))))
  exact ht.1 c hc
theorem kindA_ok (a : Addr) (w : World) : Calls Try.prog 138 #[.pointer (some a)] w fun e w' => e = .returned (.int .i64 6) ∧ w' = w := by
  go_enter Try.func138, Try.ntmps138
  go_wp2
  go_ret
  exact ⟨rfl, rfl⟩
theorem kindR_ok (a : Addr) (w : World) : Calls Try.prog 142 #[.pointer (some a)] w fun e w' => e = .returned (.int .i64 7) ∧ w' = w := by
  go_enter Try.func142, Try.ntmps142
  go_wp2
  go_ret
  exact ⟨rfl, rfl⟩
theorem kindB_ok (a : Addr) (w : World) : Calls Try.prog 147 #[.pointer (some a)] w fun e w' => e = .returned (.int .i64 8) ∧ w' = w := by
  go_enter Try.func147, Try.ntmps147
  go_wp2
  go_ret
  exact ⟨rfl, rfl⟩
theorem kindC_ok (a : Addr) (w : World) : Calls Try.prog 133 #[.pointer (some a)] w fun e w' => e = .returned (.int .i64 9) ∧ w' = w := by
  go_enter Try.func133, Try.ntmps133
  go_wp2
  go_ret
  exact ⟨rfl, rfl⟩
theorem mkindA (a : Addr) (w : World) : (callMethod (.iface 104 (.pointer (some a))) "portage/heap.kind" #[]).run Try.prog w = .ok (.enter 138 #[.pointer (some a)]) w := by kernel_rfl
theorem mkindR (a : Addr) (w : World) : (callMethod (.iface 107 (.pointer (some a))) "portage/heap.kind" #[]).run Try.prog w = .ok (.enter 142 #[.pointer (some a)]) w := by kernel_rfl
theorem mkindB (a : Addr) (w : World) : (callMethod (.iface 145 (.pointer (some a))) "portage/heap.kind" #[]).run Try.prog w = .ok (.enter 147 #[.pointer (some a)]) w := by kernel_rfl
theorem mkindC (a : Addr) (w : World) : (callMethod (.iface 95 (.pointer (some a))) "portage/heap.kind" #[]).run Try.prog w = .ok (.enter 133 #[.pointer (some a)]) w := by kernel_rfl
/-- A value's thing, its kind told. -/
theorem Th.val_of (t : Th) (h : t.ob.kind = 6 ∨ t.ob.kind = 7 ∨ t.ob.kind = 8 ∨ t.ob.kind = 9) :
    (t.ob.kind = 6 ∧ t.val = .iface 104 (.pointer (some ⟨t.g, 0, none⟩))) ∨ (t.ob.kind = 7 ∧ t.val = .iface 107 (.pointer (some ⟨t.g, 0, none⟩))) ∨
      (t.ob.kind = 8 ∧ t.val = .iface 145 (.pointer (some ⟨t.g, 0, none⟩))) ∨ (t.ob.kind = 9 ∧ t.val = .iface 95 (.pointer (some ⟨t.g, 0, none⟩))) := by
  unfold Th.val thTy
  rcases h with h | h | h | h <;> rw [h]
  · exact .inl ⟨rfl, rfl⟩
  · exact .inr (.inl ⟨rfl, rfl⟩)
  · exact .inr (.inr (.inl ⟨rfl, rfl⟩))
  · exact .inr (.inr (.inr ⟨rfl, rfl⟩))
theorem kind_ok (t : Th) (h : t.ob.kind = 6 ∨ t.ob.kind = 7 ∨ t.ob.kind = 8 ∨ t.ob.kind = 9) (w : World) : ICalls Try.prog t.val "portage/heap.kind" #[] w fun e w' => e = .returned (.int .i64 t.ob.kind) ∧ w' = w := by
  rcases t.val_of h with ⟨hk, hv⟩ | ⟨hk, hv⟩ | ⟨hk, hv⟩ | ⟨hk, hv⟩ <;> rw [hk, hv]
  · exact ⟨_, _, mkindA _ w, kindA_ok _ _⟩
  · exact ⟨_, _, mkindR _ w, kindR_ok _ _⟩
  · exact ⟨_, _, mkindB _ w, kindB_ok _ _⟩
  · exact ⟨_, _, mkindC _ w, kindC_ok _ _⟩
/-- The thing that a value names, as an interface's value. -/
def namedV (h : Hp) (v : V2) : Value := match nm h.objs v with | some i => (h.ths.getD i th0).val | none => .nilIface
theorem named_ok (w0 w : World) (L : List Chunk) (h : Hp) (hm : Mem w0 w L) (hh : HpC h ∈ L) (hok : Fact h.Ok) (K N : Int) :
    Calls Try.prog 56 #[.pointer (some ⟨h.g, 0, none⟩), .agg #[.int .i64 K, .int .i64 N]] w fun e w' => e = .returned (namedV h (K, N)) ∧ Gr w w' := by
  have hsz := hok.out.size
  have hlen : Fact (h.objs.length = h.ths.length) := ⟨by simp [Hp.objs]⟩
  go_enter Try.func56, Try.ntmps56
  go_upto_region 1 with (fail)
  have hm1 := hm.alloc (.cells [.int .i64 K, .int .i64 N].toArray 27)
  generalize hgb : w.heap.size = gb at hm1 ⊢
  generalize hw1 : w.alloc (.cells [.int .i64 K, .int .i64 N].toArray 27) = w1 at hm1
  try refine wp_world hw1 ?_
  have hg1 : Gr w w1 := by rw [← hw1]; exact (Gr.refl w).alloc _
  clear hw1 hgb
  have d0 := hm1.cell m0 0 rfl
  have d1 := hm1.cell m0 1 rfl
  obtain ⟨c0, c1, c2, hcap, hcm, hat⟩ := Hp.read hm1 (.tail _ hh)
  by_cases hN : N < 0
  · have hnm : Fact (nm h.objs (K, N) = none) := ⟨by unfold nm; rw [if_neg (by intro q; have := q.1; dsimp only at this; omega)]⟩
    have hN' : decide (N < 0) = true := decide_eq_true hN
    clear hat
    go_quiet (fail)
    go_wp2
    go_ret
    exact ⟨by unfold namedV; rw [hnm.out]; rfl, hg1.drewN _⟩
  · have hN' : decide (N < 0) = false := decide_eq_false hN
    by_cases hN2 : N < h.ths.length
    · obtain ⟨i, rfl⟩ := Int.eq_ofNat_of_zero_le (Int.not_lt.1 hN)
      have hil : i < h.ths.length := by omega
      obtain ⟨b, o, hA, r1, hcs⟩ := hat i hil
      have hkind := (hok.out.each _ (List.getElem_mem hil)).kind
      have hg : h.ths.getD i th0 = h.ths[i] := by simp [hil]
      rw [← hg] at hkind
      have hob : Fact ((h.objs.getD i ob0).kind = (h.ths.getD i th0).ob.kind) := ⟨by simp [Hp.objs, hil]⟩
      have hnm : Fact (nm h.objs (K, (i : Int)) = if (h.ths.getD i th0).ob.kind = K then some i else none) := ⟨by
        unfold nm
        simp only [Int.toNat_natCast, hob.out, hlen.out]
        by_cases q : (h.ths.getD i th0).ob.kind = K
        · rw [if_pos q, if_pos ⟨by omega, by omega, q⟩]
        · rw [if_neg q, if_neg (fun z => q z.2.2)]⟩
      clear hat hg hob hcs
      clear r1
      have hge : decide (h.ths.length ≤ i) = false := decide_eq_false (by omega)
      rw [hA] at c2
      go_quiet (fail)
      have hm2 := hm1.drewN nq
      have hg2 := hg1.drewN nq
      clear d0 d1 c0 c1 c2 hge
      generalize w1.drewN nq = w2 at hm2 hg2 ⊢
      have d0 := hm2.cell m0 0 rfl
      have d1 := hm2.cell m0 1 rfl
      obtain ⟨_, _, c2, _, _, hat⟩ := Hp.read hm2 (.tail _ hh)
      obtain ⟨b', o', hA', r1, _⟩ := hat i hil
      rw [hA] at hA' c2
      cases hA'
      clear hat
      have hval : Fact (namedV h (K, (i : Int)) = if (h.ths.getD i th0).ob.kind = K then (h.ths.getD i th0).val else .nilIface) := ⟨by
        unfold namedV; rw [hnm.out]
        by_cases q : (h.ths.getD i th0).ob.kind = K
        · rw [if_pos q, if_pos q]
        · rw [if_neg q, if_neg q]⟩
      generalize h.ths.getD i th0 = t at r1 hkind hval
      clear hnm
      go_upto_region 3 with (fail)
      go_quiet (fail)
      replace d0 := ((Gr.refl w2).drewN nq).cell d0
      have hg3 := hg2.drewN nq
      clear hm2 d1 c2 r1
      generalize w2.drewN nq = w3 at d0 hg3 ⊢
      have hkd := kind_ok t hkind
      go_upto_region 4 with (fail)
      refine wp_region_quiet_lit (by kernel_rfl) (by kernel_rfl) ?_
      repeat (first | go_big_quiet_skip | (go_big_quiet_want; (first | (refine quiet_inv _ _ _ _ (by rfl) t.val (by rfl) [] (by rfl) (.int .i64 t.ob.kind) hkd ?_; simp only [Act.put, List.setIfInBounds_toArray, List.set_cons_zero, List.set_cons_succ]; go_big_quiet_on) | (go_big_quiet_op; go_big_quiet_on))))
      refine wpQuiet_nil ?_
      rintro _ ⟨nq, rfl⟩

      by_cases q : t.ob.kind = K
      · have q' : decide (t.ob.kind = K) = true := decide_eq_true q
        go_wp2
        go_ret
        exact ⟨by rw [hval.out, if_pos q]; rfl, hg3.drewN _⟩
      · have q' : decide (t.ob.kind = K) = false := decide_eq_false q
        go_wp2
        go_ret
        exact ⟨by rw [hval.out, if_neg q]; rfl, hg3.drewN _⟩
    · have hge : decide (N ≥ (h.ths.length : Int)) = true := decide_eq_true (by omega)
      have hnm : Fact (nm h.objs (K, N) = none) := ⟨by unfold nm; rw [if_neg (by intro q; have := q.2.1; rw [hlen.out] at this; dsimp only at this; omega)]⟩
      clear hat
      go_quiet (fail)
      go_wp2
      go_ret
      exact ⟨by unfold namedV; rw [hnm.out]; rfl, hg1.drewN _⟩
end Go.Proofs.Ytpibchjkmaghnaa
