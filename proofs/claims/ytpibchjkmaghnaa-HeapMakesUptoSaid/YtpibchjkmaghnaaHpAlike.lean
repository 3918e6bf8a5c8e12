/- All objects of a heap; a heap held against the reference's. -/
import Derived.Test.YtpibchjkmaghnaaRfCalls
namespace Go.Proofs.Ytpibchjkmaghnaa
open Go.RowKit Go.Mm
set_option maxHeartbeats 4000000
set_option maxRecDepth 100000
set_option linter.unusedSimpArgs false
theorem Hp.abs_len' (h : Hp) : h.abs.objs.length = h.ths.length := h.abs_len
theorem Hp.Ok.sz {h : Hp} (hok : h.Ok) {o : Ob} (ho : o ∈ h.objs) : o.items.length ≤ 1048576 ∧ o.keys.length ≤ 1048576 := by
  simp only [Hp.objs, List.mem_map] at ho
  obtain ⟨t, ht, rfl⟩ := ho
  have := hok.each t ht
  refine ⟨this.size, ?_⟩
  by_cases q : t.ob.kind = 7
  · rw [this.keys q]; exact this.size
  · rw [this.nokeys q]; simp
theorem objects_ok (w0 w : World) (L : List Chunk) (h : Hp) (hm : Mem w0 w (HpC h :: L)) (hok : Fact h.Ok) (n : Nat) (hn : n ≤ h.ths.length) :
    Calls Try.prog 50 #[.pointer (some ⟨h.g, 0, none⟩), .int .i64 n] w fun e w' => ∃ (A : Option Addr) (c : Nat) (ys : List RO), e = .returned (.slice A n c) ∧ ys.map (·.ob) = h.objs.take n ∧ Mem w0 w' (HpC h :: Own 6 (.slice A n c) (ys.flatMap cRO) :: (ys.map RoC ++ L)) := by
  obtain ⟨iO, hiO, hz0, hz1, hz2⟩ := info_parts inf_O
  have hsz := hok.out.size
  have hlen : h.objs.length = h.ths.length := h.abs_len
  replace hlen := Fact.mk hlen
  go_enter Try.func50, Try.ntmps50
  go_wp2
  go_loopw [5, 6] (fun s5 s6 w' => ∃ (k : Nat) (A : Option Addr) (c : Nat) (ys : List RO), s6 = .int .i64 k ∧ k ≤ n ∧ s5 = .slice A k c ∧ ys.map (·.ob) = h.objs.take k ∧ Mem w0 w' (HpC h :: Own 6 (.slice A k c) (ys.flatMap cRO) :: (ys.map RoC ++ L))) (fun _ s6 _ => n - (intOf s6).toNat)
  case atStart => exact ⟨0, none, 0, [], rfl, by omega, rfl, rfl, (hm.nil 6 none).swap⟩
  case round =>
    obtain ⟨k, A, c, ys, rfl, hk, rfl, hys, hmr⟩ := hrel
    clear hm
    replace hys := Fact.mk hys
    by_cases hlt : k < n
    · have hyl : ys.length = k := by
        have := congrArg List.length hys.out
        simp [hlen.out] at this
        omega
      have his : h.abs.is k = true := by unfold Hs.is; rw [decide_eq_true (by omega), h.abs_len', decide_eq_true (by omega)]; rfl
      obtain ⟨ob, hob⟩ : ∃ ob, ob = h.abs.at k := ⟨_, rfl⟩
      have hobk : h.objs.take (k + 1) = h.objs.take k ++ [ob] := by
        rw [List.take_succ_eq_append_getElem (by have := hlen.out; omega), hob]
        unfold Hs.at
        rw [his]
        congr 2
        simp [Hp.abs, show k < h.objs.length by rw [hlen.out]; omega]
      have hobj := object_ok w0 wr _ h hmr hok k
      rw [his, ← hob] at hobj
      clear his hob hyl
      replace hobj := Fact.mk hobj
      replace hobk := Fact.mk hobk
      go_wp2_with fail
      refine hobj.out.mono ?_
      rintro e w2 ⟨v, rfl, A2, c2, K2, k2, rfl, hm2⟩
      obtain ⟨y, hy⟩ : ∃ y : RO, y = ⟨A2, c2, K2, k2, ob⟩ := ⟨_, rfl⟩
      have hm3 : Mem w0 w2 (RoC y :: HpC h :: Own 6 (.slice A k c) (ys.flatMap cRO) :: (ys.map RoC ++ L)) := by rw [hy]; exact roC_mem ⟨A2, c2, K2, k2, ob⟩ hm2
      have hyo : y.ob = ob := by rw [hy]
      have hyc : obC ob.kind A2 ob.items.length c2 K2 ob.keys.length k2 ob.fn ob.cap ob.shut = cRO y := by rw [hy]; rfl
      rw [hyc]
      clear hm2 hmr hobj hy hyc
      replace hyo := Fact.mk hyo
      go_wp2_with (first | (refine wp_setrow rfl 71 _ _ rfl w2.heap.size rfl 71 _ (cRO y) rfl (hm3.alloc _) sz_O rfl (cRO_one y) ?_; intro w4 hm4) | (refine wp_rng rfl 71 _ rfl w2.heap.size 0 rfl [.int .i64 y.ob.kind, .slice y.A y.ob.items.length y.c, .slice y.KA y.ob.keys.length y.kc, .int .i64 y.ob.fn, .int .i64 y.ob.cap, .bool y.ob.shut] (rng_blk hm4 m0) row_O sz_O ?_) | (at_builtin; refine wp_app rfl _ _ _ rfl 71 iO _ 6 80 ty_Os hiO hz0 hz1 hz2 rfl A k c _ rfl (hm4.alloc _).pull4 _ 1 1 [.int .i64 y.ob.kind, .slice y.A y.ob.items.length y.c, .slice y.KA y.ob.keys.length y.kc, .int .i64 y.ob.fn, .int .i64 y.ob.cap, .bool y.ob.shut] rfl (RdC.lit _ _ _ _ _ rfl (by simp [maxLen]) (cRO_one y)) (by unfold maxLen; omega) (by omega) ?_; intro A5 c5 w5 hm5))
      have hz : Mem w0 w5 (HpC h :: Own 6 (.slice A5 (k + 1) c5) ((ys ++ [y]).flatMap cRO) :: ((ys ++ [y]).map RoC ++ L)) := by
        have h1 := hm5.sub (List.Sublist.cons_cons _ ((List.sublist_cons_self _ _).trans (List.sublist_cons_self _ _)))
        have h2 := h1.pull2
        have e1 : (ys ++ [y]).flatMap cRO = ys.flatMap cRO ++ cRO y := by simp
        have e2 : (ys ++ [y]).map RoC ++ L = ys.map RoC ++ RoC y :: L := by simp
        rw [e1, e2]
        exact h2.perm ((List.perm_middle.symm.cons _).cons _)
      go_roundw
      case rel => exact ⟨k + 1, A5, c5, ys ++ [y], by go_num, by omega, rfl, by rw [hobk.out, List.map_append, hys.out]; simp [hyo.out], hz⟩
      case measure => exact measP_lt hlt
    · obtain rfl : k = n := by omega
      go_wp2
      go_ret
      exact ⟨A, c, ys, rfl, hys.out, hmr⟩
theorem alike_ok (w0 w : World) (L : List Chunk) (h : Hp) (r : Rf) (hm : Mem w0 w (HpC h :: RfC r :: L)) (hok : Fact h.Ok) (hokr : Fact r.Ok) (ho : Fact (r.abs.objs = h.abs.objs)) (hs : r.spent = h.spent) :
    Calls Try.prog 33 #[.pointer (some ⟨h.g, 0, none⟩), .pointer (some ⟨r.g, 0, none⟩)] w fun e w' => e = .returned (.bool true) ∧ Mem w0 w' (HpC h :: RfC r :: L) := by
  have hn : r.xs.length = h.ths.length := by rw [← r.abs_len, ← h.abs_len', ho.out]
  have hsz := hok.out.size
  have key1 := fun (w1 : World) (L1 : List Chunk) (hm1 : Mem w0 w1 (HpC h :: L1)) => object_ok w0 w1 L1 h hm1 hok h.ths.length
  have key2 := fun (w1 : World) (L1 : List Chunk) (hm1 : Mem w0 w1 (HpC h :: L1)) => object_ok w0 w1 L1 h hm1 hok (-1)
  have is1 : h.abs.is h.ths.length = false := by unfold Hs.is; rw [h.abs_len', decide_eq_false (show ¬ (h.ths.length : Int) < h.ths.length by omega), Bool.and_false]
  have is2 : h.abs.is (-1) = false := by unfold Hs.is; rw [decide_eq_false (by omega), Bool.false_and]
  rw [is1] at key1
  rw [is2] at key2
  have hread : Fact (∀ (w1 : World) (L1 : List Chunk), Mem w0 w1 L1 → RfC r ∈ L1 → w1.cell? ⟨r.g, 1, none⟩ = some (.int .i64 h.spent) ∧ w1.cell? ⟨r.g, 2, none⟩ = some (.slice r.A h.ths.length r.c) ∧ ObsR w1 r.A h.ths.length r.c r.xs) := ⟨fun w1 L1 hm1 hh => by
    obtain ⟨_, c1, c2, h4⟩ := Rf.read hm1 hh
    rw [hs] at c1
    rw [hn] at c2 h4
    exact ⟨c1, c2, h4⟩⟩
  obtain ⟨ob1, hob1⟩ : ∃ ob1, ob1 = h.abs.at h.ths.length := ⟨_, rfl⟩
  obtain ⟨ob2, hob2⟩ : ∃ ob2, ob2 = h.abs.at (-1) := ⟨_, rfl⟩
  rw [← hob1] at key1
  rw [← hob2] at key2
  clear is1 is2 hn hs hob1 hob2
  replace key1 := Fact.mk key1
  replace key2 := Fact.mk key2
  obtain ⟨_, c2, _⟩ := hread.out w _ hm m1
  go_enter Try.func33, Try.ntmps33
  go_wp2_with fail
  refine (key1.out w _ hm).mono ?_
  rintro e w2 ⟨v, rfl, A2, d2, K2, k2, rfl, hm2⟩
  replace hm2 := hm2.tail.tail
  clear c2 key1
  go_wp2_with (refine wp_setrow rfl 71 _ _ rfl w2.heap.size rfl 71 _ (obC ob1.kind A2 ob1.items.length d2 K2 ob1.keys.length k2 ob1.fn ob1.cap ob1.shut) rfl (hm2.alloc _) sz_O rfl (obC_one _ _ _ _ _ _ _ _ _ _) ?_; intro w3 hm3)
  have hm4 := hm3.tail
  clear hm2 hm3
  refine (key2.out w3 _ hm4).mono ?_
  rintro e w5 ⟨v, rfl, A5, d5, K5, k5, rfl, hm5⟩
  replace hm5 := hm5.tail.tail
  clear hm4 key2
  go_upto_region 3 with (refine wp_setrow rfl 71 _ _ rfl w5.heap.size rfl 71 _ (obC ob2.kind A5 ob2.items.length d5 K5 ob2.keys.length k5 ob2.fn ob2.cap ob2.shut) rfl (hm5.alloc _) sz_O rfl (obC_one _ _ _ _ _ _ _ _ _ _) ?_; intro w6 hm6)
  replace hm6 := hm6.tail
  clear hm5
  obtain ⟨c1, c2, _⟩ := hread.out w6 _ hm6 m1
  have hcl := Fact.mk (fun n => heapLen_ok w0 (w6.drewN n) _ h (hm6.drewN n) m0)
  have hcs := Fact.mk (fun n => heapSpent_ok w0 (w6.drewN n) _ h (hm6.drewN n) m0)
  go_quiet (first | exact Calls.quiet_of_same (hcl.out _) | exact Calls.quiet_of_same (hcs.out _))
  clear hcl hcs c1 c2
  have hm7 := hm6.drewN nq
  clear hm6
  generalize w6.drewN nq = w7 at hm7 ⊢
  obtain ⟨_, c2, _⟩ := hread.out w7 _ hm7 m1
  go_upto_region 5 with (fail)
  have hm8 := hm7.drew
  have hS : w7.drew.cell? ⟨r.g, 2, none⟩ = some (.slice r.A h.ths.length r.c) := c2
  clear c2 hm7
  refine wp_region_until (S := fun W => W.cell? ⟨r.g, 2, none⟩ = some (.slice r.A h.ths.length r.c)) 11 (by kernel_rfl) ?_
  generalize w7.drew = w8 at hm8 hS ⊢
  refine wpAnyU_take 0 (v := ?vsa0) rfl (by kernel_rfl) (by kernel_rfl) (fun _ _ _ h => h) hS (Or.inl ⟨rfl, ?ysa0⟩) ?rsa0
  case ysa0 =>
    intro W hW
    go_simp
    try with_reducible rfl
  try simp only [Act.put, List.getElem_toArray, List.getElem_cons_succ, List.getElem_cons_zero, List.setIfInBounds_toArray, List.set_cons_zero, List.set_cons_succ]
  refine wpAnyU_take 1 (v := ?vsa1) rfl (by kernel_rfl) (by kernel_rfl) (fun _ _ _ h => h) hS (Or.inl ⟨rfl, ?ysa1⟩) ?rsa1
  case ysa1 =>
    intro W hW
    go_simp
    try with_reducible rfl
  try simp only [Act.put, List.getElem_toArray, List.getElem_cons_succ, List.getElem_cons_zero, List.setIfInBounds_toArray, List.set_cons_zero, List.set_cons_succ]
  refine wpAnyU_take 2 (v := ?vsa2) rfl (by kernel_rfl) (by kernel_rfl) (fun _ _ _ h => h) hS (Or.inl ⟨rfl, ?ysa2⟩) ?rsa2
  case ysa2 =>
    intro W hW
    go_simp
    try with_reducible rfl
  try simp only [Act.put, List.getElem_toArray, List.getElem_cons_succ, List.getElem_cons_zero, List.setIfInBounds_toArray, List.set_cons_zero, List.set_cons_succ]
  refine wpAnyU_take 3 (v := ?vsa3) rfl (by kernel_rfl) (by kernel_rfl) (fun _ _ _ h => h) hS (Or.inl ⟨rfl, ?ysa3⟩) ?rsa3
  case ysa3 =>
    intro W hW
    go_simp
    try with_reducible rfl
  try simp only [Act.put, List.getElem_toArray, List.getElem_cons_succ, List.getElem_cons_zero, List.setIfInBounds_toArray, List.set_cons_zero, List.set_cons_succ]
  refine wpAnyU_take 4 (v := ?vsa4) rfl (by kernel_rfl) (by kernel_rfl) (fun _ _ _ h => h) hS (Or.inl ⟨rfl, ?ysa4⟩) ?rsa4
  case ysa4 =>
    intro W hW
    go_simp
    try with_reducible rfl
  try simp only [Act.put, List.getElem_toArray, List.getElem_cons_succ, List.getElem_cons_zero, List.setIfInBounds_toArray, List.set_cons_zero, List.set_cons_succ]
  refine wpAnyU_take 5 (v := ?vsa5) rfl (by kernel_rfl) (by kernel_rfl) (fun _ _ _ h => h) hS (Or.inl ⟨rfl, ?ysa5⟩) ?rsa5
  case ysa5 =>
    intro W hW
    go_simp
    try with_reducible rfl
  try simp only [Act.put, List.getElem_toArray, List.getElem_cons_succ, List.getElem_cons_zero, List.setIfInBounds_toArray, List.set_cons_zero, List.set_cons_succ]
  refine wpAnyU_take 7 (v := ?vsa7) rfl (by kernel_rfl) (by kernel_rfl) (fun _ _ _ h => h) hS (Or.inl ⟨rfl, ?ysa7⟩) ?rsa7
  case ysa7 =>
    intro W hW
    go_simp
    try with_reducible rfl
  try simp only [Act.put, List.getElem_toArray, List.getElem_cons_succ, List.getElem_cons_zero, List.setIfInBounds_toArray, List.set_cons_zero, List.set_cons_succ]
  refine wpAnyU_take 8 (v := ?vsa8) rfl (by kernel_rfl) (by kernel_rfl) (fun _ _ _ h => h) hS (Or.inl ⟨rfl, ?ysa8⟩) ?rsa8
  case ysa8 =>
    intro W hW
    go_simp
    try with_reducible rfl
  try simp only [Act.put, List.getElem_toArray, List.getElem_cons_succ, List.getElem_cons_zero, List.setIfInBounds_toArray, List.set_cons_zero, List.set_cons_succ]
  refine wpAnyU_take 9 (v := ?vsa9) rfl (by kernel_rfl) (by kernel_rfl) (fun _ _ _ h => h) hS (Or.inl ⟨rfl, ?ysa9⟩) ?rsa9
  case ysa9 =>
    intro W hW
    go_simp
    try with_reducible rfl
  try simp only [Act.put, List.getElem_toArray, List.getElem_cons_succ, List.getElem_cons_zero, List.setIfInBounds_toArray, List.set_cons_zero, List.set_cons_succ]
  refine wpAnyU_take 10 (v := ?vsa10) rfl (by kernel_rfl) (by kernel_rfl) (fun _ _ _ h => h) hS (Or.inl ⟨rfl, ?ysa10⟩) ?rsa10
  case ysa10 =>
    intro W hW
    go_simp
    try with_reducible rfl
  try simp only [Act.put, List.getElem_toArray, List.getElem_cons_succ, List.getElem_cons_zero, List.setIfInBounds_toArray, List.set_cons_zero, List.set_cons_succ]
  refine wpAnyU_one 6 (by kernel_rfl) rfl (fun K hK => ?_)
  refine step_call rfl 50 Try.f50 Try.func50 (by kernel_rfl) (by kernel_rfl) _ _ rfl #[.pointer (some ⟨h.g, 0, none⟩), .int .i64 h.ths.length] (by simp [Act.eval]) ?_
  refine (objects_ok w0 w8 _ h hm8 hok h.ths.length (by omega)).mono ?_
  rintro e w9 ⟨A9, c9, ys, rfl, hys, hm9⟩
  refine ⟨_, rfl, ?_⟩
  have hrm : RfC r ∈ HpC h :: Own 6 (.slice A9 h.ths.length c9) (ys.flatMap cRO) :: (ys.map RoC ++ RfC r :: L) := .tail _ (.tail _ (List.mem_append_right _ m0))
  have hT := (hread.out w9 _ hm9 hrm).2
  refine hK _ _ (fun _ => hT.1) ?_
  clear hK K hS hm8
  try simp only [Act.put, List.getElem_toArray, List.getElem_cons_succ, List.getElem_cons_zero, List.setIfInBounds_toArray, List.set_cons_zero, List.set_cons_succ]
  refine wpAnyU_one 11 (by kernel_rfl) rfl (fun K hK => ?_)
  refine step_call rfl 52 Try.f52 Try.func52 (by kernel_rfl) (by kernel_rfl) _ _ rfl #[.slice A9 h.ths.length c9, .slice r.A h.ths.length r.c] (by simp [Act.eval]) ?_
  have hys2 : ys.map (·.ob) = h.objs := by rw [hys, List.take_of_length_le (by rw [h.abs_len]; omega)]
  have hyr : ObsR w9 A9 h.ths.length c9 ys := ⟨hm9.rd m1, fun x hx => RoC.reads (hm9.ok _ (.tail _ (.tail _ (List.mem_append_left _ (List.mem_map_of_mem hx)))))⟩
  refine (sameObjects_ok w9 A9 r.A h.ths.length c9 r.c ys r.xs ⟨hyr⟩ ⟨hT.2⟩ ⟨by rw [hys2]; exact ho.out.symm⟩ ⟨fun x hx => ?_⟩ (by omega)).mono ?_
  · have := hok.out.sz (o := x.ob) (by rw [← hys2]; exact List.mem_map_of_mem hx)
    omega
  rintro e w10 ⟨rfl, hg10⟩
  refine ⟨_, rfl, ?_⟩
  have hm10 := hm9.gr hg10
  refine hK _ _ (fun h => absurd h (by decide)) ?_
  clear hK K
  try simp only [Act.put, List.getElem_toArray, List.getElem_cons_succ, List.getElem_cons_zero, List.setIfInBounds_toArray, List.set_cons_zero, List.set_cons_succ]
  refine wpAnyU_one 12 (by kernel_rfl) rfl (fun K hK => ?_)
  go_simp
  refine hK _ _ (fun h => absurd h (by decide)) ?_
  clear hK K
  try simp only [Act.put, List.getElem_toArray, List.getElem_cons_succ, List.getElem_cons_zero, List.setIfInBounds_toArray, List.set_cons_zero, List.set_cons_succ]
  refine wpAnyU_done (by kernel_rfl) ?_ _
  go_wp2
  go_ret
  exact ⟨rfl, hm10.sub (List.Sublist.cons_cons _ ((List.sublist_append_right _ _).trans (List.sublist_cons_self _ _)))⟩
end Go.Proofs.Ytpibchjkmaghnaa
