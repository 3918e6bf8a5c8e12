/- HeapReach: what lies behind any values, asked again and again. -/
import Derived.Test.YtpibchjkmaghnaaHRf
namespace Go.Proofs.Ytpibchjkmaghnaa
open Go.RowKit Go.Mm Go.WideShapes Go.ChangeShapes
set_option maxHeartbeats 8000000
set_option maxRecDepth 100000
set_option linter.unusedSimpArgs false
theorem fV_putH (xs : List V2) (i : Nat) (x : V2) (h : i < xs.length) : (fV xs).take (i * 2) ++ cV x ++ (fV xs).drop (i * 2 + (cV x).length) = fV (xs.set i x) := by
  rw [List.set_eq_take_append_cons_drop, if_pos h, show i * 2 + (cV x).length = (i + 1) * 2 by rw [cV_len]; omega]
  have e1 : (fV xs).take (i * 2) = fV (xs.take i) := (flatMap_take cV 2 cV_len xs i).symm
  have e2 : (fV xs).drop ((i + 1) * 2) = fV (xs.drop (i + 1)) := (flatMap_drop cV 2 cV_len xs (i + 1)).symm
  rw [e1, e2]
  simp [fV]
theorem split_at (ys : List V2) (m : Nat) (h : ys.length = m + 64) : ∃ y1 y2, ys = y1 ++ y2 ∧ y1.length = m := ⟨ys.take m, ys.drop m, (List.take_append_drop m ys).symm, by rw [List.length_take]; omega⟩
theorem perm_r8 {α : Type} (o a5 a4 b l a3 a2 a1 : α) (L : List α) : (o :: a5 :: a4 :: b :: l :: a3 :: a2 :: a1 :: L).Perm (a2 :: a3 :: a5 :: o :: a4 :: b :: l :: a1 :: L) := by
  refine (perm_front _ 6 (by simp)).trans (.cons _ ?_)
  refine (perm_front _ 5 (by simp)).trans (.cons _ ?_)
  exact (perm_front _ 1 (by simp)).trans (.refl _)
theorem heapReach_walk (W : World) (b s : Int) (A : Option Addr) (n c : Nat) (xs : List RO) (hst : StOk W b s A n c xs) (B : Option Addr) (m d : Nat) (rs : List V2) (hr : Fact (RdC W 2 (.slice B m d) (fV rs))) (hmm : m ≤ 1048576)
    (C : Option Addr) (p q : Nat) (os : List V2) (ho : Fact (RdC W 2 (.slice C p q) (fV os))) (hpp : p ≤ 1048576) :
    Calls Try.prog 6 #[.agg (stC b s A n c).toArray, .slice B m d, .slice C p q] W fun e w' => e = .returned (.bool true) ∧ Gr W w' := by
  have hx1 := (Mem.start W).alloc (.cells (stC b s A n c).toArray 44)
  have hboth := fun (w1 : World) (L : List Chunk) (hm : Mem W w1 L) => both_ok W w1 L hm b s hst.hb hst.hs A n c xs ⟨hst.rd.gr hm.below⟩ hst.hn ⟨hst.sz⟩ ⟨hst.wf⟩
  have hxl := hst.rd.len
  have hn := hst.hn
  have hrl := Fact.mk (rdV_len hr.out)
  replace hboth := Fact.mk hboth
  unfold stC at hx1 hboth ⊢
  go_enter Try.func6, Try.ntmps6
  go_upto_region 1 with (fail)
  generalize hgb : W.heap.size = gb at hx1 ⊢
  generalize hw1 : W.alloc (.cells [.int .i64 b, .int .i64 s, .slice A n c].toArray 44) = w1 at hx1
  try refine wp_world hw1 ?_
  clear hw1 hgb
  go_wp2_with (refine wp_rng rfl 44 _ rfl gb 0 rfl [.int .i64 b, .int .i64 s, .slice A n c] (rng_blk hx1 m0) row_ST sz_ST ?_)
  refine (hboth.out w1 _ hx1).mono ?_
  rintro e w2 (⟨hlb, h, r, ha, habs, hok, rok, rfl, hm2⟩ | ⟨_, rfl, hm2⟩)
  rotate_left
  · go_wp2
    go_ret
    exact ⟨rfl, hm2.below⟩
  have hf : h.abs.Few := by rw [show h.abs.Few = (⟨max b 0, max s 0, xs.map (·.ob)⟩ : Hs).Few by rw [ha]]; exact load_few hlb _ _
  have hgood : Fact r.abs.Good := ⟨by rw [habs]; exact hok.good hf⟩
  have hobj : r.abs.objs = h.objs := by rw [habs]; rfl
  have hsp : r.spent = h.spent := congrArg Hs.spent habs
  have hlen : h.objs.length ≤ 16777216 := by have := hok.size; rw [h.abs_len]; exact this
  have hF := fun vs => (reachR_ok h.objs vs).len
  have hrc := fun (w : World) (L : List Chunk) (hm : Mem W w L) (h1 : HpC h ∈ L) (V : Option Addr) (m c : Nat) (vs : List V2) (hvs : ∀ w', Mem W w' L → RdC w' 2 (.slice V m c) (fV vs)) (hmm : m ≤ 16777216) => reach_ok W w L h h1 ⟨hok⟩ hm V m c vs ⟨hvs⟩ hmm
  have hrr := fun (w : World) (L : List Chunk) (hm : Mem W w L) (h1 : RfC r ∈ L) (V : Option Addr) (m c : Nat) (vs : List V2) (hvs : ∀ w', Mem W w' L → RdC w' 2 (.slice V m c) (fV vs)) (hmm : m ≤ 16777216) => refReach_ok W w L r hm h1 ⟨rok⟩ hgood V m c vs ⟨hvs⟩ hmm
  have hout := fun (l : List Nat) => outV_len l
  rw [hobj] at hrr
  generalize hoo : h.objs = obs at hF hrc hrr hlen
  have hoo := Fact.mk hoo
  obtain ⟨F, hFe⟩ : ∃ F, reachR obs rs = F := ⟨_, rfl⟩
  have hrc1 := fun (w : World) (L : List Chunk) (hm : Mem W w L) (h1 : HpC h ∈ L) (V : Option Addr) (m c : Nat) => hrc w L hm h1 V m c rs
  have hrr1 := fun (w : World) (L : List Chunk) (hm : Mem W w L) (h1 : RfC r ∈ L) (V : Option Addr) (m c : Nat) => hrr w L hm h1 V m c rs
  have hFl := hF rs
  rw [hFe] at hrc1 hrr1 hFl
  clear hFe
  have hFb : F.length ≤ 16777216 := by omega
  clear hFl
  have hrd : Fact (∀ (w : World) (L : List Chunk), Mem W w L → RfC r ∈ L → w.cell? ⟨r.g, 2, none⟩ = some (.slice r.A r.xs.length r.c)) := ⟨fun w L hm hh => (Rf.read hm hh).2.2.1⟩
  replace hrc := Fact.mk hrc
  replace hrr := Fact.mk hrr
  replace hrc1 := Fact.mk hrc1
  replace hrr1 := Fact.mk hrr1
  replace hF := Fact.mk hF
  replace hout := Fact.mk hout
  replace hobj := Fact.mk hobj
  replace hsp := Fact.mk hsp
  replace hok := Fact.mk hok
  replace rok := Fact.mk rok
  replace hf := Fact.mk hf
  clear ha habs hlb hx1
  have c2 := hrd.out w2 _ hm2 m1
  go_wp2_with fail
  refine (hrr1.out w2 _ hm2 m1 B m d (fun w' hm => hr.out.gr hm.below) (by omega)).mono ?_
  rintro e w3 ⟨A1, c1, rfl, hm3⟩
  clear hm2 c2
  go_wp2_with fail
  refine (lentValues_ok w3 B m d rs ⟨hr.out.gr hm3.below⟩ (by omega)).mono ?_
  rintro e w4 ⟨B4, d4, rfl, hn4⟩
  have hm4 := hm3.new hn4
  clear hm3 hn4
  have hcap := OwnAt.cap (hm4.ok _ m0)
  have hcap1 : m ≤ d4 := by omega
  obtain ⟨bg, bo, hB⟩ := OwnAt.addr (hm4.ok _ m0) (by omega)
  subst hB
  go_wp2_with fail
  refine (hrc1.out w4 _ hm4 m2 (some ⟨bg, bo, none⟩) m d4 (fun w' hm => rd_pre cV_len (hm.rd m0) hrl.out) (by omega)).mono ?_
  rintro e w5 ⟨A2, c2, rfl, hm5⟩
  clear hm4
  go_wp2_with fail
  refine (hrc1.out w5 _ hm5 m3 (some ⟨bg, bo, none⟩) m d4 (fun w' hm => rd_pre cV_len (hm.rd m1) hrl.out) (by omega)).mono ?_
  rintro e w6 ⟨A3, c3, rfl, hm6⟩
  clear hm5
  go_wp2_with fail
  refine (sameInts_q w6 _ _ _ _ _ (F.map Int.ofNat) ⟨hm6.rd m1⟩ ⟨hm6.rd m3⟩ (by omega)).mono ?_
  rintro e w7 ⟨rfl, qa, rfl⟩
  have hm7 := hm6.drewN qa
  clear hm6
  generalize w6.drewN qa = w7 at hm7 ⊢
  go_wp2_with fail
  refine (sameInts_q w7 _ _ _ _ _ (F.map Int.ofNat) ⟨hm7.rd m0⟩ ⟨hm7.rd m3⟩ (by omega)).mono ?_
  rintro e w8 ⟨rfl, qb, rfl⟩
  have hm8 := hm7.drewN qb
  clear hm7
  generalize w7.drewN qb = w8 at hm8 ⊢
  go_wp2_with fail
  refine (keptValues_ok w8 (some ⟨bg, bo, none⟩) m d4 B d rs ⟨hm8.rd m2⟩ ⟨hr.out.gr hm8.below⟩ (by omega)).mono ?_
  rintro e w9 ⟨rfl, hg9⟩
  have hm9 := (hm8.gr hg9).pull2
  clear hm8 hg9
  have hyl : (rs ++ marksV 64).length = m + 64 := by rw [List.length_append, hrl.out]; simp [marksV]
  go_wp2
  go_loopw [15] (fun s15 w' => ∃ (k : Nat) (ys : List V2), s15 = .int .i64 k ∧ k ≤ m ∧ Fact (ys.length = m + 64) ∧ Mem W w' (Own 2 (.slice (some ⟨bg, bo, none⟩) (m + 64) d4) (fV ys) :: Own 1 (.slice A3 F.length c3) (outV F) :: Own 1 (.slice A2 F.length c2) (outV F) :: Own 1 (.slice A1 F.length c1) (outV F) :: HpC h :: RfC r :: [Blk gb (.cells [.int .i64 b, .int .i64 s, .slice A n c].toArray 44)])) (fun s15 _ => m - (intOf s15).toNat)
  case atStart => exact ⟨0, _, rfl, by omega, ⟨hyl⟩, hm9⟩
  case round =>
    obtain ⟨k, ys, rfl, hk, hys, hmr⟩ := hrel
    clear hm9 hyl
    by_cases hlt : k < m
    · have wrapk : wrap64 ((k : Int) + 1) = (k : Int) + 1 := IntWalk.wrap64_in _ (by omega)
      have hset := fV_putH ys k (0, 0) (by have := hys.out; omega)
      have hle : k * 2 + (cV (0, 0)).length ≤ (fV ys).length := by rw [fV_len, hys.out, cV_len]; omega
      replace hset := Fact.mk hset
      replace hle := Fact.mk hle
      by_cases hko : k < p
      · obtain ⟨b2, o2, rfl, g1, g2, _, _⟩ := rdV_at (ho.out.gr hmr.below) k hko
        have hcell : Fact (∀ w', Gr W w' → ∀ (j : Nat) (u : Value), (cV (os.getD k (0, 0)))[j]? = some u → w'.cell? ⟨b2, o2 + k * 2 + j, none⟩ = some u) := ⟨fun w' hg => by
          obtain ⟨b3, o3, e, g1, g2, _, _⟩ := rdV_at (ho.out.gr hg) k hko
          cases e
          exact rng2 g1 g2⟩
        generalize os.getD k (0, 0) = v at hcell g1 g2
        have hset2 := fV_putH (ys.set k (0, 0)) k v (by rw [List.length_set]; have := hys.out; omega)
        have hle2 : k * 2 + (cV v).length ≤ (fV (ys.set k (0, 0))).length := by rw [fV_len, List.length_set, hys.out, cV_len]; omega
        replace hset2 := Fact.mk hset2
        replace hle2 := Fact.mk hle2
        clear g1 g2
        go_wp2_with (first | (refine wp_ownrow rfl 27 _ _ rfl (bo + k * 2) (k * 2) rfl rfl (cV (0, 0)) rfl hmr sz_V hle.out (cV_one (0, 0)) ?_; intro w10 hm10; rw [hset.out] at hm10) | (refine wp_rng rfl 27 _ rfl b2 (o2 + k * 2) rfl (cV v) (hcell.out _ hm10.below) row_V sz_V ?_) | (refine wp_ownrow rfl 27 _ _ rfl (bo + k * 2) (k * 2) rfl rfl (cV v) rfl hm10 sz_V hle2.out (cV_one v) ?_; intro w11 hm11; rw [hset2.out] at hm11))
        go_roundw
        case rel => exact ⟨k + 1, _, by go_num, by omega, ⟨by rw [List.length_set, List.length_set]; exact hys.out⟩, hm11⟩
        case measure => first | exact measP_lt hlt | exact measN_lt hlt wrapk
      · go_wp2_with (refine wp_ownrow rfl 27 _ _ rfl (bo + k * 2) (k * 2) rfl rfl (cV (0, 0)) rfl hmr sz_V hle.out (cV_one (0, 0)) ?_; intro w10 hm10; rw [hset.out] at hm10)
        go_roundw
        case rel => exact ⟨k + 1, _, by go_num, by omega, ⟨by rw [List.length_set]; exact hys.out⟩, hm10⟩
        case measure => first | exact measP_lt hlt | exact measN_lt hlt wrapk
    · obtain rfl : k = m := by omega
      obtain ⟨y1, y2, hy, hy1⟩ := split_at ys k hys.out
      rw [hy] at hmr
      clear hy hys
      replace hy1 := Fact.mk hy1
      have hGl := hF.out y1
      obtain ⟨G, hG⟩ : ∃ G, reachR obs y1 = G := ⟨_, rfl⟩
      have hrc2 := fun (w : World) (L : List Chunk) (hm : Mem W w L) (h1 : HpC h ∈ L) (V : Option Addr) (m c : Nat) => hrc.out w L hm h1 V m c y1
      have hrr2 := fun (w : World) (L : List Chunk) (hm : Mem W w L) (h1 : RfC r ∈ L) (V : Option Addr) (m c : Nat) => hrr.out w L hm h1 V m c y1
      rw [hG] at hrc2 hrr2 hGl
      have hGb : G.length ≤ 16777216 := by omega
      clear hG hGl
      replace hrc2 := Fact.mk hrc2
      replace hrr2 := Fact.mk hrr2
      go_upto_region 17 with (fail)
      have hm10 := hmr.drew
      have hS : wr.drew.cell? ⟨r.g, 2, none⟩ = some (.slice r.A r.xs.length r.c) := hrd.out _ _ hm10 m5
      clear hmr
      refine wp_region_until (S := fun W => W.cell? ⟨r.g, 2, none⟩ = some (.slice r.A r.xs.length r.c)) 6 (by kernel_rfl) ?_
      generalize wr.drew = w10 at hm10 hS ⊢
      refine wpAnyU_take 0 (v := ?vsa0) rfl (by kernel_rfl) (by kernel_rfl) (fun _ _ _ h => h) hS (Or.inl ⟨rfl, ?ysa0⟩) ?rsa0
      case ysa0 =>
        intro W hW
        go_simp
        try with_reducible rfl
      try simp only [Act.put, List.getElem_toArray, List.getElem_cons_succ, List.getElem_cons_zero, List.setIfInBounds_toArray, List.set_cons_zero, List.set_cons_succ]
      refine wpAnyU_take 1 (v := ?vsa1) rfl (by kernel_rfl) (by kernel_rfl) (fun _ _ _ h => h) hS (Or.inl ⟨rfl, ?ysa1⟩) ?rsa1
      case ysa1 =>
        intro W hW
        go_simp
        try with_reducible rfl
      try simp only [Act.put, List.getElem_toArray, List.getElem_cons_succ, List.getElem_cons_zero, List.setIfInBounds_toArray, List.set_cons_zero, List.set_cons_succ]
      refine wpAnyU_take 2 (v := ?vsa2) rfl (by kernel_rfl) (by kernel_rfl) (fun _ _ _ h => h) hS (Or.inl ⟨rfl, ?ysa2⟩) ?rsa2
      case ysa2 =>
        intro W hW
        go_simp
        try with_reducible rfl
      try simp only [Act.put, List.getElem_toArray, List.getElem_cons_succ, List.getElem_cons_zero, List.setIfInBounds_toArray, List.set_cons_zero, List.set_cons_succ]
      refine wpAnyU_take 3 (v := ?vsa3) rfl (by kernel_rfl) (by kernel_rfl) (fun _ _ _ h => h) hS (Or.inl ⟨rfl, ?ysa3⟩) ?rsa3
      case ysa3 =>
        intro W hW
        go_simp
        try with_reducible rfl
      try simp only [Act.put, List.getElem_toArray, List.getElem_cons_succ, List.getElem_cons_zero, List.setIfInBounds_toArray, List.set_cons_zero, List.set_cons_succ]
      refine wpAnyU_take 4 (v := ?vsa4) rfl (by kernel_rfl) (by kernel_rfl) (fun _ _ _ h => h) hS (Or.inl ⟨rfl, ?ysa4⟩) ?rsa4
      case ysa4 =>
        intro W hW
        go_simp
        try with_reducible rfl
      try simp only [Act.put, List.getElem_toArray, List.getElem_cons_succ, List.getElem_cons_zero, List.setIfInBounds_toArray, List.set_cons_zero, List.set_cons_succ]
      refine wpAnyU_one 5 (by kernel_rfl) rfl (fun K hK => ?_)
      refine step_call rfl 31 Try.f31 Try.func31 (by kernel_rfl) (by kernel_rfl) _ _ rfl #[.slice (some ⟨bg, bo, none⟩) k d4] (by simp [Act.eval]) ?_
      refine (copyValues_ok w10 (some ⟨bg, bo, none⟩) k d4 y1 ⟨rd_pre cV_len (hm10.rd m0) hy1.out⟩ (by omega)).mono ?_
      rintro e w11 ⟨B5, d5, rfl, hn5⟩
      refine ⟨_, rfl, ?_⟩
      have hm11 := hm10.new hn5
      have hS2 := hrd.out _ _ hm11 m6
      refine hK _ _ (fun _ => hS2) ?_
      clear hK K hS hm10 hn5
      try simp only [Act.put, List.getElem_toArray, List.getElem_cons_succ, List.getElem_cons_zero, List.setIfInBounds_toArray, List.set_cons_zero, List.set_cons_succ]
      refine wpAnyU_one 6 (by kernel_rfl) rfl (fun K hK => ?_)
      refine step_call rfl 26 Try.f26 Try.func26 (by kernel_rfl) (by kernel_rfl) _ _ rfl #[.slice r.A r.xs.length r.c, .slice B5 k d5] (by simp [Act.eval]) ?_
      refine (hrr2.out w11 _ hm11 m6 B5 k d5 (fun w' hm => hm.rd m0) (by omega)).mono ?_
      rintro e w12 ⟨A4, c4, rfl, hm12⟩
      refine ⟨_, rfl, ?_⟩
      refine hK _ _ (fun h => absurd h (by decide)) ?_
      clear hK K hS2 hm11
      try simp only [Act.put, List.getElem_toArray, List.getElem_cons_succ, List.getElem_cons_zero, List.setIfInBounds_toArray, List.set_cons_zero, List.set_cons_succ]
      refine wpAnyU_one 7 (by kernel_rfl) rfl (fun K hK => ?_)
      go_simp
      refine hK _ _ (fun h => absurd h (by decide)) ?_
      clear hK K
      try simp only [Act.put, List.getElem_toArray, List.getElem_cons_succ, List.getElem_cons_zero, List.setIfInBounds_toArray, List.set_cons_zero, List.set_cons_succ]
      refine wpAnyU_done (by kernel_rfl) ?_ _
      go_wp2_with fail
      refine (hrc2.out w12 _ hm12 m6 (some ⟨bg, bo, none⟩) k d4 (fun w' hm => rd_pre cV_len (hm.rd m2) hy1.out) (by omega)).mono ?_
      rintro e w13 ⟨A5, c5, rfl, hm13⟩
      clear hm12
      go_wp2_with fail
      refine (sameInts_q w13 _ _ _ _ _ (G.map Int.ofNat) ⟨hm13.rd m0⟩ ⟨hm13.rd m1⟩ (by omega)).mono ?_
      rintro e w14 ⟨rfl, qc, rfl⟩
      have hm14 := hm13.drewN qc
      clear hm13
      generalize w13.drewN qc = w14 at hm14 ⊢
      go_wp2_with fail
      refine (sameInts_q w14 _ _ _ _ _ (F.map Int.ofNat) ⟨hm14.rd m5⟩ ⟨hm14.rd m6⟩ (by omega)).mono ?_
      rintro e w15 ⟨rfl, qd, rfl⟩
      have hm15 := hm14.drewN qd
      clear hm14
      generalize w14.drewN qd = w15 at hm15 ⊢
      go_wp2_with fail
      have hm16 := hm15.alloc (.cells [.slice A2 F.length c2, .slice A3 F.length c3, .slice A5 G.length c5].toArray 55)
      generalize hgb : w15.heap.size = gq at hm16 ⊢
      generalize hw1 : w15.alloc (.cells [.slice A2 F.length c2, .slice A3 F.length c3, .slice A5 G.length c5].toArray 55) = w16 at hm16 ⊢
      clear hw1 hgb hm15
      have hm17 := hm16.blk_own (n := 3) (size := 1) rfl (by unfold maxLen; omega) (nws_one [⟨A2, F.length, c2, F.map Int.ofNat⟩, ⟨A3, F.length, c3, F.map Int.ofNat⟩, ⟨A5, G.length, c5, G.map Int.ofNat⟩])
      have hm18 : Mem W w16 ([⟨A2, F.length, c2, F.map Int.ofNat⟩, ⟨A3, F.length, c3, F.map Int.ofNat⟩, ⟨A5, G.length, c5, G.map Int.ofNat⟩].map lnC ++ (Own 1 (.slice (some ⟨gq, 0, none⟩) 3 3) (nws [⟨A2, F.length, c2, F.map Int.ofNat⟩, ⟨A3, F.length, c3, F.map Int.ofNat⟩, ⟨A5, G.length, c5, G.map Int.ofNat⟩]) :: Own 1 (.slice A4 G.length c4) (outV G) :: Own 2 (.slice B5 k d5) (fV y1) :: Own 2 (.slice (some ⟨bg, bo, none⟩) (k + 64) d4) (fV (y1 ++ y2)) :: Own 1 (.slice A1 F.length c1) (outV F) :: HpC h :: RfC r :: [Blk gb (.cells [.int .i64 b, .int .i64 s, .slice A n c].toArray 44)])) := hm17.perm (perm_r8 _ _ _ _ _ _ _ _ _)
      clear hm16 hm17
      have hap := apInts_ok W w16 (some ⟨gq, 0, none⟩) 3 3 [⟨A2, F.length, c2, F.map Int.ofNat⟩, ⟨A3, F.length, c3, F.map Int.ofNat⟩, ⟨A5, G.length, c5, G.map Int.ofNat⟩] _ hm18 ⟨rfl⟩ ⟨fun l hl => by
        simp only [List.mem_cons, List.not_mem_nil, or_false] at hl
        rcases hl with rfl | rfl | rfl
        · exact hFb
        · exact hFb
        · exact hGb⟩ (by omega)
      replace hap := Fact.mk hap
      clear hm18
      refine hap.out.mono ?_
      rintro e w17 ⟨rfl, hm19⟩
      clear hap
      go_wp2_with fail
      refine (hrc1.out w17 _ hm19 m4 B k d (fun w' hm => hr.out.gr hm.below) (by omega)).mono ?_
      rintro e w18 ⟨A6, c6, rfl, hm20⟩
      clear hm19
      go_wp2_with fail
      refine (sameInts_q w18 _ _ _ _ _ (F.map Int.ofNat) ⟨hm20.rd m0⟩ ⟨hm20.rd m4⟩ (by omega)).mono ?_
      rintro e w19 ⟨rfl, qe, rfl⟩
      have hm21 := hm20.drewN qe
      clear hm20
      generalize w18.drewN qe = w19 at hm21 ⊢
      have hm22 := hm21.sub (L' := HpC h :: RfC r :: [Blk gb (.cells [.int .i64 b, .int .i64 s, .slice A n c].toArray 44)]) (.cons _ (.cons _ (.cons _ (.cons _ (.cons _ (.refl _))))))
      clear hm21
      go_wp2_with fail
      refine (alike_ok W w19 _ h r hm22 hok rok ⟨hobj.out⟩ hsp.out).mono ?_
      rintro e w20 ⟨rfl, hm23⟩
      go_wp2_with fail
      go_ret
      exact ⟨rfl, hm23.below⟩
theorem heapReach_ok (H : Type) (enc : TypeId × Value → H) (W : World) (base : Nat)
    (v0 : Value) (d0 : DataW H) (p0 : List MemPlace) (h0 : DataW.Trod enc Try.prog W 0 (fun _ => true) true 44 v0 d0 p0) (ok0 : Value.okWide Try.prog W .any base 44 v0)
    (v1 : Value) (d1 : DataW H) (p1 : List MemPlace) (h1 : DataW.Trod enc Try.prog W 0 (fun _ => true) true 30 v1 d1 p1) (ok1 : Value.okWide Try.prog W .any base 30 v1)
    (v2 : Value) (d2 : DataW H) (p2 : List MemPlace) (h2 : DataW.Trod enc Try.prog W 0 (fun _ => true) true 30 v2 d2 p2) (ok2 : Value.okWide Try.prog W .any base 30 v2) (hk : Rows.uptoSmall H ([d0] ++ ([d1] ++ ([d2] ++ []))) = true) :
    Calls Try.prog 6 #[v0, v1, v2] W fun e w' => e = .returned (.bool true) ∧ Gr W w' := by
  have hb := bulk_small hk
  simp only [Rows.uptoBulkAll, List.cons_append, List.nil_append] at hb
  obtain ⟨b, s, A, n, c, xs, rfl, hst⟩ := open_start h0 ok0 (by omega)
  obtain ⟨B, m, d, rs, rfl, hr, hl1⟩ := open_vals h1 ok1
  obtain ⟨C, p, q, os, rfl, ho, hl2⟩ := open_vals h2 ok2
  exact heapReach_walk W b s A n c xs hst B m d rs ⟨hr⟩ (by omega) C p q os ⟨ho⟩ (by omega)
end Go.Proofs.Ytpibchjkmaghnaa
