/- HeapCalls: a script of all calls on two heaps in turns. -/
import Derived.Test.YtpibchjkmaghnaaGreatHCf
namespace Go.Proofs.YtpibchjkmaghnaaGreat
open Go.RowKit Go.Mm Go.WideShapes Go.ChangeShapes
set_option maxHeartbeats 8000000
set_option maxRecDepth 100000
set_option linter.unusedSimpArgs false
/-- A heap and the reference's, or neither. -/
def twC : Option (Hp × Rf) → List Chunk
  | none => []
  | some x => [HpC x.1, RfC x.2]
def twH : Option (Hp × Rf) → Value
  | none => .pointer none
  | some x => .pointer (some ⟨x.1.g, 0, none⟩)
def twR : Option (Hp × Rf) → Value
  | none => .pointer none
  | some x => .pointer (some ⟨x.2.g, 0, none⟩)
def TwOk (p : Option (Hp × Rf)) (k : Nat) : Prop := ∀ x, p = some x → TwGood x.1 x.2 k
theorem TwOk.up {p : Option (Hp × Rf)} {k : Nat} (h : TwOk p k) : TwOk p (k + 1) := fun x hx => ⟨(h x hx).ok, (h x hx).few, (h x hx).rok, (h x hx).abs, by have := (h x hx).len; omega⟩
theorem TwoQ.tw {w w' : World} {L : List Chunk} {b s : Int} {l : List Ob} {e : Ending} (hl : l.length ≤ 1048576) (h : TwoQ w L b s l e w') : ∃ p, TwOk p 0 ∧ e = .returned (.tuple #[twH p, twR p, .bool true]) ∧ Mem w w' (twC p ++ L) := by
  rcases h with ⟨hlb, h, r, ha, habs, hok, rok, rfl, hm⟩ | ⟨_, rfl, hm⟩
  · refine ⟨some (h, r), fun x hx => ?_, rfl, hm⟩
    cases hx
    have hf : h.abs.Few := by rw [ha]; exact load_few hlb _ _
    exact ⟨hok, hf, rok, habs, by rw [← h.abs_len', ha]; show l.length ≤ _; omega⟩
  · exact ⟨none, fun x hx => (by cases hx), rfl, hm⟩
def TwRel (W : World) (L : List Chunk) (P1 P2 Q1 Q2 : Value) (k : Nat) (w : World) : Prop := ∃ p q, twH p = P1 ∧ twR p = P2 ∧ twH q = Q1 ∧ twR q = Q2 ∧ TwOk p k ∧ TwOk q k ∧ Mem W w (twC p ++ (twC q ++ L))
theorem heapCalls_walk (W : World) (b1 s1 : Int) (A1 : Option Addr) (n1 d1 : Nat) (xs1 : List RO) (hst1 : StOk W b1 s1 A1 n1 d1 xs1) (b2 s2 : Int) (A2 : Option Addr) (n2 d2 : Nat) (xs2 : List RO) (hst2 : StOk W b2 s2 A2 n2 d2 xs2)
    (B : Option Addr) (m d : Nat) (ops : List HOp) (hs : Fact (RdC W 9 (.slice B m d) (ops.flatMap cHO))) (hit : OpsOk W ops) (hmm : m ≤ 1048576) :
    Calls Tryz.prog 6 #[.agg (stC b1 s1 A1 n1 d1).toArray, .agg (stC b2 s2 A2 n2 d2).toArray, .slice B m d] W fun e w' => e = .returned (.bool true) ∧ Gr W w' := by
  have hx1 := ((Mem.start W).alloc (.cells (stC b1 s1 A1 n1 d1).toArray 24)).alloc (.cells (stC b2 s2 A2 n2 d2).toArray 24)
  simp only [World.size_alloc] at hx1
  have hb1 := fun (w1 : World) (L : List Chunk) (hm : Mem W w1 L) => (both_ok W w1 L hm b1 s1 hst1.hb hst1.hs A1 n1 d1 xs1 ⟨hst1.rd.gr hm.below⟩ hst1.hn ⟨hst1.sz⟩ ⟨hst1.wf⟩).mono fun e w' h => TwoQ.tw (by rw [List.length_map, hst1.rd.len]; exact hst1.hn) h
  have hb2 := fun (w1 : World) (L : List Chunk) (hm : Mem W w1 L) => (both_ok W w1 L hm b2 s2 hst2.hb hst2.hs A2 n2 d2 xs2 ⟨hst2.rd.gr hm.below⟩ hst2.hn ⟨hst2.sz⟩ ⟨hst2.wf⟩).mono fun e w' h => TwoQ.tw (by rw [List.length_map, hst2.rd.len]; exact hst2.hn) h
  replace hb1 := Fact.mk hb1
  replace hb2 := Fact.mk hb2
  replace hit := Fact.mk hit
  have hpk20 := fun w k => pickF_ok w k 20 20 rfl (by omega) (by omega)
  have hpr20 := fun k => pickF_rng k 20 (by omega)
  have hpk2 := fun w k => pickF_ok w k 2 2 rfl (by omega) (by omega)
  have hpr2 := fun k => pickF_rng k 2 (by omega)
  replace hpk20 := Fact.mk hpk20
  replace hpr20 := Fact.mk hpr20
  replace hpk2 := Fact.mk hpk2
  replace hpr2 := Fact.mk hpr2
  have H : Fact (PlayG W [0, 1, 2, 3, 4, 5, 6, 7, 8, 9, 10, 11, 12, 13, 14, 15, 16, 17, 18, 19] callS allR) := ⟨all_play W⟩
  unfold stC at hx1 hb1 hb2 ⊢
  go_enter Tryz.func6, Tryz.ntmps6
  go_upto_region 1 with (fail)
  generalize hgb : W.heap.size = gb at hx1 ⊢
  generalize hw1 : (W.alloc (.cells [.int .i64 b1, .int .i64 s1, .slice A1 n1 d1].toArray 24)).alloc (.cells [.int .i64 b2, .int .i64 s2, .slice A2 n2 d2].toArray 24) = w1 at hx1
  try refine wp_world hw1 ?_
  clear hw1 hgb
  go_wp2_with (refine wp_rng rfl 24 _ rfl gb 0 rfl [.int .i64 b1, .int .i64 s1, .slice A1 n1 d1] (rng_blk hx1 m1) row_ST sz_ST ?_)
  refine (hb1.out w1 _ hx1).mono ?_
  rintro e w2 ⟨p0, hp0, rfl, hm2⟩
  replace hp0 := Fact.mk hp0
  go_wp2_with (refine wp_rng rfl 24 _ rfl (gb + 1) 0 rfl [.int .i64 b2, .int .i64 s2, .slice A2 n2 d2] (rng_blk hm2 (List.mem_append_right _ m0)) row_ST sz_ST ?_)
  refine (hb2.out w2 _ hm2).mono ?_
  rintro e w3 ⟨q0, hq0, rfl, hm3⟩
  generalize Blk (gb + 1) _ :: Blk gb _ :: ([] : List Chunk) = L0 at hm3
  have hstart : Fact (TwRel W L0 (twH p0) (twR p0) (twH q0) (twR q0) 0 w3) := ⟨p0, q0, rfl, rfl, rfl, rfl, hp0.out, hq0, hm3.perm (by rw [← List.append_assoc, ← List.append_assoc]; exact List.perm_append_comm.append_right _)⟩
  clear hm2 hm3 hx1 hp0 hq0
  generalize twH p0 = P1 at hstart ⊢
  generalize twR p0 = P2 at hstart ⊢
  generalize twH q0 = Q1 at hstart ⊢
  generalize twR q0 = Q2 at hstart ⊢
  go_wp2
  go_loopw [13] (fun s13 w' => ∃ (k : Nat), s13 = .int .i64 k ∧ k ≤ m ∧ TwRel W L0 P1 P2 Q1 Q2 k w') (fun s13 _ => m - (intOf s13).toNat)
  case atStart => exact ⟨0, rfl, by omega, hstart.out⟩
  case round =>
    obtain ⟨k, rfl, hk, p, q, e1, e2, e3, e4, hp, hq, hmr⟩ := hrel
    clear hstart
    by_cases hlt : k < m
    · obtain ⟨b, o, rfl, hc, hkm⟩ := rdHO_at hs.out k hlt
      have hxm : ops.getD k hop0 ∈ ops := by rw [List.getD_eq_getElem?_getD, List.getElem?_eq_getElem hkm]; exact List.getElem_mem hkm
      generalize ops.getD k hop0 = x at hc hxm
      obtain ⟨hxr, hxn, hxw⟩ := hit.out x hxm
      have hxw := Fact.mk hxw
      have hxr := Fact.mk hxr
      have hc := Fact.mk hc
      clear hxm hkm
      have wrapk : wrap64 ((k : Int) + 1) = (k : Int) + 1 := IntWalk.wrap64_in _ (by omega)
      have c0 := Gr.cell hmr.below (hc.out 0 _ rfl)
      simp only [Nat.add_zero] at c0
      go_wp2_with fail
      refine (hpk2.out wr x.on).mono ?_
      rintro e wq ⟨rfl, rfl⟩
      clear c0
      by_cases hsel : pickF x.on 2 = 0
      · rw [hsel]
        clear hsel
        cases p with
        | none =>
          obtain rfl : P1 = .pointer none := e1.symm
          obtain rfl : P2 = .pointer none := e2.symm
          go_wp2_with fail
          go_roundw
          case rel => exact ⟨k + 1, by go_num, by omega, none, q, rfl, rfl, e3, e4, hp.up, hq.up, hmr⟩
          case measure => first | exact measP_lt hlt | exact measN_lt hlt wrapk
        | some y =>
          obtain ⟨h, r⟩ := y
          obtain rfl : P1 = .pointer (some ⟨h.g, 0, none⟩) := e1.symm
          obtain rfl : P2 = .pointer (some ⟨r.g, 0, none⟩) := e2.symm
          obtain ⟨hok, hfew, rok, habs, hsz⟩ := hp _ rfl
          have hback : Fact (∀ (w' : World) (h' : Hp) (r' : Rf), h'.g = h.g → r'.g = r.g → TwGood h' r' (k + 1) → Mem W w' (HpC h' :: RfC r' :: (twC q ++ L0)) → TwRel W L0 (.pointer (some ⟨h.g, 0, none⟩)) (.pointer (some ⟨r.g, 0, none⟩)) Q1 Q2 (k + 1) w') := ⟨fun w' h' r' g1 g2 hg hm => ⟨some (h', r'), q, by simp only [twH, g1], by simp only [twR, g2], e3, e4, fun x hx => (by cases hx; exact hg), hq.up, hm⟩⟩
          replace hmr : Mem W wq (HpC h :: RfC r :: (twC q ++ L0)) := hmr
          clear e1 e2 e3 e4 hp hq
          replace hok := Fact.mk hok
          replace hfew := Fact.mk hfew
          replace rok := Fact.mk rok
          replace habs := Fact.mk habs
          go_upto_region 14 with (fail)
          go_upto_region 15 with (first | (refine wp_rng rfl 38 _ rfl b (o + k * 9) rfl (cHO x) (rng_gr hc.out hmr.below) row_HO sz_HO ?_) | (refine wp_setrow rfl 38 _ _ rfl wq.heap.size rfl 38 _ (cHO x) rfl (hmr.alloc _) sz_HO rfl (cHO_one x) ?_; intro w6 hm6))
          generalize wq.heap.size = g16 at hm6 ⊢
          have y1 := hm6.cell m0 1 rfl
          clear hmr
          go_wp2_with fail
          refine (hpk20.out w6 x.kd).mono ?_
          rintro e w7 ⟨rfl, rfl⟩
          have hj := hpr20.out x.kd
          obtain ⟨j, hj'⟩ := Int.eq_ofNat_of_zero_le hj.1
          rw [hj'] at hj ⊢
          have hj20 : j < 20 := by omega
          have hcc := Fact.mk (mem20 hj20)
          clear hj' hj y1
          have hxl := rdV_len hxr.out
          have hRs := H.out.size j hcc.out h x hok.out (by omega)
          have hfewS := H.out.few j hcc.out h.abs x hfew.out
          have hgrow := H.out.grow j hcc.out h.abs x
          have htold := H.out.told j hcc.out r w7 _ x hm6.pull2 rok.out (by rw [habs.out]; exact hok.out.good hfew.out) hxr.out hxn hxw.out (by have := r.abs_len; rw [habs.out, h.abs_len'] at this; omega)
          have hask := fun (w : World) (L : List Chunk) (hm : Mem W w (HpC h :: L)) => H.out.ask j hcc.out h w L x hm hok.out hfew.out hxr.out hxn hxw.out (by omega)
          rw [habs.out] at htold
          have hSl : (callS j h.abs x).objs.length ≤ 2097152 + (k + 1) := by rw [h.abs_len'] at hgrow; omega
          generalize callS j h.abs x = s1 at htold hask hSl hfewS
          generalize allR j h.abs x = q1 at htold hask hRs
          clear hgrow hxl
          replace htold := Fact.mk htold
          replace hask := Fact.mk hask
          replace hRs := Fact.mk hRs
          replace hfewS := Fact.mk hfewS
          go_wp2_with (refine wp_rng rfl 38 _ rfl g16 0 rfl (cHO x) (rng_blk hm6 m0) row_HO sz_HO ?_)
          refine htold.out.mono ?_
          rintro e w8 ⟨v, rfl, r', hrg', hra', rok', A1, c1, K1, k1, LA1, lc1, rfl, hm8⟩
          clear hm6 htold
          go_wp2_with (first | (refine wp_setrow rfl 43 _ _ rfl w8.heap.size rfl 43 _ (sdC q1 A1 c1 K1 k1 LA1 lc1) rfl (hm8.alloc _) sz_S rfl (sC_one _ _ _ _ _ _ _ _ _ _ _ _ _ _ _ _ _ _) ?_; intro w9 hm9) | (refine wp_rng rfl 38 _ rfl g16 0 rfl (cHO x) (rng_blk hm9 m5) row_HO sz_HO ?_))
          generalize w8.heap.size = g18 at hm9 ⊢
          clear hm8
          refine (hask.out w9 _ hm9.pull6).mono ?_
          rintro e w10 ⟨v, rfl, h', hhg', hha', hok', A2, c2, K2, k2, LA2, lc2, rfl, hm10⟩
          clear hm9 hask
          go_wp2_with (first | (refine wp_setrow rfl 43 _ _ rfl w10.heap.size rfl 43 _ (sdC q1 A2 c2 K2 k2 LA2 lc2) rfl (hm10.alloc _) sz_S rfl (sC_one _ _ _ _ _ _ _ _ _ _ _ _ _ _ _ _ _ _) ?_; intro w11 hm11) | (refine wp_rng rfl 43 _ rfl w10.heap.size 0 rfl (sdC q1 A2 c2 K2 k2 LA2 lc2) (rng_blk hm11 m0) row_S sz_S ?_) | (refine wp_rng rfl 43 _ rfl g18 0 rfl (sdC q1 A1 c1 K1 k1 LA1 lc1) (rng_blk hm11 m5) row_S sz_S ?_))
          generalize w10.heap.size = g19 at hm11 ⊢
          clear hm10
          refine (same_ok w11 q1 _ _ ⟨A2, c2, K2, k2, LA2, lc2, rfl, hm11.rd m1, hm11.rd m2, hm11.rd m3⟩ ⟨A1, c1, K1, k1, LA1, lc1, rfl, hm11.rd m6, hm11.rd m7, hm11.rd m8⟩ hRs.out.1 hRs.out.2.1 hRs.out.2.2).mono ?_
          rintro e w12 ⟨rfl, hg12⟩
          have hz : Mem W w12 (HpC h' :: RfC r' :: (twC q ++ L0)) := (hm11.tail.tail.tail.tail.gr hg12).sub (List.Sublist.cons_cons _ (.cons _ (.cons _ (.cons _ (.cons _ (List.Sublist.cons_cons _ (List.sublist_cons_self _ _)))))))
          have hgood : TwGood h' r' (k + 1) := ⟨hok', by rw [hha']; exact hfewS.out, rok', by rw [hha', hra'], by rw [← h'.abs_len', hha']; exact hSl⟩
          clear hm11 hg12
          go_wp2_with fail
          go_roundw
          case rel => exact ⟨k + 1, by go_num, by omega, hback.out w12 h' r' hhg' hrg' hgood hz⟩
          case measure => first | exact measP_lt hlt | exact measN_lt hlt wrapk
      · have hsel1 : pickF x.on 2 = 1 := by have := hpr2.out x.on; omega
        rw [hsel1]
        clear hsel hsel1
        cases q with
        | none =>
          obtain rfl : Q1 = .pointer none := e3.symm
          obtain rfl : Q2 = .pointer none := e4.symm
          go_wp2_with fail
          go_roundw
          case rel => exact ⟨k + 1, by go_num, by omega, p, none, e1, e2, rfl, rfl, hp.up, hq.up, hmr⟩
          case measure => first | exact measP_lt hlt | exact measN_lt hlt wrapk
        | some y =>
          obtain ⟨h, r⟩ := y
          obtain rfl : Q1 = .pointer (some ⟨h.g, 0, none⟩) := e3.symm
          obtain rfl : Q2 = .pointer (some ⟨r.g, 0, none⟩) := e4.symm
          obtain ⟨hok, hfew, rok, habs, hsz⟩ := hq _ rfl
          have hback : Fact (∀ (w' : World) (h' : Hp) (r' : Rf), h'.g = h.g → r'.g = r.g → TwGood h' r' (k + 1) → Mem W w' (HpC h' :: RfC r' :: (twC p ++ L0)) → TwRel W L0 P1 P2 (.pointer (some ⟨h.g, 0, none⟩)) (.pointer (some ⟨r.g, 0, none⟩)) (k + 1) w') := ⟨fun w' h' r' g1 g2 hg hm => ⟨p, some (h', r'), e1, e2, by simp only [twH, g1], by simp only [twR, g2], hp.up, fun x hx => (by cases hx; exact hg), hm.perm (by have := (List.perm_append_comm (l₁ := [HpC h', RfC r']) (l₂ := twC p)).append_right L0; simpa [twC] using this)⟩⟩
          replace hmr : Mem W wq (HpC h :: RfC r :: (twC p ++ L0)) := hmr.perm (by have := (List.perm_append_comm (l₁ := twC p) (l₂ := [HpC h, RfC r])).append_right L0; simpa [twC] using this)
          clear e1 e2 e3 e4 hp hq
          replace hok := Fact.mk hok
          replace hfew := Fact.mk hfew
          replace rok := Fact.mk rok
          replace habs := Fact.mk habs
          go_upto_region 14 with (fail)
          go_upto_region 15 with (first | (refine wp_rng rfl 38 _ rfl b (o + k * 9) rfl (cHO x) (rng_gr hc.out hmr.below) row_HO sz_HO ?_) | (refine wp_setrow rfl 38 _ _ rfl wq.heap.size rfl 38 _ (cHO x) rfl (hmr.alloc _) sz_HO rfl (cHO_one x) ?_; intro w6 hm6))
          generalize wq.heap.size = g16 at hm6 ⊢
          have y1 := hm6.cell m0 1 rfl
          clear hmr
          go_wp2_with fail
          refine (hpk20.out w6 x.kd).mono ?_
          rintro e w7 ⟨rfl, rfl⟩
          have hj := hpr20.out x.kd
          obtain ⟨j, hj'⟩ := Int.eq_ofNat_of_zero_le hj.1
          rw [hj'] at hj ⊢
          have hj20 : j < 20 := by omega
          have hcc := Fact.mk (mem20 hj20)
          clear hj' hj y1
          have hxl := rdV_len hxr.out
          have hRs := H.out.size j hcc.out h x hok.out (by omega)
          have hfewS := H.out.few j hcc.out h.abs x hfew.out
          have hgrow := H.out.grow j hcc.out h.abs x
          have htold := H.out.told j hcc.out r w7 _ x hm6.pull2 rok.out (by rw [habs.out]; exact hok.out.good hfew.out) hxr.out hxn hxw.out (by have := r.abs_len; rw [habs.out, h.abs_len'] at this; omega)
          have hask := fun (w : World) (L : List Chunk) (hm : Mem W w (HpC h :: L)) => H.out.ask j hcc.out h w L x hm hok.out hfew.out hxr.out hxn hxw.out (by omega)
          rw [habs.out] at htold
          have hSl : (callS j h.abs x).objs.length ≤ 2097152 + (k + 1) := by rw [h.abs_len'] at hgrow; omega
          generalize callS j h.abs x = s1 at htold hask hSl hfewS
          generalize allR j h.abs x = q1 at htold hask hRs
          clear hgrow hxl
          replace htold := Fact.mk htold
          replace hask := Fact.mk hask
          replace hRs := Fact.mk hRs
          replace hfewS := Fact.mk hfewS
          go_wp2_with (refine wp_rng rfl 38 _ rfl g16 0 rfl (cHO x) (rng_blk hm6 m0) row_HO sz_HO ?_)
          refine htold.out.mono ?_
          rintro e w8 ⟨v, rfl, r', hrg', hra', rok', A1, c1, K1, k1, LA1, lc1, rfl, hm8⟩
          clear hm6 htold
          go_wp2_with (first | (refine wp_setrow rfl 43 _ _ rfl w8.heap.size rfl 43 _ (sdC q1 A1 c1 K1 k1 LA1 lc1) rfl (hm8.alloc _) sz_S rfl (sC_one _ _ _ _ _ _ _ _ _ _ _ _ _ _ _ _ _ _) ?_; intro w9 hm9) | (refine wp_rng rfl 38 _ rfl g16 0 rfl (cHO x) (rng_blk hm9 m5) row_HO sz_HO ?_))
          generalize w8.heap.size = g18 at hm9 ⊢
          clear hm8
          refine (hask.out w9 _ hm9.pull6).mono ?_
          rintro e w10 ⟨v, rfl, h', hhg', hha', hok', A2, c2, K2, k2, LA2, lc2, rfl, hm10⟩
          clear hm9 hask
          go_wp2_with (first | (refine wp_setrow rfl 43 _ _ rfl w10.heap.size rfl 43 _ (sdC q1 A2 c2 K2 k2 LA2 lc2) rfl (hm10.alloc _) sz_S rfl (sC_one _ _ _ _ _ _ _ _ _ _ _ _ _ _ _ _ _ _) ?_; intro w11 hm11) | (refine wp_rng rfl 43 _ rfl w10.heap.size 0 rfl (sdC q1 A2 c2 K2 k2 LA2 lc2) (rng_blk hm11 m0) row_S sz_S ?_) | (refine wp_rng rfl 43 _ rfl g18 0 rfl (sdC q1 A1 c1 K1 k1 LA1 lc1) (rng_blk hm11 m5) row_S sz_S ?_))
          generalize w10.heap.size = g19 at hm11 ⊢
          clear hm10
          refine (same_ok w11 q1 _ _ ⟨A2, c2, K2, k2, LA2, lc2, rfl, hm11.rd m1, hm11.rd m2, hm11.rd m3⟩ ⟨A1, c1, K1, k1, LA1, lc1, rfl, hm11.rd m6, hm11.rd m7, hm11.rd m8⟩ hRs.out.1 hRs.out.2.1 hRs.out.2.2).mono ?_
          rintro e w12 ⟨rfl, hg12⟩
          have hz : Mem W w12 (HpC h' :: RfC r' :: (twC p ++ L0)) := (hm11.tail.tail.tail.tail.gr hg12).sub (List.Sublist.cons_cons _ (.cons _ (.cons _ (.cons _ (.cons _ (List.Sublist.cons_cons _ (List.sublist_cons_self _ _)))))))
          have hgood : TwGood h' r' (k + 1) := ⟨hok', by rw [hha']; exact hfewS.out, rok', by rw [hha', hra'], by rw [← h'.abs_len', hha']; exact hSl⟩
          clear hm11 hg12
          go_wp2_with fail
          go_roundw
          case rel => exact ⟨k + 1, by go_num, by omega, hback.out w12 h' r' hhg' hrg' hgood hz⟩
          case measure => first | exact measP_lt hlt | exact measN_lt hlt wrapk
    · obtain rfl : k = m := by omega
      cases p with
      | none =>
        obtain rfl : P1 = .pointer none := e1.symm
        obtain rfl : P2 = .pointer none := e2.symm
        cases q with
        | none =>
          obtain rfl : Q1 = .pointer none := e3.symm
          obtain rfl : Q2 = .pointer none := e4.symm
          go_wp2_with fail
          go_ret
          exact ⟨rfl, hmr.below⟩
        | some y =>
          obtain ⟨h, r⟩ := y
          obtain rfl : Q1 = .pointer (some ⟨h.g, 0, none⟩) := e3.symm
          obtain rfl : Q2 = .pointer (some ⟨r.g, 0, none⟩) := e4.symm
          obtain ⟨hok, hfew, rok, habs, hsz⟩ := hq _ rfl
          replace hok := Fact.mk hok
          replace rok := Fact.mk rok
          replace habs := Fact.mk habs
          go_wp2_with fail
          refine (alike_ok W wr L0 h r hmr hok rok ⟨by rw [habs.out]⟩ (congrArg Hs.spent habs.out)).mono ?_
          rintro e w8 ⟨rfl, hm8⟩
          go_wp2_with fail
          go_ret
          exact ⟨rfl, hm8.below⟩
      | some y =>
        obtain ⟨h, r⟩ := y
        obtain rfl : P1 = .pointer (some ⟨h.g, 0, none⟩) := e1.symm
        obtain rfl : P2 = .pointer (some ⟨r.g, 0, none⟩) := e2.symm
        obtain ⟨hok, hfew, rok, habs, hsz⟩ := hp _ rfl
        replace hok := Fact.mk hok
        replace rok := Fact.mk rok
        replace habs := Fact.mk habs
        go_wp2_with fail
        refine (alike_ok W wr (twC q ++ L0) h r hmr hok rok ⟨by rw [habs.out]⟩ (congrArg Hs.spent habs.out)).mono ?_
        rintro e w8 ⟨rfl, hm8⟩
        clear hmr
        cases q with
        | none =>
          obtain rfl : Q1 = .pointer none := e3.symm
          obtain rfl : Q2 = .pointer none := e4.symm
          go_wp2_with fail
          go_ret
          exact ⟨rfl, hm8.below⟩
        | some y =>
          obtain ⟨h2, r2⟩ := y
          obtain rfl : Q1 = .pointer (some ⟨h2.g, 0, none⟩) := e3.symm
          obtain rfl : Q2 = .pointer (some ⟨r2.g, 0, none⟩) := e4.symm
          obtain ⟨hok2, hfew2, rok2, habs2, hsz2⟩ := hq _ rfl
          replace hok2 := Fact.mk hok2
          replace rok2 := Fact.mk rok2
          replace habs2 := Fact.mk habs2
          go_wp2_with fail
          refine (alike_ok W w8 L0 h2 r2 hm8.tail.tail hok2 rok2 ⟨by rw [habs2.out]⟩ (congrArg Hs.spent habs2.out)).mono ?_
          rintro e w9 ⟨rfl, hm9⟩
          go_wp2_with fail
          go_ret
          exact ⟨rfl, hm9.below⟩
theorem heapCalls_ok (H : Type) (enc : TypeId × Value → H) (W : World) (base : Nat)
    (v0 : Value) (d0 : DataW H) (p0 : List MemPlace) (h0 : DataW.Trod enc Tryz.prog W 0 (fun _ => true) true 24 v0 d0 p0) (ok0 : Value.okWide Tryz.prog W .any base 24 v0)
    (v1 : Value) (d1 : DataW H) (p1 : List MemPlace) (h1 : DataW.Trod enc Tryz.prog W 0 (fun _ => true) true 24 v1 d1 p1) (ok1 : Value.okWide Tryz.prog W .any base 24 v1)
    (v2 : Value) (d2 : DataW H) (p2 : List MemPlace) (h2 : DataW.Trod enc Tryz.prog W 0 (fun _ => true) true 25 v2 d2 p2) (ok2 : Value.okWide Tryz.prog W .any base 25 v2) (hk : Rows.uptoSmall H ([d0] ++ ([d1] ++ ([d2] ++ []))) = true) :
    Calls Tryz.prog 6 #[v0, v1, v2] W fun e w' => e = .returned (.bool true) ∧ Gr W w' := by
  have hb := bulk_small hk
  simp only [Rows.uptoBulkAll, List.cons_append, List.nil_append] at hb
  obtain ⟨b, s, A, n, c, xs, rfl, hst⟩ := open_start h0 ok0 (by omega)
  obtain ⟨b', s', A', n', c', xs', rfl, hst'⟩ := open_start h1 ok1 (by omega)
  obtain ⟨B, m, d, ops, rfl, hr, hit, hl⟩ := open_script h2 ok2 (by omega)
  exact heapCalls_walk W b s A n c xs hst b' s' A' n' c' xs' hst' B m d ops ⟨hr⟩ hit (by omega)
end Go.Proofs.YtpibchjkmaghnaaGreat
