/- HeapFields: the walk. -/
import Derived.Test.YtpibchjkmaghnaaFldsAre
import Derived.Test.YtpibchjkmaghnaaHpPay
namespace Go.Proofs.Ytpibchjkmaghnaa
open Go.RowKit Go.Mm
set_option maxHeartbeats 4000000
set_option maxRecDepth 100000
set_option linter.unusedSimpArgs false
def atI (o : Option Nat) : Int := match o with | some j => j | none => -1
theorem atI_step {ks : List Int} (hn : ks.Nodup) {r : Nat} {q key : Int} (h : ks[r]? = some q) : atI ((ks.take (r + 1)).idxOf? key) = if q = key then (r : Int) else atI ((ks.take r).idxOf? key) := by
  obtain ⟨hk, e⟩ := List.getElem?_eq_some_iff.1 h
  rw [List.take_succ_eq_append_getElem hk, e, idx_app]
  by_cases q2 : q = key
  · subst q2
    have h1 : (ks.take r).idxOf? q = none := idx_none.2 fun hm => by
      obtain ⟨i, hi⟩ := List.mem_iff_getElem?.1 hm
      have hil : i < r := by
        rcases Nat.lt_or_ge i r with h | h
        · exact h
        · rw [List.getElem?_eq_none (by rw [List.length_take]; omega)] at hi; cases hi
      rw [List.getElem?_take_of_lt hil] at hi
      have := (List.getElem?_inj (by omega) hn).1 (hi.trans h.symm)
      omega
    rw [h1, if_pos rfl]
    have : (List.take r ks).length = r := by rw [List.length_take]; omega
    simp [List.idxOf?_cons, atI, this]
  · rw [if_neg q2]
    have e2 : ([q] : List Int).idxOf? key = none := by
      rw [List.idxOf?_cons, if_neg (by simpa using q2)]
      rfl
    rw [e2]
    cases (ks.take r).idxOf? key <;> rfl
theorem ths_one {h : Hp} {o : Ob} (e : h.objs = [o]) : ∃ t, h.ths = [t] ∧ t.ob = o := by
  obtain ⟨g, b, s, A, c, ths⟩ := h
  match ths with
  | [] => simp [Hp.objs] at e
  | [t] => exact ⟨t, rfl, by simpa [Hp.objs] using e⟩
  | _ :: _ :: _ => simp [Hp.objs] at e
theorem fields_walk (W : World) (budget : Int) (A : Option Addr) (m c : Nat) (ops : List HOp) (hs : Fact (RdC W 9 (.slice A m c) (ops.flatMap cHO))) (hwf : ∀ x, x ∈ ops → (Lit.int .i64 x.I).wf = true) (hmm : m ≤ maxLen) :
    Calls Try.prog 5 #[.int .i64 budget, .slice A m c] W fun e w' => e = .returned (.bool true) ∧ Gr W w' := by
  obtain ⟨iV, hiV, hz0, hz1, hz2⟩ := info_parts inf_V
  obtain ⟨iI, hiI, yz0, yz1, yz2⟩ := info_parts inf_I
  replace hwf := Fact.mk hwf
  go_enter Try.func5, Try.ntmps5
  go_wp2_with fail
  refine (pickF_ok W budget 1048576 1048576 rfl (by omega) (by omega)).mono ?_
  rintro e w1 ⟨rfl, rfl⟩
  have hp := pickF_rng budget 1048576 (by omega)
  generalize pickF budget 1048576 = p at hp ⊢
  have e1 : IntKind.i64.wrap (p + 2) = p + 2 := IntWalk.i64_in _ (by omega)
  go_wp2_with fail
  refine (heapNew_ok w1 w1 [] (Mem.start w1) (p + 2) 0).mono ?_
  rintro e w2 ⟨g, rfl, hm2⟩
  rw [show max (p + 2) 0 = p + 2 by omega, show max (0 : Int) 0 = 0 from rfl] at hm2
  go_wp2_with fail
  have hrec := record_ok w1 w2 [] ⟨g, p + 2, 0, none, 0, []⟩ hm2 ⟨⟨by simp, by simp, by show 0 ≤ p + 2; omega, by show p + 2 ≤ _; omega, by show (0 : Int) ≤ 0; omega, by show (0 : Int) ≤ _; omega⟩⟩ (by simp)
  have hroom : Hs.room (Hp.abs ⟨g, p + 2, 0, none, 0, []⟩) 2 = true := by simp [Hs.room, Hp.abs]; omega
  have hmR : Hs.makeR (Hp.abs ⟨g, p + 2, 0, none, 0, []⟩) true 2 7 = .tuple #[.agg #[.int .i64 7, .int .i64 0], .bool true] := by unfold Hs.makeR; rw [hroom]; rfl
  have hmS : Hs.make (Hp.abs ⟨g, p + 2, 0, none, 0, []⟩) true 2 ⟨7, [], [], 0, 0, false⟩ = ⟨p + 2, 0 + 2, [⟨7, [], [], 0, 0, false⟩]⟩ := by unfold Hs.make; rw [hroom]; rfl
  rw [hmR, hmS] at hrec
  refine hrec.mono ?_
  clear hrec hroom hmR hmS hm2
  rintro e w3 ⟨rfl, h0, hg0, ha0, hok0, hm3⟩
  obtain ⟨t0, ht0, hob0⟩ := ths_one (congrArg Hs.objs ha0)
  have hb0 : h0.budget = p + 2 := congrArg Hs.budget ha0
  have hs0 : h0.spent = 2 := congrArg Hs.spent ha0
  clear ha0
  go_upto_region 9 with (refine wp_setrow rfl 27 _ _ rfl w3.heap.size rfl 27 _ [.int .i64 7, .int .i64 0] rfl (hm3.alloc _) sz_V rfl (cV_one (7, 0)) ?_; intro w4 hm4; have z0 := hm4.cell m0 0 rfl; have z1 := hm4.cell m0 1 rfl)
  generalize w3.heap.size = gv at hm4 z0 z1 ⊢
  clear z0 z1 hm3
  have hm5 : Mem w1 w4 (HpC h0 :: Blk gv (.cells [.int .i64 7, .int .i64 0].toArray 27) :: Own 1 (.slice none 0 0) (nums .i64 []) :: Own 2 (.slice none 0 0) (fV []) :: []) := (Mem.nil (Mem.nil hm4.swap 2 none) 1 none).pull2.pull3.swap
  clear hm4
  replace hob0 := Fact.mk hob0
  replace ht0 := Fact.mk ht0
  replace hb0 := Fact.mk hb0
  replace hs0 := Fact.mk hs0
  replace hg0 := Fact.mk hg0
  go_wp2
  go_loopw [5, 9, 10, 11] (fun s5 s9 s10 s11 w' => ∃ (k : Nat) (h : Hp) (t : Th) (ks : List Int) (vs : List V2) (left : Int) (KA : Option Addr) (kc : Nat) (VA : Option Addr) (vc : Nat), s5 = .int .i64 left ∧ s9 = .slice KA ks.length kc ∧ s10 = .slice VA ks.length vc ∧ s11 = .int .i64 k ∧ k ≤ m ∧ h.g = g ∧ h.Ok ∧ h.ths = [t] ∧ t.ob = ⟨7, vs, ks, 0, 0, false⟩ ∧ vs.length = ks.length ∧ ks.length ≤ 256 ∧ left = h.budget - h.spent ∧ 0 ≤ left ∧ left ≤ 1048576 ∧ Mem w1 w' (HpC h :: Blk gv (.cells [.int .i64 7, .int .i64 0].toArray 27) :: Own 1 (.slice KA ks.length kc) (nums .i64 ks) :: Own 2 (.slice VA ks.length vc) (fV vs) :: [])) (fun _ _ _ s11 _ => m - (intOf s11).toNat)
  case atStart => exact ⟨0, h0, t0, [], [], p, none, 0, none, 0, rfl, rfl, rfl, rfl, by omega, hg0.out, hok0, ht0.out, hob0.out, rfl, by simp, by rw [hb0.out, hs0.out]; omega, hp.1, by omega, hm5⟩
  case round =>
    obtain ⟨k, h, t, ks, vs, left, KA, kc, VA, vc, rfl, rfl, rfl, rfl, hkm, hgg, hok, hth, hob, hlen, hk256, hleft, hl0, hl1, hmr⟩ := hrel
    clear hm5 hob0 ht0 hb0 hs0 hg0 hok0
    replace hok := Fact.mk hok
    replace hth := Fact.mk hth
    replace hob := Fact.mk hob
    replace hlen := Fact.mk hlen
    replace hleft := Fact.mk hleft
    subst hgg
    by_cases hlt : k < m
    · obtain ⟨b, o, rfl, hc, hkmm⟩ := rdHO_at hs.out k hlt
      have hxm : ops.getD k hop0 ∈ ops := by rw [List.getD_eq_getElem?_getD, List.getElem?_eq_getElem hkmm]; exact List.getElem_mem hkmm
      generalize ops.getD k hop0 = x at hc hxm
      have hw := Fact.mk (hwf.out x hxm)
      replace hc := Fact.mk hc
      have wrapk : wrap64 ((k : Int) + 1) = (k : Int) + 1 := IntWalk.wrap64_in _ (by unfold maxLen at hmm; omega)
      have htk := th_at (t := t) (i := 0) hok.out (by rw [hth.out]; simp) (by simp [hth.out])
      have hnd : Fact ks.Nodup := ⟨by have := htk.nodup; rw [hob.out] at this; exact this⟩
      clear htk hxm
      have x6 := Gr.cell hmr.below (hc.out 6 _ rfl)
      go_wp2
      go_loopw [13, 14] (fun s13 s14 W' => ∃ (r : Nat), s14 = .int .i64 r ∧ r ≤ ks.length ∧ s13 = .int .i64 (atI ((ks.take r).idxOf? x.I)) ∧ W' = wr) (fun _ s14 _ => ks.length - (intOf s14).toNat)
      case atStart => exact ⟨0, rfl, by omega, rfl, rfl⟩
      case round =>
        obtain ⟨r, rfl, hr, rfl, rfl⟩ := hrel
        by_cases hlr : r < ks.length
        · obtain ⟨q, hq⟩ : ∃ q, ks[r]? = some q := ⟨_, List.getElem?_eq_getElem hlr⟩
          have hstep := Fact.mk (atI_step hnd.out (key := x.I) hq)
          obtain ⟨kb, ko, hKA, kc2, _⟩ := (hmr.rd m2).num r hlr
          rw [show ks.getD r 0 = q by rw [List.getD_eq_getElem?_getD, hq]; rfl] at kc2
          clear hq
          generalize atI ((ks.take r).idxOf? x.I) = a0 at hstep ⊢
          have hle1 : r + 1 ≤ ks.length := hlr
          have wrapr : wrap64 ((r : Int) + 1) = (r : Int) + 1 := IntWalk.wrap64_in _ (by omega)
          have hnum1 : Value.int .i64 (wrap64 ((r : Int) + 1)) = .int .i64 ((r + 1 : Nat) : Int) := by rw [wrapr]; simp
          subst hKA
          by_cases hqk : q = x.I
          · have hqk' : (q == x.I) = true := by simpa using hqk
            replace hqk := Fact.mk hqk
            have hrel2 : Fact (Value.int .i64 (r : Int) = .int .i64 (atI ((ks.take (r + 1)).idxOf? x.I))) := ⟨by rw [hstep.out, if_pos hqk.out]⟩
            clear hp e1 hl0 hl1 hkm hk256 hlt hkmm wrapk hc x6 hs hwf hok hth hob hlen hleft hw hstep
            replace hnum1 := Fact.mk hnum1
            replace wrapr := Fact.mk wrapr
            go_wp2
            go_roundw
            case rel => exact ⟨r + 1, hnum1.out, hle1, hrel2.out, by first | trivial | rfl⟩
            case measure => exact measN_lt hlr wrapr.out
          · have hqk' : (q == x.I) = false := by simpa using hqk
            replace hqk := Fact.mk hqk
            have hrel2 : Fact (Value.int .i64 a0 = .int .i64 (atI ((ks.take (r + 1)).idxOf? x.I))) := ⟨by rw [hstep.out, if_neg hqk.out]⟩
            clear hp e1 hl0 hl1 hkm hk256 hlt hkmm wrapk hc x6 hs hwf hok hth hob hlen hleft hw hstep
            replace hnum1 := Fact.mk hnum1
            replace wrapr := Fact.mk wrapr
            go_wp2
            go_roundw
            case rel => exact ⟨r + 1, hnum1.out, hle1, hrel2.out, by first | trivial | rfl⟩
            case measure => exact measN_lt hlr wrapr.out
        · obtain rfl : r = ks.length := by omega
          rw [List.take_of_length_le (Nat.le_refl _)]
          have x1 := Gr.cell hmr.below (hc.out 1 _ rfl)
          clear x6
          go_wp2_with fail
          refine (pickF_ok wr x.kd 3 3 rfl (by omega) (by omega)).mono ?_
          rintro e w7 ⟨rfl, rfl⟩
          clear x1
          have hpp := pickF_rng x.kd 3 (by omega)
          generalize pickF x.kd 3 = pk at hpp ⊢
          have hnm : Fact (nm h.objs (7, 0) = some 0) := ⟨by simp [nm, Hp.objs, hth.out, hob.out]⟩
          have hgt : Fact (h.ths.getD 0 th0 = t) := ⟨by simp [hth.out]⟩
          have hk7 : Fact (t.ob.kind = 7) := ⟨by rw [hob.out]⟩
          have hkeys : Fact (t.ob.keys = ks) := ⟨by rw [hob.out]⟩
          have hnumk : Fact (Value.int .i64 (wrap64 ((k : Int) + 1)) = .int .i64 ((k + 1 : Nat) : Int)) := ⟨by rw [wrapk]; simp⟩
          have hlek : Fact (k + 1 ≤ m) := ⟨hlt⟩
          replace wrapk := Fact.mk wrapk
          replace hp := Fact.mk hp
          clear e1
          by_cases h0 : pk = 0
          · have h0' : (pk == 0) = true := by simpa using h0
            replace h0 := Fact.mk h0
            cases hj : ks.idxOf? x.I with
            | none =>
              replace hj := Fact.mk hj
              rw [show atI none = -1 from rfl]
              go_wp2_with (refine wp_rng rfl 27 _ rfl gv 0 rfl (cV (7, 0)) (rng_blk hmr m1) row_V sz_V ?_)
              refine (deleteNo_ok w1 w7 _ h hmr hok 7 0 x.I hw 0 hnm.out t hgt hk7 ⟨by rw [hkeys.out]; exact hj.out⟩).mono ?_
              rintro e w8 ⟨rfl, hm8⟩
              clear hmr
              as_aux_lemma =>
                have hfa := fieldsAre_ok w1 _ _ (h) hm8 hok (t) hth (ks) (vs) hob hlen (by omega) (KA) (kc) (VA) (vc) ⟨m1⟩ ⟨m2⟩ x.I hw
                try rw [hlen.out] at hfa
                try rw [hlen.out] at hfa
                replace hfa := Fact.mk hfa
                go_wp2_with (refine wp_rng rfl 27 _ rfl gv 0 rfl (cV (7, 0)) (rng_blk hm8 m1) row_V sz_V ?_)
                refine hfa.out.mono ?_
                clear hfa
                rintro e wE ⟨rfl, hmE⟩
                go_wp2_with fail
                go_roundw
                case rel => exact ⟨k + 1, h, t, ks, vs, left, KA, kc, VA, vc, rfl, by first | rfl | rw [hlen.out], by first | rfl | rw [hlen.out], hnumk.out, hlek.out, rfl, hok.out, hth.out, hob.out, hlen.out, hk256, hleft.out, hl0, hl1, by first | exact hmE | (rw [hlen.out]; exact hmE)⟩
                case measure => exact measN_lt hlt wrapk.out
            | some j =>
              have hjl := idx_lt hj
              replace hj := Fact.mk hj
              rw [show atI (some j) = (j : Int) from rfl]
              have hj0 : decide ((j : Int) ≥ 0) = true := decide_eq_true (by omega)
              go_wp2_with (refine wp_rng rfl 27 _ rfl gv 0 rfl (cV (7, 0)) (rng_blk hmr m1) row_V sz_V ?_)
              refine (deleteYes_ok w1 w7 _ h hmr hok 7 0 x.I hw 0 hnm.out t hgt hk7 j ⟨by rw [hkeys.out]; exact hj.out⟩).mono ?_
              rintro e w8 ⟨rfl, t', hob', htk', hm8⟩
              clear hmr
              have hth' : Fact ((h.upd 0 t').ths = [t']) := ⟨by simp [Hp.upd, hth.out]⟩
              have hok' : Fact (h.upd 0 t').Ok := ⟨upd_ok hok.out 0 t' htk'⟩
              have hob2 : Fact (t'.ob = ⟨7, dropV vs j, dropK ks j, 0, 0, false⟩) := ⟨by rw [hob', hob.out]⟩
              have hdk : Fact ((dropK ks j).length = ks.length - 1) := ⟨dropK_len hjl⟩
              have hdv : Fact ((dropV vs j).length = ks.length - 1) := ⟨by rw [dropV_len (by rw [hlen.out]; exact hjl), hlen.out]⟩
              have hlen2 : Fact ((dropV vs j).length = (dropK ks j).length) := ⟨by rw [hdk.out, hdv.out]⟩
              clear hob' htk'
              obtain ⟨kb, ko, rfl⟩ := OwnAt.addr (hm8.ok _ m2) (by have := OwnAt.cap (hm8.ok _ m2); omega)
              obtain ⟨vb, vo, rfl⟩ := OwnAt.addr (hm8.ok _ m3) (by have := OwnAt.cap (hm8.ok _ m3); omega)
              have hkc := OwnAt.cap (hm8.ok _ m2)
              have hvc := OwnAt.cap (hm8.ok _ m3)
              have q1 : ((j : Int) ≤ (j : Int)) = True := eq_true (by omega)
              have q2 : ((0 : Int) ≤ (j : Int)) = True := eq_true (by omega)
              have q3 : ((j : Int) ≤ (kc : Int)) = True := eq_true (by omega)
              have q4 : ((j : Int) + 1 ≤ (ks.length : Int)) = True := eq_true (by omega)
              have q5 : ((ks.length : Int) ≤ (kc : Int)) = True := eq_true (by omega)
              have q6 : ((0 : Int) ≤ (j : Int) + 1) = True := eq_true (by omega)
              have q7 : ((j : Int) + 1 ≤ (kc : Int)) = True := eq_true (by omega)
              have q8 : ((j : Int) ≤ (vc : Int)) = True := eq_true (by omega)
              have q9 : ((ks.length : Int) ≤ (vc : Int)) = True := eq_true (by omega)
              have q10 : ((j : Int) + 1 ≤ (vc : Int)) = True := eq_true (by omega)
              have ej : IntKind.i64.wrap ((j : Int) + 1) = (j : Int) + 1 := IntWalk.i64_in _ (by omega)
              have ejn : ((j : Int) + 1).toNat = j + 1 := by omega
              have hsum : Fact (j + (ks.length - (j + 1)) = (dropK ks j).length) := ⟨by rw [hdk.out]; omega⟩
              have hkr := hm8.rd m2
              have hvr := hm8.rd m3
              by_cases hkc1 : kc = j + 1
              · subst hkc1
                have hkn1 : ks.length = j + 1 := by omega
                have p1 : ((ks.length : Int) ≤ (j : Int) + 1) = True := eq_true (by omega)
                have p2 : ((j : Int) ≤ (j : Int) + 1) = True := eq_true (by omega)
                have hnk : RdC w8 1 (.slice (some ⟨kb, ko, none⟩) (ks.length - (j + 1)) 0) (nums .i64 (ks.drop (j + 1))) := by
                  rw [hkn1, Nat.sub_self, List.drop_of_length_le (by omega)]
                  exact RdC.empty _ _ _ _ (by unfold maxLen; omega)
                by_cases hvc1 : vc = j + 1
                · subst hvc1
                  have hnv : ∀ W, RdC W 2 (.slice (some ⟨vb, vo, none⟩) ks.length (j + 1)) (fV vs) → RdC W 2 (.slice (some ⟨vb, vo, none⟩) (ks.length - (j + 1)) 0) (fV (vs.drop (j + 1))) := fun W _ => by
                    rw [hkn1, Nat.sub_self, List.drop_of_length_le (by rw [hlen.out]; omega)]
                    exact RdC.empty _ _ _ _ (by unfold maxLen; omega)
                  replace hkn1 := Fact.mk hkn1
                  clear hkr hvr
                  replace hnk : Fact (RdC w8 1 _ _) := Fact.mk hnk
                  replace hnv := Fact.mk hnv
                  have hNL : Fact ((dropK ks j).length = j) := ⟨by rw [hdk.out]; first | omega | (have := hkn1.out; omega)⟩
                  have hKN : Fact (ks.length - (j + 1) = 0) := ⟨by first | rfl | (have := hkn1.out; omega)⟩
                  go_upto_region 25 with (fail)
                  go_still_tail 8, (by kernel_rfl)
                  have hmk := hm8.drew.pull2.recut j j (by omega) (Nat.le_refl _) (by omega)
                  rw [Nat.mul_one, show (nums .i64 ks).take j = nums .i64 (ks.take j) by simp [nums, List.map_take]] at hmk
                  have hkR := hnk.out.gr (Gr.refl w8).drew
                  try rw [hKN.out] at hkR
                  replace hkR := Fact.mk hkR
                  go_upto_region 26 with (at_builtin; refine wp_app rfl _ _ _ rfl 2 iI _ 1 8 ty_Is hiI yz0 yz1 yz2 rfl (some ⟨kb, ko, none⟩) j j _ rfl hmk _ 0 0 (nums .i64 (ks.drop (j + 1))) rfl hkR.out (by unfold maxLen; omega) (by omega) ?_; intro KA9 kc9 w9 HM9)
                  rw [← nums_append, show ks.take j ++ ks.drop (j + 1) = dropK ks j from rfl] at HM9
                  try rw [Nat.add_zero] at HM9
                  clear hmk hkR hnk hm8
                  have hvR := hnv.out _ (HM9.drew.rd m3)
                  try rw [hKN.out] at hvR
                  replace hvR := Fact.mk hvR
                  have hmv := HM9.drew.pull3.recut j j (by omega) (Nat.le_refl _) (by omega)
                  rw [show (fV vs).take (j * 2) = fV (vs.take j) from (flatMap_take cV 2 cV_len vs j).symm] at hmv
                  clear hnv HM9
                  go_still_tail 8, (by kernel_rfl)
                  go_upto_region 38 with (at_builtin; refine wp_app rfl _ _ _ rfl 27 iV _ 2 16 ty_Vs hiV hz0 hz1 hz2 rfl (some ⟨vb, vo, none⟩) j j _ rfl hmv _ 0 0 (fV (vs.drop (j + 1))) rfl hvR.out (by unfold maxLen; omega) (by omega) ?_; intro VA9 vc9 w10 HM10)
                  rw [← fV_app, show vs.take j ++ vs.drop (j + 1) = dropV vs j from rfl] at HM10
                  try rw [Nat.add_zero] at HM10
                  clear hmv hvR
                  have hmT : Mem w1 w10 (HpC (h.upd 0 t') :: Blk gv (.cells [.int .i64 7, .int .i64 0].toArray 27) :: Own 1 (.slice KA9 (dropK ks j).length kc9) (nums .i64 (dropK ks j)) :: Own 2 (.slice VA9 (dropK ks j).length vc9) (fV (dropV vs j)) :: []) := by
                    rw [hNL.out]
                    exact HM10.pull2.pull3.swap.perm (((List.Perm.swap _ _ _).cons _).cons _)
                  clear HM10 q1 q2 q3 q4 q5 q6 q7 q8 q9 q10 ej ejn
                  have hk2 : (dropK ks j).length ≤ 256 := by rw [hdk.out]; omega
                  as_aux_lemma =>
                    have hfa := fieldsAre_ok w1 _ _ ((h.upd 0 t')) hmT hok' (t') hth' ((dropK ks j)) ((dropV vs j)) hob2 hlen2 (by omega) (KA9) (kc9) (VA9) (vc9) ⟨m1⟩ ⟨m2⟩ x.I hw
                    try rw [hNL.out] at hfa
                    try rw [hlen.out] at hfa
                    replace hfa := Fact.mk hfa
                    go_wp2_with (refine wp_rng rfl 27 _ rfl gv 0 rfl (cV (7, 0)) (rng_blk hmT m1) row_V sz_V ?_)
                    refine hfa.out.mono ?_
                    clear hfa
                    rintro e wE ⟨rfl, hmE⟩
                    go_wp2_with fail
                    go_roundw
                    case rel => exact ⟨k + 1, (h.upd 0 t'), t', (dropK ks j), (dropV vs j), left, KA9, kc9, VA9, vc9, rfl, by first | rfl | rw [hNL.out], by first | rfl | rw [hNL.out], hnumk.out, hlek.out, rfl, hok'.out, hth'.out, hob2.out, hlen2.out, hk2, hleft.out, hl0, hl1, by first | exact hmE | (rw [hNL.out]; exact hmE)⟩
                    case measure => exact measN_lt hlt wrapk.out
                · replace hkn1 := Fact.mk hkn1
                  have hnv : ∀ W, RdC W 2 (.slice (some ⟨vb, vo, none⟩) ks.length vc) (fV vs) → RdC W 2 (.slice (some ⟨vb, vo + (j + 1) * 2, none⟩) (ks.length - (j + 1)) (vc - (j + 1))) (fV (vs.drop (j + 1))) := fun W hW => by
                    have h1 := hW.behind (j + 1) (by omega)
                    rw [show (fV vs).drop ((j + 1) * 2) = fV (vs.drop (j + 1)) from (flatMap_drop cV 2 cV_len vs (j + 1)).symm] at h1
                    exact h1
                  clear hkr hvr
                  replace hnk : Fact (RdC w8 1 _ _) := Fact.mk hnk
                  replace hnv := Fact.mk hnv
                  have hNL : Fact ((dropK ks j).length = j) := ⟨by rw [hdk.out]; first | omega | (have := hkn1.out; omega)⟩
                  have hKN : Fact (ks.length - (j + 1) = 0) := ⟨by first | rfl | (have := hkn1.out; omega)⟩
                  go_upto_region 25 with (fail)
                  go_still_tail 8, (by kernel_rfl)
                  have hmk := hm8.drew.pull2.recut j j (by omega) (Nat.le_refl _) (by omega)
                  rw [Nat.mul_one, show (nums .i64 ks).take j = nums .i64 (ks.take j) by simp [nums, List.map_take]] at hmk
                  have hkR := hnk.out.gr (Gr.refl w8).drew
                  try rw [hKN.out] at hkR
                  replace hkR := Fact.mk hkR
                  go_upto_region 26 with (at_builtin; refine wp_app rfl _ _ _ rfl 2 iI _ 1 8 ty_Is hiI yz0 yz1 yz2 rfl (some ⟨kb, ko, none⟩) j j _ rfl hmk _ 0 0 (nums .i64 (ks.drop (j + 1))) rfl hkR.out (by unfold maxLen; omega) (by omega) ?_; intro KA9 kc9 w9 HM9)
                  rw [← nums_append, show ks.take j ++ ks.drop (j + 1) = dropK ks j from rfl] at HM9
                  try rw [Nat.add_zero] at HM9
                  clear hmk hkR hnk hm8
                  have hvR := hnv.out _ (HM9.drew.rd m3)
                  try rw [hKN.out] at hvR
                  replace hvR := Fact.mk hvR
                  have hmv := HM9.drew.pull3.recut j j (by omega) (Nat.le_refl _) (by omega)
                  rw [show (fV vs).take (j * 2) = fV (vs.take j) from (flatMap_take cV 2 cV_len vs j).symm] at hmv
                  clear hnv HM9
                  go_still_tail 8, (by kernel_rfl)
                  go_upto_region 38 with (at_builtin; refine wp_app rfl _ _ _ rfl 27 iV _ 2 16 ty_Vs hiV hz0 hz1 hz2 rfl (some ⟨vb, vo, none⟩) j j _ rfl hmv _ 0 (vc - (j + 1)) (fV (vs.drop (j + 1))) rfl hvR.out (by unfold maxLen; omega) (by omega) ?_; intro VA9 vc9 w10 HM10)
                  rw [← fV_app, show vs.take j ++ vs.drop (j + 1) = dropV vs j from rfl] at HM10
                  try rw [Nat.add_zero] at HM10
                  clear hmv hvR
                  have hmT : Mem w1 w10 (HpC (h.upd 0 t') :: Blk gv (.cells [.int .i64 7, .int .i64 0].toArray 27) :: Own 1 (.slice KA9 (dropK ks j).length kc9) (nums .i64 (dropK ks j)) :: Own 2 (.slice VA9 (dropK ks j).length vc9) (fV (dropV vs j)) :: []) := by
                    rw [hNL.out]
                    exact HM10.pull2.pull3.swap.perm (((List.Perm.swap _ _ _).cons _).cons _)
                  clear HM10 q1 q2 q3 q4 q5 q6 q7 q8 q9 q10 ej ejn
                  have hk2 : (dropK ks j).length ≤ 256 := by rw [hdk.out]; omega
                  as_aux_lemma =>
                    have hfa := fieldsAre_ok w1 _ _ ((h.upd 0 t')) hmT hok' (t') hth' ((dropK ks j)) ((dropV vs j)) hob2 hlen2 (by omega) (KA9) (kc9) (VA9) (vc9) ⟨m1⟩ ⟨m2⟩ x.I hw
                    try rw [hNL.out] at hfa
                    try rw [hlen.out] at hfa
                    replace hfa := Fact.mk hfa
                    go_wp2_with (refine wp_rng rfl 27 _ rfl gv 0 rfl (cV (7, 0)) (rng_blk hmT m1) row_V sz_V ?_)
                    refine hfa.out.mono ?_
                    clear hfa
                    rintro e wE ⟨rfl, hmE⟩
                    go_wp2_with fail
                    go_roundw
                    case rel => exact ⟨k + 1, (h.upd 0 t'), t', (dropK ks j), (dropV vs j), left, KA9, kc9, VA9, vc9, rfl, by first | rfl | rw [hNL.out], by first | rfl | rw [hNL.out], hnumk.out, hlek.out, rfl, hok'.out, hth'.out, hob2.out, hlen2.out, hk2, hleft.out, hl0, hl1, by first | exact hmE | (rw [hNL.out]; exact hmE)⟩
                    case measure => exact measN_lt hlt wrapk.out
              · have hnk := hkr.behind (j + 1) (by omega)
                rw [Nat.mul_one, show (nums .i64 ks).drop (j + 1) = nums .i64 (ks.drop (j + 1)) by simp [nums, List.map_drop]] at hnk
                by_cases hvc1 : vc = j + 1
                · subst hvc1
                  have hkn1 : ks.length = j + 1 := by omega
                  have p1 : ((ks.length : Int) ≤ (j : Int) + 1) = True := eq_true (by omega)
                  have p2 : ((j : Int) ≤ (j : Int) + 1) = True := eq_true (by omega)
                  have hnv : ∀ W, RdC W 2 (.slice (some ⟨vb, vo, none⟩) ks.length (j + 1)) (fV vs) → RdC W 2 (.slice (some ⟨vb, vo, none⟩) (ks.length - (j + 1)) 0) (fV (vs.drop (j + 1))) := fun W _ => by
                    rw [hkn1, Nat.sub_self, List.drop_of_length_le (by rw [hlen.out]; omega)]
                    exact RdC.empty _ _ _ _ (by unfold maxLen; omega)
                  replace hkn1 := Fact.mk hkn1
                  clear hkr hvr
                  replace hnk : Fact (RdC w8 1 _ _) := Fact.mk hnk
                  replace hnv := Fact.mk hnv
                  have hNL : Fact ((dropK ks j).length = j) := ⟨by rw [hdk.out]; first | omega | (have := hkn1.out; omega)⟩
                  have hKN : Fact (ks.length - (j + 1) = 0) := ⟨by first | rfl | (have := hkn1.out; omega)⟩
                  go_upto_region 25 with (fail)
                  go_still_tail 8, (by kernel_rfl)
                  have hmk := hm8.drew.pull2.recut j j (by omega) (Nat.le_refl _) (by omega)
                  rw [Nat.mul_one, show (nums .i64 ks).take j = nums .i64 (ks.take j) by simp [nums, List.map_take]] at hmk
                  have hkR := hnk.out.gr (Gr.refl w8).drew
                  try rw [hKN.out] at hkR
                  replace hkR := Fact.mk hkR
                  go_upto_region 26 with (at_builtin; refine wp_app rfl _ _ _ rfl 2 iI _ 1 8 ty_Is hiI yz0 yz1 yz2 rfl (some ⟨kb, ko, none⟩) j j _ rfl hmk _ 0 (kc - (j + 1)) (nums .i64 (ks.drop (j + 1))) rfl hkR.out (by unfold maxLen; omega) (by omega) ?_; intro KA9 kc9 w9 HM9)
                  rw [← nums_append, show ks.take j ++ ks.drop (j + 1) = dropK ks j from rfl] at HM9
                  try rw [Nat.add_zero] at HM9
                  clear hmk hkR hnk hm8
                  have hvR := hnv.out _ (HM9.drew.rd m3)
                  try rw [hKN.out] at hvR
                  replace hvR := Fact.mk hvR
                  have hmv := HM9.drew.pull3.recut j j (by omega) (Nat.le_refl _) (by omega)
                  rw [show (fV vs).take (j * 2) = fV (vs.take j) from (flatMap_take cV 2 cV_len vs j).symm] at hmv
                  clear hnv HM9
                  go_still_tail 8, (by kernel_rfl)
                  go_upto_region 38 with (at_builtin; refine wp_app rfl _ _ _ rfl 27 iV _ 2 16 ty_Vs hiV hz0 hz1 hz2 rfl (some ⟨vb, vo, none⟩) j j _ rfl hmv _ 0 0 (fV (vs.drop (j + 1))) rfl hvR.out (by unfold maxLen; omega) (by omega) ?_; intro VA9 vc9 w10 HM10)
                  rw [← fV_app, show vs.take j ++ vs.drop (j + 1) = dropV vs j from rfl] at HM10
                  try rw [Nat.add_zero] at HM10
                  clear hmv hvR
                  have hmT : Mem w1 w10 (HpC (h.upd 0 t') :: Blk gv (.cells [.int .i64 7, .int .i64 0].toArray 27) :: Own 1 (.slice KA9 (dropK ks j).length kc9) (nums .i64 (dropK ks j)) :: Own 2 (.slice VA9 (dropK ks j).length vc9) (fV (dropV vs j)) :: []) := by
                    rw [hNL.out]
                    exact HM10.pull2.pull3.swap.perm (((List.Perm.swap _ _ _).cons _).cons _)
                  clear HM10 q1 q2 q3 q4 q5 q6 q7 q8 q9 q10 ej ejn
                  have hk2 : (dropK ks j).length ≤ 256 := by rw [hdk.out]; omega
                  as_aux_lemma =>
                    have hfa := fieldsAre_ok w1 _ _ ((h.upd 0 t')) hmT hok' (t') hth' ((dropK ks j)) ((dropV vs j)) hob2 hlen2 (by omega) (KA9) (kc9) (VA9) (vc9) ⟨m1⟩ ⟨m2⟩ x.I hw
                    try rw [hNL.out] at hfa
                    try rw [hlen.out] at hfa
                    replace hfa := Fact.mk hfa
                    go_wp2_with (refine wp_rng rfl 27 _ rfl gv 0 rfl (cV (7, 0)) (rng_blk hmT m1) row_V sz_V ?_)
                    refine hfa.out.mono ?_
                    clear hfa
                    rintro e wE ⟨rfl, hmE⟩
                    go_wp2_with fail
                    go_roundw
                    case rel => exact ⟨k + 1, (h.upd 0 t'), t', (dropK ks j), (dropV vs j), left, KA9, kc9, VA9, vc9, rfl, by first | rfl | rw [hNL.out], by first | rfl | rw [hNL.out], hnumk.out, hlek.out, rfl, hok'.out, hth'.out, hob2.out, hlen2.out, hk2, hleft.out, hl0, hl1, by first | exact hmE | (rw [hNL.out]; exact hmE)⟩
                    case measure => exact measN_lt hlt wrapk.out
                · have hnv : ∀ W, RdC W 2 (.slice (some ⟨vb, vo, none⟩) ks.length vc) (fV vs) → RdC W 2 (.slice (some ⟨vb, vo + (j + 1) * 2, none⟩) (ks.length - (j + 1)) (vc - (j + 1))) (fV (vs.drop (j + 1))) := fun W hW => by
                    have h1 := hW.behind (j + 1) (by omega)
                    rw [show (fV vs).drop ((j + 1) * 2) = fV (vs.drop (j + 1)) from (flatMap_drop cV 2 cV_len vs (j + 1)).symm] at h1
                    exact h1
                  clear hkr hvr
                  replace hnk : Fact (RdC w8 1 _ _) := Fact.mk hnk
                  replace hnv := Fact.mk hnv
                  have hNL : Fact ((dropK ks j).length = (j + (ks.length - (j + 1)))) := ⟨by rw [hdk.out]; first | omega | (have := hkn1.out; omega)⟩
                  have hKN : Fact (ks.length - (j + 1) = (ks.length - (j + 1))) := ⟨by first | rfl | (have := hkn1.out; omega)⟩
                  go_upto_region 25 with (fail)
                  go_still_tail 8, (by kernel_rfl)
                  have hmk := hm8.drew.pull2.recut j j (by omega) (Nat.le_refl _) (by omega)
                  rw [Nat.mul_one, show (nums .i64 ks).take j = nums .i64 (ks.take j) by simp [nums, List.map_take]] at hmk
                  have hkR := hnk.out.gr (Gr.refl w8).drew
                  try rw [hKN.out] at hkR
                  replace hkR := Fact.mk hkR
                  go_upto_region 26 with (at_builtin; refine wp_app rfl _ _ _ rfl 2 iI _ 1 8 ty_Is hiI yz0 yz1 yz2 rfl (some ⟨kb, ko, none⟩) j j _ rfl hmk _ (ks.length - (j + 1)) (kc - (j + 1)) (nums .i64 (ks.drop (j + 1))) rfl hkR.out (by unfold maxLen; omega) (by omega) ?_; intro KA9 kc9 w9 HM9)
                  rw [← nums_append, show ks.take j ++ ks.drop (j + 1) = dropK ks j from rfl] at HM9
                  try rw [Nat.add_zero] at HM9
                  clear hmk hkR hnk hm8
                  have hvR := hnv.out _ (HM9.drew.rd m3)
                  try rw [hKN.out] at hvR
                  replace hvR := Fact.mk hvR
                  have hmv := HM9.drew.pull3.recut j j (by omega) (Nat.le_refl _) (by omega)
                  rw [show (fV vs).take (j * 2) = fV (vs.take j) from (flatMap_take cV 2 cV_len vs j).symm] at hmv
                  clear hnv HM9
                  go_still_tail 8, (by kernel_rfl)
                  go_upto_region 38 with (at_builtin; refine wp_app rfl _ _ _ rfl 27 iV _ 2 16 ty_Vs hiV hz0 hz1 hz2 rfl (some ⟨vb, vo, none⟩) j j _ rfl hmv _ (ks.length - (j + 1)) (vc - (j + 1)) (fV (vs.drop (j + 1))) rfl hvR.out (by unfold maxLen; omega) (by omega) ?_; intro VA9 vc9 w10 HM10)
                  rw [← fV_app, show vs.take j ++ vs.drop (j + 1) = dropV vs j from rfl] at HM10
                  try rw [Nat.add_zero] at HM10
                  clear hmv hvR
                  have hmT : Mem w1 w10 (HpC (h.upd 0 t') :: Blk gv (.cells [.int .i64 7, .int .i64 0].toArray 27) :: Own 1 (.slice KA9 (dropK ks j).length kc9) (nums .i64 (dropK ks j)) :: Own 2 (.slice VA9 (dropK ks j).length vc9) (fV (dropV vs j)) :: []) := by
                    rw [hNL.out]
                    exact HM10.pull2.pull3.swap.perm (((List.Perm.swap _ _ _).cons _).cons _)
                  clear HM10 q1 q2 q3 q4 q5 q6 q7 q8 q9 q10 ej ejn
                  have hk2 : (dropK ks j).length ≤ 256 := by rw [hdk.out]; omega
                  as_aux_lemma =>
                    have hfa := fieldsAre_ok w1 _ _ ((h.upd 0 t')) hmT hok' (t') hth' ((dropK ks j)) ((dropV vs j)) hob2 hlen2 (by omega) (KA9) (kc9) (VA9) (vc9) ⟨m1⟩ ⟨m2⟩ x.I hw
                    try rw [hNL.out] at hfa
                    try rw [hlen.out] at hfa
                    replace hfa := Fact.mk hfa
                    go_wp2_with (refine wp_rng rfl 27 _ rfl gv 0 rfl (cV (7, 0)) (rng_blk hmT m1) row_V sz_V ?_)
                    refine hfa.out.mono ?_
                    clear hfa
                    rintro e wE ⟨rfl, hmE⟩
                    go_wp2_with fail
                    go_roundw
                    case rel => exact ⟨k + 1, (h.upd 0 t'), t', (dropK ks j), (dropV vs j), left, KA9, kc9, VA9, vc9, rfl, by first | rfl | rw [hNL.out], by first | rfl | rw [hNL.out], hnumk.out, hlek.out, rfl, hok'.out, hth'.out, hob2.out, hlen2.out, hk2, hleft.out, hl0, hl1, by first | exact hmE | (rw [hNL.out]; exact hmE)⟩
                    case measure => exact measN_lt hlt wrapk.out
          · have h0' : (pk == 0) = false := by simpa using h0
            replace h0 := Fact.mk h0
            cases hj : ks.idxOf? x.I with
            | none =>
              replace hj := Fact.mk hj
              have hjn : Fact (t.ob.keys.idxOf? x.I = none) := ⟨by rw [hkeys.out]; exact hj.out⟩
              rw [show atI none = -1 from rfl]
              by_cases hfull : 256 ≤ ks.length
              · have hf0 : decide ((ks.length : Int) ≥ 256) = true := decide_eq_true (by omega)
                have hfk : 256 ≤ t.ob.keys.length := by rw [hkeys.out]; exact hfull
                as_aux_lemma =>
                  have hm9 := hmr.drew
                  have hS : w7.drew.cell? ⟨gv, 0, none⟩ = some (.int .i64 7) ∧ w7.drew.cell? ⟨gv, 1, none⟩ = some (.int .i64 0) ∧ w7.drew.cell? ⟨b, o + k * 9 + 4, none⟩ = some (.int .i64 x.x.1) ∧ w7.drew.cell? ⟨b, o + k * 9 + 5, none⟩ = some (.int .i64 x.x.2) := ⟨hm9.cell m1 0 rfl, hm9.cell m1 1 rfl, Gr.cell hm9.below (hc.out 4 _ rfl), Gr.cell hm9.below (hc.out 5 _ rfl)⟩
                  go_upto_region 27 with (fail)
                  refine wp_region_until (S := fun W => W.cell? ⟨gv, 0, none⟩ = some (.int .i64 7) ∧ W.cell? ⟨gv, 1, none⟩ = some (.int .i64 0) ∧ W.cell? ⟨b, o + k * 9 + 4, none⟩ = some (.int .i64 x.x.1) ∧ W.cell? ⟨b, o + k * 9 + 5, none⟩ = some (.int .i64 x.x.2)) 13 (by kernel_rfl) ?_
                  generalize w7.drew = w9 at hm9 hS ⊢
                  clear hmr
                  refine wpAnyU_take 0 (v := ?vsa0) rfl (by kernel_rfl) (by kernel_rfl) (fun _ _ _ h => h) hS (Or.inl ⟨rfl, ?ysa0⟩) ?rsa0
                  case ysa0 =>
                    intro W hW
                    obtain ⟨hW0, hW1, hW2, hW3⟩ := hW
                    go_simp
                    try with_reducible rfl
                  try simp only [Act.put, List.getElem_toArray, List.getElem_cons_succ, List.getElem_cons_zero, List.setIfInBounds_toArray, List.set_cons_zero, List.set_cons_succ]
                  refine wpAnyU_take 1 (v := ?vsa1) rfl (by kernel_rfl) (by kernel_rfl) (fun _ _ _ h => h) hS (Or.inl ⟨rfl, ?ysa1⟩) ?rsa1
                  case ysa1 =>
                    intro W hW
                    obtain ⟨hW0, hW1, hW2, hW3⟩ := hW
                    go_simp
                    try with_reducible rfl
                  try simp only [Act.put, List.getElem_toArray, List.getElem_cons_succ, List.getElem_cons_zero, List.setIfInBounds_toArray, List.set_cons_zero, List.set_cons_succ]
                  refine wpAnyU_take 2 (v := ?vsa2) rfl (by kernel_rfl) (by kernel_rfl) (fun _ _ _ h => h) hS (Or.inl ⟨rfl, ?ysa2⟩) ?rsa2
                  case ysa2 =>
                    intro W hW
                    obtain ⟨hW0, hW1, hW2, hW3⟩ := hW
                    go_simp
                    try with_reducible rfl
                  try simp only [Act.put, List.getElem_toArray, List.getElem_cons_succ, List.getElem_cons_zero, List.setIfInBounds_toArray, List.set_cons_zero, List.set_cons_succ]
                  refine wpAnyU_take 3 (v := ?vsa3) rfl (by kernel_rfl) (by kernel_rfl) (fun _ _ _ h => h) hS (Or.inl ⟨rfl, ?ysa3⟩) ?rsa3
                  case ysa3 =>
                    intro W hW
                    obtain ⟨hW0, hW1, hW2, hW3⟩ := hW
                    go_simp
                    try with_reducible rfl
                  try simp only [Act.put, List.getElem_toArray, List.getElem_cons_succ, List.getElem_cons_zero, List.setIfInBounds_toArray, List.set_cons_zero, List.set_cons_succ]
                  refine wpAnyU_take 4 (v := ?vsa4) rfl (by kernel_rfl) (by kernel_rfl) (fun _ _ _ h => h) hS (Or.inl ⟨rfl, ?ysa4⟩) ?rsa4
                  case ysa4 =>
                    intro W hW
                    obtain ⟨hW0, hW1, hW2, hW3⟩ := hW
                    go_simp
                    try with_reducible rfl
                  try simp only [Act.put, List.getElem_toArray, List.getElem_cons_succ, List.getElem_cons_zero, List.setIfInBounds_toArray, List.set_cons_zero, List.set_cons_succ]
                  refine wpAnyU_take 5 (v := ?vsa5) rfl (by kernel_rfl) (by kernel_rfl) (fun _ _ _ h => h) hS (Or.inl ⟨rfl, ?ysa5⟩) ?rsa5
                  case ysa5 =>
                    intro W hW
                    obtain ⟨hW0, hW1, hW2, hW3⟩ := hW
                    go_simp
                    try with_reducible rfl
                  try simp only [Act.put, List.getElem_toArray, List.getElem_cons_succ, List.getElem_cons_zero, List.setIfInBounds_toArray, List.set_cons_zero, List.set_cons_succ]
                  refine wpAnyU_take 6 (v := ?vsa6) rfl (by kernel_rfl) (by kernel_rfl) (fun _ _ _ h => h) hS (Or.inl ⟨rfl, ?ysa6⟩) ?rsa6
                  case ysa6 =>
                    intro W hW
                    obtain ⟨hW0, hW1, hW2, hW3⟩ := hW
                    go_simp
                    try with_reducible rfl
                  try simp only [Act.put, List.getElem_toArray, List.getElem_cons_succ, List.getElem_cons_zero, List.setIfInBounds_toArray, List.set_cons_zero, List.set_cons_succ]
                  refine wpAnyU_take 7 (v := ?vsa7) rfl (by kernel_rfl) (by kernel_rfl) (fun _ _ _ h => h) hS (Or.inl ⟨rfl, ?ysa7⟩) ?rsa7
                  case ysa7 =>
                    intro W hW
                    obtain ⟨hW0, hW1, hW2, hW3⟩ := hW
                    go_simp
                    try with_reducible rfl
                  try simp only [Act.put, List.getElem_toArray, List.getElem_cons_succ, List.getElem_cons_zero, List.setIfInBounds_toArray, List.set_cons_zero, List.set_cons_succ]
                  refine wpAnyU_one 8 (by kernel_rfl) rfl (fun K hK => ?_)
                  refine step_call rfl 24 Try.f24 Try.func24 (by kernel_rfl) (by kernel_rfl) _ _ rfl #[.pointer (some ⟨h.g, 0, none⟩), .agg #[.int .i64 7, .int .i64 0], .int .i64 x.I, .agg #[.int .i64 x.x.1, .int .i64 x.x.2]] (by simp [Act.eval]) ?_
                  refine (setFull_ok w1 w9 _ h hm9 hok 7 0 x.I hw x.x.1 x.x.2 0 hnm.out t hgt hk7 hjn hfk).mono ?_
                  rintro e w10 ⟨rfl, hmA⟩
                  refine ⟨_, rfl, ?_⟩
                  have hT : w10.cell? ⟨gv, 0, none⟩ = some (.int .i64 7) ∧ w10.cell? ⟨gv, 1, none⟩ = some (.int .i64 0) ∧ w10.cell? ⟨b, o + k * 9 + 4, none⟩ = some (.int .i64 x.x.1) ∧ w10.cell? ⟨b, o + k * 9 + 5, none⟩ = some (.int .i64 x.x.2) := ⟨hmA.cell m1 0 rfl, hmA.cell m1 1 rfl, Gr.cell hmA.below (hc.out 4 _ rfl), Gr.cell hmA.below (hc.out 5 _ rfl)⟩
                  refine hK _ _ (fun _ => hT) ?_
                  clear hK K hS hm9
                  try simp only [Act.put, List.getElem_toArray, List.getElem_cons_succ, List.getElem_cons_zero, List.setIfInBounds_toArray, List.set_cons_zero, List.set_cons_succ]
                  refine wpAnyU_take 9 (v := ?vsb9) rfl (by kernel_rfl) (by kernel_rfl) (fun _ _ _ h => h) hT (Or.inl ⟨rfl, ?ysb9⟩) ?rsb9
                  case ysb9 =>
                    intro W hW
                    obtain ⟨hW0, hW1, hW2, hW3⟩ := hW
                    go_simp
                    try with_reducible rfl
                  try simp only [Act.put, List.getElem_toArray, List.getElem_cons_succ, List.getElem_cons_zero, List.setIfInBounds_toArray, List.set_cons_zero, List.set_cons_succ]
                  refine wpAnyU_take 10 (v := ?vsb10) rfl (by kernel_rfl) (by kernel_rfl) (fun _ _ _ h => h) hT (Or.inl ⟨rfl, ?ysb10⟩) ?rsb10
                  case ysb10 =>
                    intro W hW
                    obtain ⟨hW0, hW1, hW2, hW3⟩ := hW
                    go_simp
                    try with_reducible rfl
                  try simp only [Act.put, List.getElem_toArray, List.getElem_cons_succ, List.getElem_cons_zero, List.setIfInBounds_toArray, List.set_cons_zero, List.set_cons_succ]
                  refine wpAnyU_take 11 (v := ?vsb11) rfl (by kernel_rfl) (by kernel_rfl) (fun _ _ _ h => h) hT (Or.inl ⟨rfl, ?ysb11⟩) ?rsb11
                  case ysb11 =>
                    intro W hW
                    obtain ⟨hW0, hW1, hW2, hW3⟩ := hW
                    go_simp
                    try with_reducible rfl
                  try simp only [Act.put, List.getElem_toArray, List.getElem_cons_succ, List.getElem_cons_zero, List.setIfInBounds_toArray, List.set_cons_zero, List.set_cons_succ]
                  refine wpAnyU_one 12 (by kernel_rfl) rfl (fun K hK => ?_)
                  go_simp
                  refine hK _ _ (fun _ => hT) ?_
                  clear hK K
                  try simp only [Act.put, List.getElem_toArray, List.getElem_cons_succ, List.getElem_cons_zero, List.setIfInBounds_toArray, List.set_cons_zero, List.set_cons_succ]
                  refine wpAnyU_one 13 (by kernel_rfl) rfl (fun K hK => ?_)
                  go_simp
                  refine hK _ _ (fun h => absurd h (by decide)) ?_
                  clear hK K
                  try simp only [Act.put, List.getElem_toArray, List.getElem_cons_succ, List.getElem_cons_zero, List.setIfInBounds_toArray, List.set_cons_zero, List.set_cons_succ]
                  refine wpAnyU_done (by kernel_rfl) ?_ _
                  have hfa := fieldsAre_ok w1 _ _ (h) hmA hok (t) hth (ks) (vs) hob hlen (by omega) (KA) (kc) (VA) (vc) ⟨m1⟩ ⟨m2⟩ x.I hw
                  try rw [hlen.out] at hfa
                  try rw [hlen.out] at hfa
                  replace hfa := Fact.mk hfa
                  go_wp2_with (refine wp_rng rfl 27 _ rfl gv 0 rfl (cV (7, 0)) (rng_blk hmA m1) row_V sz_V ?_)
                  refine hfa.out.mono ?_
                  clear hfa
                  rintro e wE ⟨rfl, hmE⟩
                  go_wp2_with fail
                  go_roundw
                  case rel => exact ⟨k + 1, h, t, ks, vs, left, KA, kc, VA, vc, rfl, by first | rfl | rw [hlen.out], by first | rfl | rw [hlen.out], hnumk.out, hlek.out, rfl, hok.out, hth.out, hob.out, hlen.out, hk256, hleft.out, hl0, hl1, by first | exact hmE | (rw [hlen.out]; exact hmE)⟩
                  case measure => exact measN_lt hlt wrapk.out
              · have hf0 : decide ((ks.length : Int) ≥ 256) = false := decide_eq_false (by omega)
                have hfk : t.ob.keys.length < 256 := by rw [hkeys.out]; omega
                by_cases hpoor : left < 2
                · have hl2 : decide (left < 2) = true := decide_eq_true hpoor
                  have hrm : Fact (h.room 2 = false) := ⟨by unfold Hp.room; rw [← hleft.out]; simp; omega⟩
                  as_aux_lemma =>
                    have hm9 := hmr.drew
                    have hS : w7.drew.cell? ⟨gv, 0, none⟩ = some (.int .i64 7) ∧ w7.drew.cell? ⟨gv, 1, none⟩ = some (.int .i64 0) ∧ w7.drew.cell? ⟨b, o + k * 9 + 4, none⟩ = some (.int .i64 x.x.1) ∧ w7.drew.cell? ⟨b, o + k * 9 + 5, none⟩ = some (.int .i64 x.x.2) := ⟨hm9.cell m1 0 rfl, hm9.cell m1 1 rfl, Gr.cell hm9.below (hc.out 4 _ rfl), Gr.cell hm9.below (hc.out 5 _ rfl)⟩
                    go_upto_region 27 with (fail)
                    refine wp_region_until (S := fun W => W.cell? ⟨gv, 0, none⟩ = some (.int .i64 7) ∧ W.cell? ⟨gv, 1, none⟩ = some (.int .i64 0) ∧ W.cell? ⟨b, o + k * 9 + 4, none⟩ = some (.int .i64 x.x.1) ∧ W.cell? ⟨b, o + k * 9 + 5, none⟩ = some (.int .i64 x.x.2)) 13 (by kernel_rfl) ?_
                    generalize w7.drew = w9 at hm9 hS ⊢
                    clear hmr
                    refine wpAnyU_take 0 (v := ?vsc0) rfl (by kernel_rfl) (by kernel_rfl) (fun _ _ _ h => h) hS (Or.inl ⟨rfl, ?ysc0⟩) ?rsc0
                    case ysc0 =>
                      intro W hW
                      obtain ⟨hW0, hW1, hW2, hW3⟩ := hW
                      go_simp
                      try with_reducible rfl
                    try simp only [Act.put, List.getElem_toArray, List.getElem_cons_succ, List.getElem_cons_zero, List.setIfInBounds_toArray, List.set_cons_zero, List.set_cons_succ]
                    refine wpAnyU_take 1 (v := ?vsc1) rfl (by kernel_rfl) (by kernel_rfl) (fun _ _ _ h => h) hS (Or.inl ⟨rfl, ?ysc1⟩) ?rsc1
                    case ysc1 =>
                      intro W hW
                      obtain ⟨hW0, hW1, hW2, hW3⟩ := hW
                      go_simp
                      try with_reducible rfl
                    try simp only [Act.put, List.getElem_toArray, List.getElem_cons_succ, List.getElem_cons_zero, List.setIfInBounds_toArray, List.set_cons_zero, List.set_cons_succ]
                    refine wpAnyU_take 2 (v := ?vsc2) rfl (by kernel_rfl) (by kernel_rfl) (fun _ _ _ h => h) hS (Or.inl ⟨rfl, ?ysc2⟩) ?rsc2
                    case ysc2 =>
                      intro W hW
                      obtain ⟨hW0, hW1, hW2, hW3⟩ := hW
                      go_simp
                      try with_reducible rfl
                    try simp only [Act.put, List.getElem_toArray, List.getElem_cons_succ, List.getElem_cons_zero, List.setIfInBounds_toArray, List.set_cons_zero, List.set_cons_succ]
                    refine wpAnyU_take 3 (v := ?vsc3) rfl (by kernel_rfl) (by kernel_rfl) (fun _ _ _ h => h) hS (Or.inl ⟨rfl, ?ysc3⟩) ?rsc3
                    case ysc3 =>
                      intro W hW
                      obtain ⟨hW0, hW1, hW2, hW3⟩ := hW
                      go_simp
                      try with_reducible rfl
                    try simp only [Act.put, List.getElem_toArray, List.getElem_cons_succ, List.getElem_cons_zero, List.setIfInBounds_toArray, List.set_cons_zero, List.set_cons_succ]
                    refine wpAnyU_take 4 (v := ?vsc4) rfl (by kernel_rfl) (by kernel_rfl) (fun _ _ _ h => h) hS (Or.inl ⟨rfl, ?ysc4⟩) ?rsc4
                    case ysc4 =>
                      intro W hW
                      obtain ⟨hW0, hW1, hW2, hW3⟩ := hW
                      go_simp
                      try with_reducible rfl
                    try simp only [Act.put, List.getElem_toArray, List.getElem_cons_succ, List.getElem_cons_zero, List.setIfInBounds_toArray, List.set_cons_zero, List.set_cons_succ]
                    refine wpAnyU_take 5 (v := ?vsc5) rfl (by kernel_rfl) (by kernel_rfl) (fun _ _ _ h => h) hS (Or.inl ⟨rfl, ?ysc5⟩) ?rsc5
                    case ysc5 =>
                      intro W hW
                      obtain ⟨hW0, hW1, hW2, hW3⟩ := hW
                      go_simp
                      try with_reducible rfl
                    try simp only [Act.put, List.getElem_toArray, List.getElem_cons_succ, List.getElem_cons_zero, List.setIfInBounds_toArray, List.set_cons_zero, List.set_cons_succ]
                    refine wpAnyU_take 6 (v := ?vsc6) rfl (by kernel_rfl) (by kernel_rfl) (fun _ _ _ h => h) hS (Or.inl ⟨rfl, ?ysc6⟩) ?rsc6
                    case ysc6 =>
                      intro W hW
                      obtain ⟨hW0, hW1, hW2, hW3⟩ := hW
                      go_simp
                      try with_reducible rfl
                    try simp only [Act.put, List.getElem_toArray, List.getElem_cons_succ, List.getElem_cons_zero, List.setIfInBounds_toArray, List.set_cons_zero, List.set_cons_succ]
                    refine wpAnyU_take 7 (v := ?vsc7) rfl (by kernel_rfl) (by kernel_rfl) (fun _ _ _ h => h) hS (Or.inl ⟨rfl, ?ysc7⟩) ?rsc7
                    case ysc7 =>
                      intro W hW
                      obtain ⟨hW0, hW1, hW2, hW3⟩ := hW
                      go_simp
                      try with_reducible rfl
                    try simp only [Act.put, List.getElem_toArray, List.getElem_cons_succ, List.getElem_cons_zero, List.setIfInBounds_toArray, List.set_cons_zero, List.set_cons_succ]
                    refine wpAnyU_one 8 (by kernel_rfl) rfl (fun K hK => ?_)
                    refine step_call rfl 24 Try.f24 Try.func24 (by kernel_rfl) (by kernel_rfl) _ _ rfl #[.pointer (some ⟨h.g, 0, none⟩), .agg #[.int .i64 7, .int .i64 0], .int .i64 x.I, .agg #[.int .i64 x.x.1, .int .i64 x.x.2]] (by simp [Act.eval]) ?_
                    refine (setPoor_ok w1 w9 _ h hm9 hok 7 0 x.I hw x.x.1 x.x.2 0 hnm.out t hgt hk7 hjn hfk hrm).mono ?_
                    rintro e w10 ⟨rfl, hmA⟩
                    refine ⟨_, rfl, ?_⟩
                    have hT : w10.cell? ⟨gv, 0, none⟩ = some (.int .i64 7) ∧ w10.cell? ⟨gv, 1, none⟩ = some (.int .i64 0) ∧ w10.cell? ⟨b, o + k * 9 + 4, none⟩ = some (.int .i64 x.x.1) ∧ w10.cell? ⟨b, o + k * 9 + 5, none⟩ = some (.int .i64 x.x.2) := ⟨hmA.cell m1 0 rfl, hmA.cell m1 1 rfl, Gr.cell hmA.below (hc.out 4 _ rfl), Gr.cell hmA.below (hc.out 5 _ rfl)⟩
                    refine hK _ _ (fun _ => hT) ?_
                    clear hK K hS hm9
                    try simp only [Act.put, List.getElem_toArray, List.getElem_cons_succ, List.getElem_cons_zero, List.setIfInBounds_toArray, List.set_cons_zero, List.set_cons_succ]
                    refine wpAnyU_take 9 (v := ?vsd9) rfl (by kernel_rfl) (by kernel_rfl) (fun _ _ _ h => h) hT (Or.inl ⟨rfl, ?ysd9⟩) ?rsd9
                    case ysd9 =>
                      intro W hW
                      obtain ⟨hW0, hW1, hW2, hW3⟩ := hW
                      go_simp
                      try with_reducible rfl
                    try simp only [Act.put, List.getElem_toArray, List.getElem_cons_succ, List.getElem_cons_zero, List.setIfInBounds_toArray, List.set_cons_zero, List.set_cons_succ]
                    refine wpAnyU_take 10 (v := ?vsd10) rfl (by kernel_rfl) (by kernel_rfl) (fun _ _ _ h => h) hT (Or.inl ⟨rfl, ?ysd10⟩) ?rsd10
                    case ysd10 =>
                      intro W hW
                      obtain ⟨hW0, hW1, hW2, hW3⟩ := hW
                      go_simp
                      try with_reducible rfl
                    try simp only [Act.put, List.getElem_toArray, List.getElem_cons_succ, List.getElem_cons_zero, List.setIfInBounds_toArray, List.set_cons_zero, List.set_cons_succ]
                    refine wpAnyU_take 11 (v := ?vsd11) rfl (by kernel_rfl) (by kernel_rfl) (fun _ _ _ h => h) hT (Or.inl ⟨rfl, ?ysd11⟩) ?rsd11
                    case ysd11 =>
                      intro W hW
                      obtain ⟨hW0, hW1, hW2, hW3⟩ := hW
                      go_simp
                      try with_reducible rfl
                    try simp only [Act.put, List.getElem_toArray, List.getElem_cons_succ, List.getElem_cons_zero, List.setIfInBounds_toArray, List.set_cons_zero, List.set_cons_succ]
                    refine wpAnyU_one 12 (by kernel_rfl) rfl (fun K hK => ?_)
                    go_simp
                    refine hK _ _ (fun _ => hT) ?_
                    clear hK K
                    try simp only [Act.put, List.getElem_toArray, List.getElem_cons_succ, List.getElem_cons_zero, List.setIfInBounds_toArray, List.set_cons_zero, List.set_cons_succ]
                    refine wpAnyU_one 13 (by kernel_rfl) rfl (fun K hK => ?_)
                    go_simp
                    refine hK _ _ (fun h => absurd h (by decide)) ?_
                    clear hK K
                    try simp only [Act.put, List.getElem_toArray, List.getElem_cons_succ, List.getElem_cons_zero, List.setIfInBounds_toArray, List.set_cons_zero, List.set_cons_succ]
                    refine wpAnyU_done (by kernel_rfl) ?_ _
                    have hfa := fieldsAre_ok w1 _ _ (h) hmA hok (t) hth (ks) (vs) hob hlen (by omega) (KA) (kc) (VA) (vc) ⟨m1⟩ ⟨m2⟩ x.I hw
                    try rw [hlen.out] at hfa
                    try rw [hlen.out] at hfa
                    replace hfa := Fact.mk hfa
                    go_wp2_with (refine wp_rng rfl 27 _ rfl gv 0 rfl (cV (7, 0)) (rng_blk hmA m1) row_V sz_V ?_)
                    refine hfa.out.mono ?_
                    clear hfa
                    rintro e wE ⟨rfl, hmE⟩
                    go_wp2_with fail
                    go_roundw
                    case rel => exact ⟨k + 1, h, t, ks, vs, left, KA, kc, VA, vc, rfl, by first | rfl | rw [hlen.out], by first | rfl | rw [hlen.out], hnumk.out, hlek.out, rfl, hok.out, hth.out, hob.out, hlen.out, hk256, hleft.out, hl0, hl1, by first | exact hmE | (rw [hlen.out]; exact hmE)⟩
                    case measure => exact measN_lt hlt wrapk.out
                · have hl2 : decide (left < 2) = false := decide_eq_false hpoor
                  have hrm : Fact (h.room 2 = true) := ⟨by unfold Hp.room; rw [← hleft.out]; simp; omega⟩
                  as_aux_lemma =>
                    have hm9 := hmr.drew
                    have hS : w7.drew.cell? ⟨gv, 0, none⟩ = some (.int .i64 7) ∧ w7.drew.cell? ⟨gv, 1, none⟩ = some (.int .i64 0) ∧ w7.drew.cell? ⟨b, o + k * 9 + 4, none⟩ = some (.int .i64 x.x.1) ∧ w7.drew.cell? ⟨b, o + k * 9 + 5, none⟩ = some (.int .i64 x.x.2) := ⟨hm9.cell m1 0 rfl, hm9.cell m1 1 rfl, Gr.cell hm9.below (hc.out 4 _ rfl), Gr.cell hm9.below (hc.out 5 _ rfl)⟩
                    go_upto_region 27 with (fail)
                    refine wp_region_until (S := fun W => W.cell? ⟨gv, 0, none⟩ = some (.int .i64 7) ∧ W.cell? ⟨gv, 1, none⟩ = some (.int .i64 0) ∧ W.cell? ⟨b, o + k * 9 + 4, none⟩ = some (.int .i64 x.x.1) ∧ W.cell? ⟨b, o + k * 9 + 5, none⟩ = some (.int .i64 x.x.2)) 13 (by kernel_rfl) ?_
                    generalize w7.drew = w9 at hm9 hS ⊢
                    clear hmr
                    refine wpAnyU_take 0 (v := ?vse0) rfl (by kernel_rfl) (by kernel_rfl) (fun _ _ _ h => h) hS (Or.inl ⟨rfl, ?yse0⟩) ?rse0
                    case yse0 =>
                      intro W hW
                      obtain ⟨hW0, hW1, hW2, hW3⟩ := hW
                      go_simp
                      try with_reducible rfl
                    try simp only [Act.put, List.getElem_toArray, List.getElem_cons_succ, List.getElem_cons_zero, List.setIfInBounds_toArray, List.set_cons_zero, List.set_cons_succ]
                    refine wpAnyU_take 1 (v := ?vse1) rfl (by kernel_rfl) (by kernel_rfl) (fun _ _ _ h => h) hS (Or.inl ⟨rfl, ?yse1⟩) ?rse1
                    case yse1 =>
                      intro W hW
                      obtain ⟨hW0, hW1, hW2, hW3⟩ := hW
                      go_simp
                      try with_reducible rfl
                    try simp only [Act.put, List.getElem_toArray, List.getElem_cons_succ, List.getElem_cons_zero, List.setIfInBounds_toArray, List.set_cons_zero, List.set_cons_succ]
                    refine wpAnyU_take 2 (v := ?vse2) rfl (by kernel_rfl) (by kernel_rfl) (fun _ _ _ h => h) hS (Or.inl ⟨rfl, ?yse2⟩) ?rse2
                    case yse2 =>
                      intro W hW
                      obtain ⟨hW0, hW1, hW2, hW3⟩ := hW
                      go_simp
                      try with_reducible rfl
                    try simp only [Act.put, List.getElem_toArray, List.getElem_cons_succ, List.getElem_cons_zero, List.setIfInBounds_toArray, List.set_cons_zero, List.set_cons_succ]
                    refine wpAnyU_take 3 (v := ?vse3) rfl (by kernel_rfl) (by kernel_rfl) (fun _ _ _ h => h) hS (Or.inl ⟨rfl, ?yse3⟩) ?rse3
                    case yse3 =>
                      intro W hW
                      obtain ⟨hW0, hW1, hW2, hW3⟩ := hW
                      go_simp
                      try with_reducible rfl
                    try simp only [Act.put, List.getElem_toArray, List.getElem_cons_succ, List.getElem_cons_zero, List.setIfInBounds_toArray, List.set_cons_zero, List.set_cons_succ]
                    refine wpAnyU_take 4 (v := ?vse4) rfl (by kernel_rfl) (by kernel_rfl) (fun _ _ _ h => h) hS (Or.inl ⟨rfl, ?yse4⟩) ?rse4
                    case yse4 =>
                      intro W hW
                      obtain ⟨hW0, hW1, hW2, hW3⟩ := hW
                      go_simp
                      try with_reducible rfl
                    try simp only [Act.put, List.getElem_toArray, List.getElem_cons_succ, List.getElem_cons_zero, List.setIfInBounds_toArray, List.set_cons_zero, List.set_cons_succ]
                    refine wpAnyU_take 5 (v := ?vse5) rfl (by kernel_rfl) (by kernel_rfl) (fun _ _ _ h => h) hS (Or.inl ⟨rfl, ?yse5⟩) ?rse5
                    case yse5 =>
                      intro W hW
                      obtain ⟨hW0, hW1, hW2, hW3⟩ := hW
                      go_simp
                      try with_reducible rfl
                    try simp only [Act.put, List.getElem_toArray, List.getElem_cons_succ, List.getElem_cons_zero, List.setIfInBounds_toArray, List.set_cons_zero, List.set_cons_succ]
                    refine wpAnyU_take 6 (v := ?vse6) rfl (by kernel_rfl) (by kernel_rfl) (fun _ _ _ h => h) hS (Or.inl ⟨rfl, ?yse6⟩) ?rse6
                    case yse6 =>
                      intro W hW
                      obtain ⟨hW0, hW1, hW2, hW3⟩ := hW
                      go_simp
                      try with_reducible rfl
                    try simp only [Act.put, List.getElem_toArray, List.getElem_cons_succ, List.getElem_cons_zero, List.setIfInBounds_toArray, List.set_cons_zero, List.set_cons_succ]
                    refine wpAnyU_take 7 (v := ?vse7) rfl (by kernel_rfl) (by kernel_rfl) (fun _ _ _ h => h) hS (Or.inl ⟨rfl, ?yse7⟩) ?rse7
                    case yse7 =>
                      intro W hW
                      obtain ⟨hW0, hW1, hW2, hW3⟩ := hW
                      go_simp
                      try with_reducible rfl
                    try simp only [Act.put, List.getElem_toArray, List.getElem_cons_succ, List.getElem_cons_zero, List.setIfInBounds_toArray, List.set_cons_zero, List.set_cons_succ]
                    refine wpAnyU_one 8 (by kernel_rfl) rfl (fun K hK => ?_)
                    refine step_call rfl 24 Try.f24 Try.func24 (by kernel_rfl) (by kernel_rfl) _ _ rfl #[.pointer (some ⟨h.g, 0, none⟩), .agg #[.int .i64 7, .int .i64 0], .int .i64 x.I, .agg #[.int .i64 x.x.1, .int .i64 x.x.2]] (by simp [Act.eval]) ?_
                    refine (setNew_ok w1 w9 _ h hm9 hok 7 0 x.I hw x.x.1 x.x.2 0 hnm.out t hgt hk7 hjn hfk hrm).mono ?_
                    rintro e w10 ⟨rfl, t', hob', htk', hmA⟩
                    refine ⟨_, rfl, ?_⟩
                    have hT : w10.cell? ⟨gv, 0, none⟩ = some (.int .i64 7) ∧ w10.cell? ⟨gv, 1, none⟩ = some (.int .i64 0) ∧ w10.cell? ⟨b, o + k * 9 + 4, none⟩ = some (.int .i64 x.x.1) ∧ w10.cell? ⟨b, o + k * 9 + 5, none⟩ = some (.int .i64 x.x.2) := ⟨hmA.cell m1 0 rfl, hmA.cell m1 1 rfl, Gr.cell hmA.below (hc.out 4 _ rfl), Gr.cell hmA.below (hc.out 5 _ rfl)⟩
                    refine hK _ _ (fun _ => hT) ?_
                    clear hK K hS hm9
                    try simp only [Act.put, List.getElem_toArray, List.getElem_cons_succ, List.getElem_cons_zero, List.setIfInBounds_toArray, List.set_cons_zero, List.set_cons_succ]
                    refine wpAnyU_take 9 (v := ?vsf9) rfl (by kernel_rfl) (by kernel_rfl) (fun _ _ _ h => h) hT (Or.inl ⟨rfl, ?ysf9⟩) ?rsf9
                    case ysf9 =>
                      intro W hW
                      obtain ⟨hW0, hW1, hW2, hW3⟩ := hW
                      go_simp
                      try with_reducible rfl
                    try simp only [Act.put, List.getElem_toArray, List.getElem_cons_succ, List.getElem_cons_zero, List.setIfInBounds_toArray, List.set_cons_zero, List.set_cons_succ]
                    refine wpAnyU_take 10 (v := ?vsf10) rfl (by kernel_rfl) (by kernel_rfl) (fun _ _ _ h => h) hT (Or.inl ⟨rfl, ?ysf10⟩) ?rsf10
                    case ysf10 =>
                      intro W hW
                      obtain ⟨hW0, hW1, hW2, hW3⟩ := hW
                      go_simp
                      try with_reducible rfl
                    try simp only [Act.put, List.getElem_toArray, List.getElem_cons_succ, List.getElem_cons_zero, List.setIfInBounds_toArray, List.set_cons_zero, List.set_cons_succ]
                    refine wpAnyU_take 11 (v := ?vsf11) rfl (by kernel_rfl) (by kernel_rfl) (fun _ _ _ h => h) hT (Or.inl ⟨rfl, ?ysf11⟩) ?rsf11
                    case ysf11 =>
                      intro W hW
                      obtain ⟨hW0, hW1, hW2, hW3⟩ := hW
                      go_simp
                      try with_reducible rfl
                    try simp only [Act.put, List.getElem_toArray, List.getElem_cons_succ, List.getElem_cons_zero, List.setIfInBounds_toArray, List.set_cons_zero, List.set_cons_succ]
                    refine wpAnyU_one 12 (by kernel_rfl) rfl (fun K hK => ?_)
                    go_simp
                    refine hK _ _ (fun _ => hT) ?_
                    clear hK K
                    try simp only [Act.put, List.getElem_toArray, List.getElem_cons_succ, List.getElem_cons_zero, List.setIfInBounds_toArray, List.set_cons_zero, List.set_cons_succ]
                    refine wpAnyU_one 13 (by kernel_rfl) rfl (fun K hK => ?_)
                    go_simp
                    refine hK _ _ (fun h => absurd h (by decide)) ?_
                    clear hK K
                    try simp only [Act.put, List.getElem_toArray, List.getElem_cons_succ, List.getElem_cons_zero, List.setIfInBounds_toArray, List.set_cons_zero, List.set_cons_succ]
                    refine wpAnyU_done (by kernel_rfl) ?_ _
                    have hspe : h.spend 2 = { h with spent := h.spent + 2 } := by unfold Hp.spend; rw [hrm.out]; rfl
                    obtain ⟨h', hh'⟩ : ∃ h', h' = (h.spend 2).upd 0 t' := ⟨_, rfl⟩
                    have hth' : Fact (h'.ths = [t']) := ⟨by rw [hh', hspe]; simp [Hp.upd, hth.out]⟩
                    have hok' : Fact h'.Ok := ⟨by rw [hh']; exact upd_ok (Hp.spend_ok hok.out 2) 0 t' htk'⟩
                    have hgq : Fact (h'.g = h.g) := ⟨by rw [hh', hspe]; rfl⟩
                    have hbq : Fact (left - 2 = h'.budget - h'.spent) := ⟨by rw [hh', hspe]; show left - 2 = h.budget - (h.spent + 2); have := hleft.out; omega⟩
                    have hob2 : Fact (t'.ob = ⟨7, vs ++ [x.x], ks ++ [x.I], 0, 0, false⟩) := ⟨by rw [hob', hob.out]⟩
                    have hlen2 : Fact ((vs ++ [x.x]).length = (ks ++ [x.I]).length) := ⟨by simp [hlen.out]⟩
                    have hNL : Fact ((ks ++ [x.I]).length = ks.length + 1) := ⟨by simp⟩
                    rw [← hh'] at hmA
                    clear hob' htk' hspe hh' hT
                    have el : IntKind.i64.wrap (left - 2) = left - 2 := IntWalk.i64_in _ (by omega)
                    have hmA1 := hmA.pull2
                    go_upto_region 37 with (at_builtin; refine wp_app rfl _ _ _ rfl 2 iI _ 1 8 ty_Is hiI yz0 yz1 yz2 rfl KA ks.length kc _ rfl (hmA1.alloc _).swap _ 1 1 [.int .i64 x.I] rfl (RdC.lit _ _ _ _ _ rfl (by simp [maxLen]) (One.nums .i64 [x.I])) (by unfold maxLen; omega) (by omega) ?_; intro KA9 kc9 w11 HM11)
                    have hmB := HM11.drop2
                    clear HM11 hmA1 hmA el
                    have y4 := Gr.cell hmB.below (hc.out 4 _ rfl)
                    have y5 := Gr.cell hmB.below (hc.out 5 _ rfl)
                    have hmB1 := hmB.pull3
                    go_upto_region 38 with (first | (refine wp_rng rfl 27 _ rfl b (o + k * 9 + 4) rfl [.int .i64 x.x.1, .int .i64 x.x.2] (rng2 y4 y5) row_V sz_V ?_) | (at_builtin; refine wp_app rfl _ _ _ rfl 27 iV _ 2 16 ty_Vs hiV hz0 hz1 hz2 rfl VA ks.length vc _ rfl (hmB1.alloc _).swap _ 1 1 [.int .i64 x.x.1, .int .i64 x.x.2] rfl (RdC.lit _ _ _ _ _ rfl (by simp [maxLen]) (cV_one x.x)) (by unfold maxLen; omega) (by omega) ?_; intro VA9 vc9 w12 HM12))
                    have hmT : Mem w1 w12 (HpC h' :: Blk gv (.cells [.int .i64 7, .int .i64 0].toArray 27) :: Own 1 (.slice KA9 (ks ++ [x.I]).length kc9) (nums .i64 (ks ++ [x.I])) :: Own 2 (.slice VA9 (ks ++ [x.I]).length vc9) (fV (vs ++ [x.x])) :: []) := by
                      rw [hNL.out, nums_append, show fV (vs ++ [x.x]) = fV vs ++ cV x.x by simp [fV]]
                      exact HM12.drop2.pull2.pull3.swap.perm (((List.Perm.swap _ _ _).cons _).cons _)
                    clear HM12 hmB1 hmB y4 y5
                    have hk2 : (ks ++ [x.I]).length ≤ 256 := by rw [hNL.out]; omega
                    have hl20 : 0 ≤ left - 2 := by omega
                    have hl21 : left - 2 ≤ 1048576 := by omega
                    have hfa := fieldsAre_ok w1 _ _ (h') hmT hok' (t') hth' ((ks ++ [x.I])) ((vs ++ [x.x])) hob2 hlen2 (by omega) (KA9) (kc9) (VA9) (vc9) ⟨m1⟩ ⟨m2⟩ x.I hw
                    try rw [hNL.out] at hfa
                    try rw [hgq.out] at hfa
                    replace hfa := Fact.mk hfa
                    go_wp2_with (refine wp_rng rfl 27 _ rfl gv 0 rfl (cV (7, 0)) (rng_blk hmT m1) row_V sz_V ?_)
                    refine hfa.out.mono ?_
                    clear hfa
                    rintro e wE ⟨rfl, hmE⟩
                    go_wp2_with fail
                    go_roundw
                    case rel => exact ⟨k + 1, h', t', (ks ++ [x.I]), (vs ++ [x.x]), (left - 2), KA9, kc9, VA9, vc9, rfl, by first | rfl | rw [hNL.out], by first | rfl | rw [hNL.out], hnumk.out, hlek.out, hgq.out, hok'.out, hth'.out, hob2.out, hlen2.out, hk2, hbq.out, hl20, hl21, by first | exact hmE | (rw [hNL.out]; exact hmE)⟩
                    case measure => exact measN_lt hlt wrapk.out
            | some j =>
              have hjl := idx_lt hj
              replace hj := Fact.mk hj
              have hjn : Fact (t.ob.keys.idxOf? x.I = some j) := ⟨by rw [hkeys.out]; exact hj.out⟩
              rw [show atI (some j) = (j : Int) from rfl]
              have hj0 : decide ((j : Int) ≥ 0) = true := decide_eq_true (by omega)
              have hj1 : decide ((j : Int) < 0) = false := decide_eq_false (by omega)
              as_aux_lemma =>
                have hm9 := hmr.drew
                have hS : w7.drew.cell? ⟨gv, 0, none⟩ = some (.int .i64 7) ∧ w7.drew.cell? ⟨gv, 1, none⟩ = some (.int .i64 0) ∧ w7.drew.cell? ⟨b, o + k * 9 + 4, none⟩ = some (.int .i64 x.x.1) ∧ w7.drew.cell? ⟨b, o + k * 9 + 5, none⟩ = some (.int .i64 x.x.2) := ⟨hm9.cell m1 0 rfl, hm9.cell m1 1 rfl, Gr.cell hm9.below (hc.out 4 _ rfl), Gr.cell hm9.below (hc.out 5 _ rfl)⟩
                go_upto_region 27 with (fail)
                refine wp_region_until (S := fun W => W.cell? ⟨gv, 0, none⟩ = some (.int .i64 7) ∧ W.cell? ⟨gv, 1, none⟩ = some (.int .i64 0) ∧ W.cell? ⟨b, o + k * 9 + 4, none⟩ = some (.int .i64 x.x.1) ∧ W.cell? ⟨b, o + k * 9 + 5, none⟩ = some (.int .i64 x.x.2)) 13 (by kernel_rfl) ?_
                generalize w7.drew = w9 at hm9 hS ⊢
                clear hmr
                refine wpAnyU_take 0 (v := ?vsg0) rfl (by kernel_rfl) (by kernel_rfl) (fun _ _ _ h => h) hS (Or.inl ⟨rfl, ?ysg0⟩) ?rsg0
                case ysg0 =>
                  intro W hW
                  obtain ⟨hW0, hW1, hW2, hW3⟩ := hW
                  go_simp
                  try with_reducible rfl
                try simp only [Act.put, List.getElem_toArray, List.getElem_cons_succ, List.getElem_cons_zero, List.setIfInBounds_toArray, List.set_cons_zero, List.set_cons_succ]
                refine wpAnyU_take 1 (v := ?vsg1) rfl (by kernel_rfl) (by kernel_rfl) (fun _ _ _ h => h) hS (Or.inl ⟨rfl, ?ysg1⟩) ?rsg1
                case ysg1 =>
                  intro W hW
                  obtain ⟨hW0, hW1, hW2, hW3⟩ := hW
                  go_simp
                  try with_reducible rfl
                try simp only [Act.put, List.getElem_toArray, List.getElem_cons_succ, List.getElem_cons_zero, List.setIfInBounds_toArray, List.set_cons_zero, List.set_cons_succ]
                refine wpAnyU_take 2 (v := ?vsg2) rfl (by kernel_rfl) (by kernel_rfl) (fun _ _ _ h => h) hS (Or.inl ⟨rfl, ?ysg2⟩) ?rsg2
                case ysg2 =>
                  intro W hW
                  obtain ⟨hW0, hW1, hW2, hW3⟩ := hW
                  go_simp
                  try with_reducible rfl
                try simp only [Act.put, List.getElem_toArray, List.getElem_cons_succ, List.getElem_cons_zero, List.setIfInBounds_toArray, List.set_cons_zero, List.set_cons_succ]
                refine wpAnyU_take 3 (v := ?vsg3) rfl (by kernel_rfl) (by kernel_rfl) (fun _ _ _ h => h) hS (Or.inl ⟨rfl, ?ysg3⟩) ?rsg3
                case ysg3 =>
                  intro W hW
                  obtain ⟨hW0, hW1, hW2, hW3⟩ := hW
                  go_simp
                  try with_reducible rfl
                try simp only [Act.put, List.getElem_toArray, List.getElem_cons_succ, List.getElem_cons_zero, List.setIfInBounds_toArray, List.set_cons_zero, List.set_cons_succ]
                refine wpAnyU_take 4 (v := ?vsg4) rfl (by kernel_rfl) (by kernel_rfl) (fun _ _ _ h => h) hS (Or.inl ⟨rfl, ?ysg4⟩) ?rsg4
                case ysg4 =>
                  intro W hW
                  obtain ⟨hW0, hW1, hW2, hW3⟩ := hW
                  go_simp
                  try with_reducible rfl
                try simp only [Act.put, List.getElem_toArray, List.getElem_cons_succ, List.getElem_cons_zero, List.setIfInBounds_toArray, List.set_cons_zero, List.set_cons_succ]
                refine wpAnyU_take 5 (v := ?vsg5) rfl (by kernel_rfl) (by kernel_rfl) (fun _ _ _ h => h) hS (Or.inl ⟨rfl, ?ysg5⟩) ?rsg5
                case ysg5 =>
                  intro W hW
                  obtain ⟨hW0, hW1, hW2, hW3⟩ := hW
                  go_simp
                  try with_reducible rfl
                try simp only [Act.put, List.getElem_toArray, List.getElem_cons_succ, List.getElem_cons_zero, List.setIfInBounds_toArray, List.set_cons_zero, List.set_cons_succ]
                refine wpAnyU_take 6 (v := ?vsg6) rfl (by kernel_rfl) (by kernel_rfl) (fun _ _ _ h => h) hS (Or.inl ⟨rfl, ?ysg6⟩) ?rsg6
                case ysg6 =>
                  intro W hW
                  obtain ⟨hW0, hW1, hW2, hW3⟩ := hW
                  go_simp
                  try with_reducible rfl
                try simp only [Act.put, List.getElem_toArray, List.getElem_cons_succ, List.getElem_cons_zero, List.setIfInBounds_toArray, List.set_cons_zero, List.set_cons_succ]
                refine wpAnyU_take 7 (v := ?vsg7) rfl (by kernel_rfl) (by kernel_rfl) (fun _ _ _ h => h) hS (Or.inl ⟨rfl, ?ysg7⟩) ?rsg7
                case ysg7 =>
                  intro W hW
                  obtain ⟨hW0, hW1, hW2, hW3⟩ := hW
                  go_simp
                  try with_reducible rfl
                try simp only [Act.put, List.getElem_toArray, List.getElem_cons_succ, List.getElem_cons_zero, List.setIfInBounds_toArray, List.set_cons_zero, List.set_cons_succ]
                refine wpAnyU_one 8 (by kernel_rfl) rfl (fun K hK => ?_)
                refine step_call rfl 24 Try.f24 Try.func24 (by kernel_rfl) (by kernel_rfl) _ _ rfl #[.pointer (some ⟨h.g, 0, none⟩), .agg #[.int .i64 7, .int .i64 0], .int .i64 x.I, .agg #[.int .i64 x.x.1, .int .i64 x.x.2]] (by simp [Act.eval]) ?_
                refine (setOld_ok w1 w9 _ h hm9 hok 7 0 x.I hw x.x.1 x.x.2 0 hnm.out t hgt hk7 j hjn).mono ?_
                rintro e w10 ⟨rfl, t', hob', htk', hmA⟩
                refine ⟨_, rfl, ?_⟩
                have hT : w10.cell? ⟨gv, 0, none⟩ = some (.int .i64 7) ∧ w10.cell? ⟨gv, 1, none⟩ = some (.int .i64 0) ∧ w10.cell? ⟨b, o + k * 9 + 4, none⟩ = some (.int .i64 x.x.1) ∧ w10.cell? ⟨b, o + k * 9 + 5, none⟩ = some (.int .i64 x.x.2) := ⟨hmA.cell m1 0 rfl, hmA.cell m1 1 rfl, Gr.cell hmA.below (hc.out 4 _ rfl), Gr.cell hmA.below (hc.out 5 _ rfl)⟩
                refine hK _ _ (fun _ => hT) ?_
                clear hK K hS hm9
                try simp only [Act.put, List.getElem_toArray, List.getElem_cons_succ, List.getElem_cons_zero, List.setIfInBounds_toArray, List.set_cons_zero, List.set_cons_succ]
                refine wpAnyU_take 9 (v := ?vsh9) rfl (by kernel_rfl) (by kernel_rfl) (fun _ _ _ h => h) hT (Or.inl ⟨rfl, ?ysh9⟩) ?rsh9
                case ysh9 =>
                  intro W hW
                  obtain ⟨hW0, hW1, hW2, hW3⟩ := hW
                  go_simp
                  try with_reducible rfl
                try simp only [Act.put, List.getElem_toArray, List.getElem_cons_succ, List.getElem_cons_zero, List.setIfInBounds_toArray, List.set_cons_zero, List.set_cons_succ]
                refine wpAnyU_take 10 (v := ?vsh10) rfl (by kernel_rfl) (by kernel_rfl) (fun _ _ _ h => h) hT (Or.inl ⟨rfl, ?ysh10⟩) ?rsh10
                case ysh10 =>
                  intro W hW
                  obtain ⟨hW0, hW1, hW2, hW3⟩ := hW
                  go_simp
                  try with_reducible rfl
                try simp only [Act.put, List.getElem_toArray, List.getElem_cons_succ, List.getElem_cons_zero, List.setIfInBounds_toArray, List.set_cons_zero, List.set_cons_succ]
                refine wpAnyU_take 11 (v := ?vsh11) rfl (by kernel_rfl) (by kernel_rfl) (fun _ _ _ h => h) hT (Or.inl ⟨rfl, ?ysh11⟩) ?rsh11
                case ysh11 =>
                  intro W hW
                  obtain ⟨hW0, hW1, hW2, hW3⟩ := hW
                  go_simp
                  try with_reducible rfl
                try simp only [Act.put, List.getElem_toArray, List.getElem_cons_succ, List.getElem_cons_zero, List.setIfInBounds_toArray, List.set_cons_zero, List.set_cons_succ]
                refine wpAnyU_one 12 (by kernel_rfl) rfl (fun K hK => ?_)
                go_simp
                refine hK _ _ (fun _ => hT) ?_
                clear hK K
                try simp only [Act.put, List.getElem_toArray, List.getElem_cons_succ, List.getElem_cons_zero, List.setIfInBounds_toArray, List.set_cons_zero, List.set_cons_succ]
                refine wpAnyU_one 13 (by kernel_rfl) rfl (fun K hK => ?_)
                go_simp
                refine hK _ _ (fun h => absurd h (by decide)) ?_
                clear hK K
                try simp only [Act.put, List.getElem_toArray, List.getElem_cons_succ, List.getElem_cons_zero, List.setIfInBounds_toArray, List.set_cons_zero, List.set_cons_succ]
                refine wpAnyU_done (by kernel_rfl) ?_ _
                have hth' : Fact ((h.upd 0 t').ths = [t']) := ⟨by simp [Hp.upd, hth.out]⟩
                have hok' : Fact (h.upd 0 t').Ok := ⟨upd_ok hok.out 0 t' htk'⟩
                have hob2 : Fact (t'.ob = ⟨7, vs.set j x.x, ks, 0, 0, false⟩) := ⟨by rw [hob', hob.out]⟩
                have hlen2 : Fact ((vs.set j x.x).length = ks.length) := ⟨by simp [hlen.out]⟩
                have hjv : Fact (j < vs.length) := ⟨by rw [hlen.out]; exact hjl⟩
                clear hob' htk' hT
                obtain ⟨vb, vo, rfl⟩ := OwnAt.addr (hmA.ok _ m3) (by have := OwnAt.cap (hmA.ok _ m3); omega)
                have y4 := Gr.cell hmA.below (hc.out 4 _ rfl)
                have y5 := Gr.cell hmA.below (hc.out 5 _ rfl)
                have hmA1 := hmA.pull3
                go_upto_region 33 with (fail)
                go_upto_region 38 with (first | (refine wp_rng rfl 27 _ rfl b (o + k * 9 + 4) rfl [.int .i64 x.x.1, .int .i64 x.x.2] (rng2 y4 y5) row_V sz_V ?_) | (refine wp_ownrow rfl 27 _ _ rfl (vo + j * 2) (j * 2) rfl rfl [.int .i64 x.x.1, .int .i64 x.x.2] rfl hmA1 sz_V (by rw [fV_len]; have := hjv.out; show j * 2 + 2 ≤ _; omega) (cV_one x.x) ?_; intro w11 HM11))
                have hmT : Mem w1 w11 (HpC (h.upd 0 t') :: Blk gv (.cells [.int .i64 7, .int .i64 0].toArray 27) :: Own 1 (.slice KA ks.length kc) (nums .i64 ks) :: Own 2 (.slice (some ⟨vb, vo, none⟩) ks.length vc) (fV (vs.set j x.x)) :: []) := by
                  rw [← fV_set vs j x.x hjv.out]
                  exact HM11.back2.perm (((List.Perm.swap _ _ _).cons _).cons _)
                clear HM11 hmA1 hmA y4 y5
                have hfa := fieldsAre_ok w1 _ _ ((h.upd 0 t')) hmT hok' (t') hth' (ks) ((vs.set j x.x)) hob2 hlen2 (by omega) (KA) (kc) ((some ⟨vb, vo, none⟩)) (vc) ⟨m1⟩ ⟨m2⟩ x.I hw
                try rw [hlen2.out] at hfa
                try rw [hlen2.out] at hfa
                replace hfa := Fact.mk hfa
                go_wp2_with (refine wp_rng rfl 27 _ rfl gv 0 rfl (cV (7, 0)) (rng_blk hmT m1) row_V sz_V ?_)
                refine hfa.out.mono ?_
                clear hfa
                rintro e wE ⟨rfl, hmE⟩
                go_wp2_with fail
                go_roundw
                case rel => exact ⟨k + 1, (h.upd 0 t'), t', ks, (vs.set j x.x), left, KA, kc, (some ⟨vb, vo, none⟩), vc, rfl, by first | rfl | rw [hlen2.out], by first | rfl | rw [hlen2.out], hnumk.out, hlek.out, rfl, hok'.out, hth'.out, hob2.out, hlen2.out, hk256, hleft.out, hl0, hl1, by first | exact hmE | (rw [hlen2.out]; exact hmE)⟩
                case measure => exact measN_lt hlt wrapk.out
    · obtain rfl : k = m := by omega
      go_wp2
      go_ret
      exact ⟨rfl, hmr.below⟩
end Go.Proofs.Ytpibchjkmaghnaa
