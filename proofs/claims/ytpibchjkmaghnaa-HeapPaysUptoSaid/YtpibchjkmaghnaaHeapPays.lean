/- HeapPays: the walk. -/
import Derived.Test.YtpibchjkmaghnaaHpPay
namespace Go.Proofs.Ytpibchjkmaghnaa
open Go.RowKit Go.Mm
set_option maxHeartbeats 4000000
set_option maxRecDepth 100000
set_option linter.unusedSimpArgs false
def kindsL : List Value := [.int .i64 3, .int .i64 4, .int .i64 5, .int .i64 6, .int .i64 0]
theorem kindsL_at (j : Nat) (hj : j < 5) : ∃ c : Nat, (c = 0 ∨ c = 3 ∨ c = 4 ∨ c = 5 ∨ c = 6) ∧ kindsL[j]? = some (.int .i64 c) := by
  obtain rfl | rfl | rfl | rfl | rfl : j = 0 ∨ j = 1 ∨ j = 2 ∨ j = 3 ∨ j = 4 := by omega
  · exact ⟨3, by omega, rfl⟩
  · exact ⟨4, by omega, rfl⟩
  · exact ⟨5, by omega, rfl⟩
  · exact ⟨6, by omega, rfl⟩
  · exact ⟨0, by omega, rfl⟩
theorem payCost_nn (c : Nat) (o : HOp) (h : payMay c o = true) : 0 ≤ payCost c o := by
  have := pickF_rng o.M 66 (by omega)
  unfold payCost
  split <;> first | omega | (simp [payMay] at h; omega) | skip
theorem pays_walk (W : World) (budget : Int) (A : Option Addr) (m c : Nat) (ops : List HOp) (hs : Fact (RdC W 9 (.slice A m c) (ops.flatMap cHO))) (hit : ∀ x, x ∈ ops → RdC W 2 (.slice x.A x.n x.c) (fV x.items) ∧ x.n ≤ 1048576) (hmm : m ≤ 1048576) :
    Calls Try.prog 10 #[.int .i64 budget, .slice A m c] W fun e w' => e = .returned (.bool true) ∧ Gr W w' := by
  have hit := Fact.mk hit
  go_enter Try.func10, Try.ntmps10
  go_wp2_with fail
  refine (pickF_ok W budget 1048576 1048576 rfl (by omega) (by omega)).mono ?_
  rintro e w1 ⟨rfl, rfl⟩
  have hp := pickF_rng budget 1048576 (by omega)
  generalize pickF budget 1048576 = p at hp ⊢
  go_wp2_with fail
  refine (heapNew_ok w1 w1 [] (Mem.start w1) p 0).mono ?_
  rintro e w2 ⟨g, rfl, hm2⟩
  rw [show max p 0 = p by omega, show max (0 : Int) 0 = 0 from rfl] at hm2
  go_upto_region 8 with (fail)
  have hm3 := hm2.alloc (.cells kindsL.toArray 3)
  generalize hgb : w2.heap.size = gs at hm3 ⊢
  generalize hw1 : w2.alloc (.cells kindsL.toArray 3) = w3 at hm3
  try refine wp_world hw1 ?_
  clear hw1 hgb hm2
  replace hm3 := hm3.swap
  go_wp2
  go_loopw [7, 8, 10] (fun s7 s8 s10 w' => ∃ (k : Nat) (h : Hp), s7 = .int .i64 h.spent ∧ s8 = .int .i64 h.ths.length ∧ s10 = .int .i64 k ∧ k ≤ m ∧ h.g = g ∧ h.Ok ∧ h.budget = p ∧ h.ths.length ≤ k ∧ h.spent ≤ p ∧ Mem w1 w' [HpC h, Blk gs (.cells kindsL.toArray 3)]) (fun _ _ s10 _ => m - (intOf s10).toNat)
  case atStart => exact ⟨0, ⟨g, p, 0, none, 0, []⟩, rfl, rfl, rfl, by omega, rfl, ⟨by simp, by simp, hp.1, by show p ≤ _; omega, by show (0 : Int) ≤ 0; omega, by show (0 : Int) ≤ _; omega⟩, rfl, by simp, hp.1, hm3⟩
  case round =>
    obtain ⟨k, h, rfl, rfl, rfl, hk, rfl, hok, rfl, hlk, hsp, hm⟩ := hrel
    clear hm3
    have hs0 := hok.s0
    by_cases hlt : k < m
    · obtain ⟨b, o, rfl, hc, hkm⟩ := rdHO_at hs.out k hlt
      have hxm : ops.getD k hop0 ∈ ops := by rw [List.getD_eq_getElem?_getD, List.getElem?_eq_getElem hkm]; exact List.getElem_mem hkm
      generalize ops.getD k hop0 = x at hc hxm
      obtain ⟨hxr, hxn⟩ := hit.out x hxm
      have hxr := Fact.mk hxr
      have hc := Fact.mk hc
      have hok := Fact.mk hok
      have wrapk : wrap64 ((k : Int) + 1) = (k : Int) + 1 := IntWalk.wrap64_in _ (by omega)
      go_upto_region 12 with (first | (refine wp_rng rfl 32 _ rfl b (o + k * 9) rfl (cHO x) (rng_gr hc.out hm.below) row_HO sz_HO ?_) | (refine wp_setrow rfl 32 _ _ rfl wr.heap.size rfl 32 _ (cHO x) rfl (hm.alloc _) sz_HO rfl (cHO_one x) ?_; intro w6 hm6))
      generalize wr.heap.size = g11 at hm6 ⊢
      have y1 := hm6.cell m0 1 rfl
      clear hm hxm
      go_wp2_with fail
      refine (pickF_ok w6 x.kd 5 5 rfl (by omega) (by omega)).mono ?_
      rintro e w7 ⟨rfl, rfl⟩
      have hj := pickF_rng x.kd 5 (by omega)
      obtain ⟨j, hj'⟩ := Int.eq_ofNat_of_zero_le hj.1
      rw [hj'] at hj ⊢
      have hj5 : j < 5 := by omega
      clear hj' hj y1
      obtain ⟨cc, hcc, hcell⟩ := kindsL_at j hj5
      have z1 := hm6.cell m2 j hcell
      clear hcell
      go_wp2_with (refine wp_rng rfl 32 _ rfl g11 0 rfl (cHO x) (rng_blk hm6 m0) row_HO sz_HO ?_)
      refine (cost_ok w1 w7 _ hm6 cc hcc x hxn).mono ?_
      rintro e w8 ⟨rfl, hg8⟩
      have hm8 := hm6.gr hg8
      clear z1 hm6 hg8
      obtain ⟨bb, v, S, hq, hask⟩ := askPay_ok w1 w8 _ h hm8.pull2.back2.swap hok cc hcc x hxr hxn (by omega)
      have hb := hq.ok
      have hno := Fact.mk hq.no
      have hy1 := Fact.mk hq.budget
      have hy2 := Fact.mk hq.spent
      have hy3 := Fact.mk hq.len
      have hy4 := Fact.mk hq.v
      clear hq
      have hmx := payCost_nn cc x
      generalize payCost cc x = n at hb hy2 hmx ⊢
      generalize payMay cc x = may at hb hmx ⊢
      replace hmx := Fact.mk hmx
      replace hb := Fact.mk hb
      replace hask := Fact.mk hask
      have e1 : IntKind.i64.wrap (h.budget - h.spent) = h.budget - h.spent := IntWalk.i64_in _ (by have := hok.out.b1; omega)
      cases may with
      | false =>
        obtain rfl : bb = false := hb.out
        as_aux_lemma =>
          obtain ⟨rfl, rfl⟩ := hno.out rfl
          go_wp2_with (refine wp_rng rfl 32 _ rfl g11 0 rfl (cHO x) (rng_blk hm8 m0) row_HO sz_HO ?_)
          refine hask.out.mono ?_
          rintro e w9 ⟨val, rfl, h', hg', ha', hok', A1, c1, K1, k1, LA1, lc1, rfl, hm9⟩
          replace hm9 := hm9.tail.tail.tail
          obtain ⟨C, hC⟩ : ∃ C, C = (sdC (sdV (0, 0) 0 0 false) A1 c1 K1 k1 LA1 lc1) := ⟨_, rfl⟩
          have hC0 : C[0]? = some (.int .i64 (0)) := by rw [hC]; rfl
          have hC1 : C[1]? = some (.int .i64 (0)) := by rw [hC]; rfl
          have hC4 : C[4]? = some (.bool false) := by rw [hC]; rfl
          have hCl : C.length = 12 := by rw [hC]; rfl
          have hCo : One C := by rw [hC]; exact sC_one _ _ _ _ _ _ _ _ _ _ _ _ _ _ _ _ _ _
          rw [← hC]
          clear hC
          replace hC0 := Fact.mk hC0
          replace hC1 := Fact.mk hC1
          replace hC4 := Fact.mk hC4
          replace hCl := Fact.mk hCl
          replace hCo := Fact.mk hCo
          clear hask
          have hsp' : h'.spent = h.spent := congrArg Hs.spent ha'
          have hbu' : h'.budget = h.budget := congrArg Hs.budget ha'
          have hln' : h'.ths.length = h.ths.length := by rw [← h'.abs_len, ← h.abs_len]; exact congrArg (fun s : Hs => s.objs.length) ha'
          clear ha' hno hy1 hy2 hy3 hy4
          go_wp2_with (refine wp_setrow rfl 84 _ _ rfl w9.heap.size rfl 84 _ C rfl (hm9.alloc _) (by rw [hCl.out]; exact sz_S) (by rw [hCl.out]; rfl) hCo.out ?_; intro w10 hm10; have y0 := hm10.cell m0 0 hC0.out; have y1 := hm10.cell m0 1 hC1.out; have y4 := hm10.cell m0 4 hC4.out)
          have hcs := heapSpent_ok w1 w10 _ h' hm10 m1
          rw [hg', hsp'] at hcs
          refine hcs.mono ?_
          clear hcs
          rintro e w11 ⟨rfl, rfl⟩
          go_wp2_with fail
          have hcs := heapLen_ok w1 w11 _ h' hm10 m1
          rw [hg', hln'] at hcs
          refine hcs.mono ?_
          clear hcs
          rintro e w12 ⟨rfl, rfl⟩
          go_wp2_with fail
          go_roundw
          case rel => exact ⟨k + 1, h', by rw [hsp'], by first | (rw [hln']; done) | (rw [hln']; go_num), by go_num, by omega, hg', hok', hbu', by omega, by omega, (hm10.tail.sub (List.Sublist.cons_cons _ (List.sublist_cons_self _ _)))⟩
          case measure => first | exact measP_lt hlt | exact measN_lt hlt wrapk
      | true =>
        by_cases q : n ≤ h.budget - h.spent
        · have q' : decide (n ≤ h.budget - h.spent) = true := decide_eq_true q
          obtain rfl : bb = true := by rw [hb.out, show h.abs.budget - h.abs.spent = h.budget - h.spent from rfl, q']; rfl
          as_aux_lemma =>
            have hbu := Fact.mk (hy1.out rfl)
            have hspn := Fact.mk (hy2.out rfl)
            have hlen := hy3.out rfl
            have hv := hy4.out rfl
            have hn0 := hmx.out rfl
            clear hno hy1 hy2 hy3 hy4
            have e2 : IntKind.i64.wrap (h.spent + n) = h.spent + n := IntWalk.i64_in _ (by have := hok.out.b1; omega)
            by_cases h0 : cc = 0
            · rw [if_pos h0] at hlen hv
              subst hv
              replace hlen := Fact.mk hlen
              have h0' : ((cc : Int) != 0) = false := by simp; omega
              replace h0 := Fact.mk h0
              go_wp2_with (refine wp_rng rfl 32 _ rfl g11 0 rfl (cHO x) (rng_blk hm8 m0) row_HO sz_HO ?_)
              refine hask.out.mono ?_
              rintro e w9 ⟨val, rfl, h', hg', ha', hok', A1, c1, K1, k1, LA1, lc1, rfl, hm9⟩
              replace hm9 := hm9.tail.tail.tail
              obtain ⟨C, hC⟩ : ∃ C, C = (sdC (sdV (0, 0) 0 0 true) A1 c1 K1 k1 LA1 lc1) := ⟨_, rfl⟩
              have hC0 : C[0]? = some (.int .i64 (0)) := by rw [hC]; rfl
              have hC1 : C[1]? = some (.int .i64 (0)) := by rw [hC]; rfl
              have hC4 : C[4]? = some (.bool true) := by rw [hC]; rfl
              have hCl : C.length = 12 := by rw [hC]; rfl
              have hCo : One C := by rw [hC]; exact sC_one _ _ _ _ _ _ _ _ _ _ _ _ _ _ _ _ _ _
              rw [← hC]
              clear hC
              replace hC0 := Fact.mk hC0
              replace hC1 := Fact.mk hC1
              replace hC4 := Fact.mk hC4
              replace hCl := Fact.mk hCl
              replace hCo := Fact.mk hCo
              clear hask
              have hsp' : h'.spent = h.spent + n := (congrArg Hs.spent ha').trans hspn.out
              have hbu' : h'.budget = h.budget := (congrArg Hs.budget ha').trans hbu.out
              have hln' : h'.ths.length = h.ths.length := by rw [← h'.abs_len, ← h.abs_len]; exact (congrArg (fun s : Hs => s.objs.length) ha').trans hlen.out
              clear ha' hbu hspn hlen
              go_wp2_with (refine wp_setrow rfl 84 _ _ rfl w9.heap.size rfl 84 _ C rfl (hm9.alloc _) (by rw [hCl.out]; exact sz_S) (by rw [hCl.out]; rfl) hCo.out ?_; intro w10 hm10; have y0 := hm10.cell m0 0 hC0.out; have y1 := hm10.cell m0 1 hC1.out; have y4 := hm10.cell m0 4 hC4.out)
              have hcs := heapSpent_ok w1 w10 _ h' hm10 m1
              rw [hg', hsp'] at hcs
              refine hcs.mono ?_
              clear hcs
              rintro e w11 ⟨rfl, rfl⟩
              go_wp2_with fail
              have hcs := heapLen_ok w1 w11 _ h' hm10 m1
              rw [hg', hln'] at hcs
              refine hcs.mono ?_
              clear hcs
              rintro e w12 ⟨rfl, rfl⟩
              go_wp2_with fail
              go_roundw
              case rel => exact ⟨k + 1, h', by rw [hsp'], by first | (rw [hln']; done) | (rw [hln']; go_num), by go_num, by omega, hg', hok', hbu', by omega, by omega, (hm10.tail.sub (List.Sublist.cons_cons _ (List.sublist_cons_self _ _)))⟩
              case measure => first | exact measP_lt hlt | exact measN_lt hlt wrapk
            · rw [if_neg h0, show h.abs.objs.length = h.ths.length from h.abs_len] at hv
              rw [if_neg h0] at hlen
              subst hv
              replace hlen := Fact.mk hlen
              have h0' : ((cc : Int) != 0) = true := by simp; omega
              replace h0 := Fact.mk h0
              have e3 : IntKind.i64.wrap (6 + (cc : Int)) = 6 + cc := IntWalk.i64_in _ (by omega)
              have e4 : IntKind.i64.wrap (6 + (cc : Int) - 3) = 3 + cc := by rw [IntWalk.i64_in _ (by omega)]; omega
              have e5 : IntKind.i64.wrap ((h.ths.length : Int) + 1) = h.ths.length + 1 := IntWalk.i64_in _ (by omega)
              go_wp2_with (refine wp_rng rfl 32 _ rfl g11 0 rfl (cHO x) (rng_blk hm8 m0) row_HO sz_HO ?_)
              refine hask.out.mono ?_
              rintro e w9 ⟨val, rfl, h', hg', ha', hok', A1, c1, K1, k1, LA1, lc1, rfl, hm9⟩
              replace hm9 := hm9.tail.tail.tail
              obtain ⟨C, hC⟩ : ∃ C, C = (sdC (sdV (3 + (cc : Int), h.ths.length) 0 0 true) A1 c1 K1 k1 LA1 lc1) := ⟨_, rfl⟩
              have hC0 : C[0]? = some (.int .i64 (3 + (cc : Int))) := by rw [hC]; rfl
              have hC1 : C[1]? = some (.int .i64 (h.ths.length)) := by rw [hC]; rfl
              have hC4 : C[4]? = some (.bool true) := by rw [hC]; rfl
              have hCl : C.length = 12 := by rw [hC]; rfl
              have hCo : One C := by rw [hC]; exact sC_one _ _ _ _ _ _ _ _ _ _ _ _ _ _ _ _ _ _
              rw [← hC]
              clear hC
              replace hC0 := Fact.mk hC0
              replace hC1 := Fact.mk hC1
              replace hC4 := Fact.mk hC4
              replace hCl := Fact.mk hCl
              replace hCo := Fact.mk hCo
              clear hask
              have hsp' : h'.spent = h.spent + n := (congrArg Hs.spent ha').trans hspn.out
              have hbu' : h'.budget = h.budget := (congrArg Hs.budget ha').trans hbu.out
              have hln' : h'.ths.length = h.ths.length + 1 := by rw [← h'.abs_len, ← h.abs_len]; exact (congrArg (fun s : Hs => s.objs.length) ha').trans hlen.out
              clear ha' hbu hspn hlen
              go_wp2_with (refine wp_setrow rfl 84 _ _ rfl w9.heap.size rfl 84 _ C rfl (hm9.alloc _) (by rw [hCl.out]; exact sz_S) (by rw [hCl.out]; rfl) hCo.out ?_; intro w10 hm10; have y0 := hm10.cell m0 0 hC0.out; have y1 := hm10.cell m0 1 hC1.out; have y4 := hm10.cell m0 4 hC4.out)
              have hcs := heapSpent_ok w1 w10 _ h' hm10 m1
              rw [hg', hsp'] at hcs
              refine hcs.mono ?_
              clear hcs
              rintro e w11 ⟨rfl, rfl⟩
              go_wp2_with fail
              have hcs := heapLen_ok w1 w11 _ h' hm10 m1
              rw [hg', hln'] at hcs
              refine hcs.mono ?_
              clear hcs
              rintro e w12 ⟨rfl, rfl⟩
              go_wp2_with fail
              go_roundw
              case rel => exact ⟨k + 1, h', by rw [hsp'], by first | (rw [hln']; done) | (rw [hln']; go_num), by go_num, by omega, hg', hok', hbu', by omega, by omega, (hm10.tail.sub (List.Sublist.cons_cons _ (List.sublist_cons_self _ _)))⟩
              case measure => first | exact measP_lt hlt | exact measN_lt hlt wrapk
        · have q' : decide (n ≤ h.budget - h.spent) = false := decide_eq_false q
          obtain rfl : bb = false := by rw [hb.out, show h.abs.budget - h.abs.spent = h.budget - h.spent from rfl, q']; rfl
          as_aux_lemma =>
            obtain ⟨rfl, rfl⟩ := hno.out rfl
            go_wp2_with (refine wp_rng rfl 32 _ rfl g11 0 rfl (cHO x) (rng_blk hm8 m0) row_HO sz_HO ?_)
            refine hask.out.mono ?_
            rintro e w9 ⟨val, rfl, h', hg', ha', hok', A1, c1, K1, k1, LA1, lc1, rfl, hm9⟩
            replace hm9 := hm9.tail.tail.tail
            obtain ⟨C, hC⟩ : ∃ C, C = (sdC (sdV (0, 0) 0 0 false) A1 c1 K1 k1 LA1 lc1) := ⟨_, rfl⟩
            have hC0 : C[0]? = some (.int .i64 (0)) := by rw [hC]; rfl
            have hC1 : C[1]? = some (.int .i64 (0)) := by rw [hC]; rfl
            have hC4 : C[4]? = some (.bool false) := by rw [hC]; rfl
            have hCl : C.length = 12 := by rw [hC]; rfl
            have hCo : One C := by rw [hC]; exact sC_one _ _ _ _ _ _ _ _ _ _ _ _ _ _ _ _ _ _
            rw [← hC]
            clear hC
            replace hC0 := Fact.mk hC0
            replace hC1 := Fact.mk hC1
            replace hC4 := Fact.mk hC4
            replace hCl := Fact.mk hCl
            replace hCo := Fact.mk hCo
            clear hask
            have hsp' : h'.spent = h.spent := congrArg Hs.spent ha'
            have hbu' : h'.budget = h.budget := congrArg Hs.budget ha'
            have hln' : h'.ths.length = h.ths.length := by rw [← h'.abs_len, ← h.abs_len]; exact congrArg (fun s : Hs => s.objs.length) ha'
            clear ha' hno hy1 hy2 hy3 hy4
            go_wp2_with (refine wp_setrow rfl 84 _ _ rfl w9.heap.size rfl 84 _ C rfl (hm9.alloc _) (by rw [hCl.out]; exact sz_S) (by rw [hCl.out]; rfl) hCo.out ?_; intro w10 hm10; have y0 := hm10.cell m0 0 hC0.out; have y1 := hm10.cell m0 1 hC1.out; have y4 := hm10.cell m0 4 hC4.out)
            have hcs := heapSpent_ok w1 w10 _ h' hm10 m1
            rw [hg', hsp'] at hcs
            refine hcs.mono ?_
            clear hcs
            rintro e w11 ⟨rfl, rfl⟩
            go_wp2_with fail
            have hcs := heapLen_ok w1 w11 _ h' hm10 m1
            rw [hg', hln'] at hcs
            refine hcs.mono ?_
            clear hcs
            rintro e w12 ⟨rfl, rfl⟩
            go_wp2_with fail
            go_roundw
            case rel => exact ⟨k + 1, h', by rw [hsp'], by first | (rw [hln']; done) | (rw [hln']; go_num), by go_num, by omega, hg', hok', hbu', by omega, by omega, (hm10.tail.sub (List.Sublist.cons_cons _ (List.sublist_cons_self _ _)))⟩
            case measure => first | exact measP_lt hlt | exact measN_lt hlt wrapk
    · have hb1 := hok.b1
      have e1 : IntKind.i64.wrap (h.budget - h.spent) = h.budget - h.spent := IntWalk.i64_in _ (by omega)
      go_wp2_with fail
      have hr : h.room (h.budget - h.spent) = true := by unfold Hp.room; simp; omega
      have hsp1 := heapSpend_ok w1 wr _ h hm ⟨hok⟩ (h.budget - h.spent)
      have hq : h.spend (h.budget - h.spent) = { h with spent := h.budget } := by unfold Hp.spend; rw [hr, if_pos rfl]; congr 1; omega
      rw [hr, hq] at hsp1
      have hok2 : ({ h with spent := h.budget } : Hp).Ok := by rw [← hq]; exact Hp.spend_ok hok _
      clear hq hr
      obtain ⟨h2, hh2⟩ : ∃ h2 : Hp, h2 = { h with spent := h.budget } := ⟨_, rfl⟩
      rw [← hh2] at hsp1 hok2
      have hg2 : h2.g = h.g := by rw [hh2]
      have hs2 : h2.spent = h.budget := by rw [hh2]
      have hb2 : h2.budget = h.budget := by rw [hh2]
      clear hh2
      refine hsp1.mono ?_
      clear hsp1 hm
      rintro e w8 ⟨rfl, hm8⟩
      go_wp2_with fail
      have hcs := heapSpent_ok w1 w8 _ h2 hm8 m0
      rw [hg2, hs2] at hcs
      refine hcs.mono ?_
      clear hcs
      rintro e w9 ⟨rfl, rfl⟩
      go_wp2_with fail
      have hcs := heapSpend_ok w1 w9 _ h2 hm8 ⟨hok2⟩ 1
      rw [hg2, show h2.room 1 = false by unfold Hp.room; rw [hs2, hb2]; simp] at hcs
      refine hcs.mono ?_
      clear hcs
      rintro e w10 ⟨rfl, hm10⟩
      go_wp2_with fail
      go_ret
      exact ⟨rfl, hm10.below⟩
end Go.Proofs.Ytpibchjkmaghnaa
