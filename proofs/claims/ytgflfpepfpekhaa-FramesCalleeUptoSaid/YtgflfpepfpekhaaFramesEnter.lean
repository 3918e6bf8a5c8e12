import Derived.Test.YtgflfpepfpekhaaFrLent
import Derived.Test.YtgflfpepfpekhaaFrKept
import Derived.Test.YtgflfpepfpekhaaFrRefE
import Derived.Test.YtgflfpepfpekhaaFrSame
import Derived.Test.YtgflfpepfpekhaaFrApart
import Derived.Test.YtgflfpepfpekhaaFrOpenP
namespace Go.Proofs.Ytgflfpepfpekhaa
open Go.RowKit Go.Mm Go.WideShapes
set_option maxHeartbeats 2000000
set_option maxRecDepth 100000
theorem LentOk.pg {w : World} {p : Pg} {KA : Option Addr} {kc : Nat} {FA : Option Addr} {fc : Nat} {hs : List Fn} (h : LentOk w p KA kc FA fc hs) (hp : PgOk w p) : PgOk w (lentP p KA kc FA fc hs) := by
  have hcl : p.consts.length = p.kn := rd_len cC_len (by omega) hp.consts
  have hfl : p.fns.length = p.fn := rd_len cF_len (by omega) hp.fns
  have hf := h.fns
  have e : fF (List.zipWith lentF p.fns hs ++ hs ++ marksF p.fn 64) = (List.zipWith lentF p.fns hs ++ (hs ++ marksF p.fn 64)).flatMap cF := by rw [← List.append_assoc]; rfl
  rw [e, show 2 * p.fn + 64 = p.fn + (p.fn + 64) by omega] at hf
  have hzl : (List.zipWith lentF p.fns hs).length = p.fn := by have := h.len; rw [List.length_zipWith]; omega
  have key : ∀ f, f ∈ List.zipWith lentF p.fns hs → FnOk w f ∧ f.hn ≤ 1048576 ∧ f.cn ≤ 1048576 := fun f hf => by
    obtain ⟨k, hk, rfl⟩ := List.getElem_of_mem hf
    have hk1 : k < p.fns.length := by simp at hk; omega
    have hk2 : k < hs.length := by simp at hk; omega
    have e1 : p.fns[k] = p.fns.getD k fn0 := by simp [hk1]
    have e2 : hs[k] = hs.getD k fn0 := by simp [hk2]
    have hm1 : p.fns.getD k fn0 ∈ p.fns := by rw [← e1]; exact List.getElem_mem hk1
    have hm2 : hs.getD k fn0 ∈ hs := by rw [← e2]; exact List.getElem_mem hk2
    have hfo := h.full k (by omega)
    have ho := hp.each _ hm1
    have hs := hp.small.2 _ hm1
    have h1 := h.codes _ hm2
    have h2 := h.hands _ hm2
    rw [List.getElem_zipWith, e1, e2]
    obtain ⟨_, _, _, q4, q5, q6, q7⟩ := hfo
    rw [q4, q5] at h1
    rw [q6, q7] at h2
    exact ⟨⟨rd_pre cV_len h1 (rdV_len ho.1), rd_pre cH_len h2 (rdH_len ho.2)⟩, hs.1, hs.2⟩
  exact ⟨rd_pre cC_len h.consts hcl, rd_pre cF_len hf hzl, fun f hf => (key f hf).1, ⟨hp.small.1, fun f hf => (key f hf).2⟩⟩
theorem enterG_lent {w : World} {p : Pg} {KA : Option Addr} {kc : Nat} {FA : Option Addr} {fc : Nat} {hs : List Fn} (h : LentOk w p KA kc FA fc hs) (hp : PgOk w p) (fn : Int) (m : Nat) (args : List V2) :
    enterG (fnAt (lentP p KA kc FA fc hs) fn) m = enterG (fnAt p fn) m ∧ enterD (fnAt (lentP p KA kc FA fc hs) fn) fn args = enterD (fnAt p fn) fn args := by
  have hfl : p.fns.length = p.fn := rd_len cF_len (by omega) hp.fns
  have hl := h.len
  unfold fnAt lentP
  by_cases hi : 0 ≤ fn ∧ fn < p.fn
  · simp only [if_pos hi]
    have e : (List.zipWith lentF p.fns hs).getD fn.toNat fn0 = lentF (p.fns.getD fn.toNat fn0) (hs.getD fn.toNat fn0) := by
      have h1 := getD_some p.fns fn0 fn.toNat (by omega)
      have h2 := getD_some hs fn0 fn.toNat (by omega)
      rw [List.getD_eq_getElem?_getD, List.getElem?_zipWith, h1, h2]
      rfl
    rw [e]
    exact ⟨rfl, rfl⟩
  · simp only [if_neg hi, and_self]
theorem enter_walk (w : World) (p : Pg) (hp : Fact (PgOk w p)) (hk : p.kn ≤ 1048576) (fn : Int) (A : Option Addr) (m c : Nat) (args : List V2) (hx : Fact (RdC w 2 (.slice A m c) (fV args))) (hm0 : m ≤ 1048576) :
    Calls Try.prog 3 #[vP p, .int .i64 fn, .slice A m c] w fun e w' => e = .returned (.bool true) ∧ Gr w w' := by
  have hal : Fact (args.length = m) := ⟨rdV_len hx.out⟩
  have hlent := fun (w1 : World) (hg : Gr w w1) => lentProgram_ok w1 p ⟨hp.out.gr hg⟩ hk
  have hkept := fun (w1 : World) (hg : Gr w w1) KA kc FA fc hs (hL : LentOk w1 p KA kc FA fc hs) => keptProgram_ok w1 p ⟨hp.out.gr hg⟩ hk KA kc FA fc hs ⟨hL⟩
  have href := fun (w1 : World) (hg : Gr w w1) => refEnter_ok w1 p ⟨hp.out.gr hg⟩ fn A m c args ⟨hx.out.gr hg⟩ (by omega)
  have hent := fun (w1 : World) (hg : Gr w w1) KA kc FA fc hs (hL : LentOk w1 p KA kc FA fc hs) B d (hr : RdC w1 2 (.slice B m d) (fV args)) => (enter_ok w1 (lentP p KA kc FA fc hs) ⟨hL.pg (hp.out.gr hg)⟩ fn B m d args ⟨hr⟩ (by omega))
  have hge := fun (w1 : World) (hg : Gr w w1) KA kc FA fc hs (hL : LentOk w1 p KA kc FA fc hs) => enterG_lent hL (hp.out.gr hg) fn m args
  have hEDl : (enterD (fnAt p fn) fn args).2.2.length ≤ 1048576 := by
    unfold enterD
    split
    · rename_i h
      unfold enterG at h
      split at h
      · cases h
      · rename_i g hg
        simp at h
        have := hal.out
        simp [hg]; omega
    · simp
  have hEDl := Fact.mk hEDl
  generalize enterD (fnAt p fn) fn args = ED at href hge hEDl
  generalize enterG (fnAt p fn) m = EG at href hge
  have hrw : ∀ (w1 : World) (hg : Gr w w1) KA kc FA fc hs (hL : LentOk w1 p KA kc FA fc hs) B d (hr : RdC w1 2 (.slice B m d) (fV args)), Calls Try.prog 16 #[vP (lentP p KA kc FA fc hs), .int .i64 fn, .slice B m d] w1 fun e w' => ∃ y : Fr, e = .returned (.tuple #[.agg (cR y).toArray, .bool EG]) ∧ y.data = ED ∧ New w1 w' (slot y) := fun w1 hg KA kc FA fc hs hL B d hr => by
    have h1 := hent w1 hg KA kc FA fc hs hL B d hr
    rw [(hge w1 hg KA kc FA fc hs hL).1, (hge w1 hg KA kc FA fc hs hL).2] at h1
    exact h1
  clear hent hge
  have hpk : p.kn ≤ 1048576 := hk
  obtain ⟨kA, kn, kc, consts, fA, n, fc, fns⟩ := p
  have hkept2 := Fact.mk hkept
  have hrw2 := Fact.mk hrw
  clear hkept hrw
  simp only [vP] at hlent href ⊢
  have hlent := Fact.mk hlent
  have href := Fact.mk href
  go_enter Try.func3, Try.ntmps3
  go_upto_region 1 with (fail)
  have hm := ((Mem.start w).alloc (.cells [.slice kA kn kc, .slice fA n fc].toArray 25))
  generalize hgX : w.heap.size = g at hm ⊢
  generalize hwX : (w.alloc (.cells [.slice kA kn kc, .slice fA n fc].toArray 25)) = w1 at hm
  try refine wp_world hwX ?_
  clear hwX hgX
  go_wp2_with (refine wp_rng rfl 25 _ rfl g 0 rfl [.slice kA kn kc, .slice fA n fc] (rng_blk hm m0) row_P szP ?_)
  refine (hlent.out w1 hm.below).mono ?_
  rintro e wb ⟨KA, kc', FA, fc', hs, rfl, hgb, hL⟩
  have hgw : Fact (Gr w wb) := ⟨Gr.trans hm.below hgb⟩
  have hL := Fact.mk hL
  have hmp := Fact.mk (hm.gr hgb)
  clear hm hgb
  simp only [vP, lentP]
  go_upto_region 2 with (refine wp_setrow rfl 25 _ _ rfl _ rfl 25 _ [.slice KA kn kc', .slice FA n fc'] rfl ((Mem.start wb).alloc _) szP rfl (svone _ _) ?_; intro w2 hm)
  generalize wb.heap.size = g7 at hm ⊢
  go_wp2_with fail
  refine (lentValues_ok w2 A m c args ⟨(hx.out.gr hgw.out).gr hm.below⟩ (by omega)).mono ?_
  rintro e w3 ⟨B, d, rfl, hn3⟩
  have hm3 := hm.new hn3
  clear hm hn3
  go_upto_region 3 with (fail)
  go_wp2_with (refine wp_rng rfl 25 _ rfl g 0 rfl [.slice kA kn kc, .slice fA n fc] (rng_blk (hmp.out.gr hm3.below) m0) row_P szP ?_)
  refine (href.out w3 (Gr.trans hgw.out hm3.below)).mono ?_
  rintro e w4 ⟨yR, rfl, hyR, hn4⟩
  have hm4 := hm3.new hn4
  clear hm3 hn4
  obtain ⟨R1, R2, R3, R4, R5, R6⟩ := yR
  simp only [cR]
  go_upto_region 4 with (refine wp_setrow rfl 30 _ _ rfl _ rfl 30 _ [.int .i64 R1, .int .i64 R2, .slice R3 R4 R5] rfl (hm4.alloc _) szR rfl (cR_one ⟨R1, R2, R3, R4, R5, R6⟩) ?_; intro w5 hm5)
  generalize w4.heap.size = g9 at hm5 ⊢
  have hcap := OwnAt.cap (hm5.ok _ m2)
  have hcap1 : m ≤ d := by omega
  have hyR := Fact.mk hyR
  have hlr : Fact (RdC w5 2 (.slice B m d) (fV args)) := ⟨rd_pre cV_len (hm5.rd m2) hal.out⟩
  clear hcap hm4
  have k1 := hm5.cell m3 0 rfl
  have k2 := hm5.cell m3 1 rfl
  have hgl := Fact.mk hm5.below
  go_cut [11, 12] (fun s1 s2 W => ∃ (g1 : Nat) (y : Fr), s1 = .pointer (some ⟨g1, 0, none⟩) ∧ s2 = .bool EG ∧ y.data = ED ∧ Mem wb W (Blk g1 (.cells (cR y).toArray 30) :: slot y :: Blk g9 (.cells [.int .i64 R1, .int .i64 R2, .slice R3 R4 R5].toArray 30) :: slot ⟨R1, R2, R3, R4, R5, R6⟩ :: Own 2 (.slice B (m + 64) d) (fV (args ++ marksV 64)) :: Blk g7 (.cells [.slice KA kn kc', .slice FA n fc'].toArray 25) :: []))
  case first =>
    go_region_held3 (fun W => Gr w5 W ∧ W.cell? ⟨g7, 0, none⟩ = some (.slice KA kn kc') ∧ W.cell? ⟨g7, 1, none⟩ = some (.slice FA n fc')) ((refine (fun hG => ⟨hG, hG.cell k1, hG.cell k2⟩ : Gr w5 _ → _) ?_; repeat (first | with_reducible exact Gr.refl _ | assumption | with_reducible refine Gr.setc ?_ (Nat.le_refl _) _ | with_reducible refine Gr.drew ?_ | with_reducible refine Gr.alloc ?_ _))) ((go_at_call 16; refine (hrw2.out _ (Gr.trans hgw.out (Gr.trans hgl.out (by repeat (first | with_reducible exact Gr.refl _ | assumption | with_reducible refine Gr.setc ?_ (Nat.le_refl _) _ | with_reducible refine Gr.drew ?_ | with_reducible refine Gr.alloc ?_ _)))) KA kc' FA fc' hs (hL.out.gr (Gr.trans hgl.out (by repeat (first | with_reducible exact Gr.refl _ | assumption | with_reducible refine Gr.setc ?_ (Nat.le_refl _) _ | with_reducible refine Gr.drew ?_ | with_reducible refine Gr.alloc ?_ _)))) B d (hlr.out.gr (by repeat (first | with_reducible exact Gr.refl _ | assumption | with_reducible refine Gr.setc ?_ (Nat.le_refl _) _ | with_reducible refine Gr.drew ?_ | with_reducible refine Gr.alloc ?_ _)))).mono ?_; rintro e wE ⟨⟨y1, y2, y3, y4, y5, y6⟩, rfl, hyd, hnw⟩; simp only [cR]; have hgr : Gr w5 wE := Gr.trans (by repeat (first | with_reducible exact Gr.refl _ | assumption | with_reducible refine Gr.setc ?_ (Nat.le_refl _) _ | with_reducible refine Gr.drew ?_ | with_reducible refine Gr.alloc ?_ _)) hnw.gr; (try (have hmB := hm5.drew.new hnw)); (try (have qh := hnw.gr.heap (k := w5.heap.size) (o := .cells [.int .i64 0, .int .i64 0, .slice none 0 0].toArray 30) (by first | exact heap_alloc_new w5 _ | exact heap_alloc_new w5.drew _); have hmA := ((((hm5.alloc (.cells [.int .i64 0, .int .i64 0, .slice none 0 0].toArray 30)).drew.new hnw).swap.set 0 (.int .i64 y1)).set 1 (.int .i64 y2)).set 2 (.slice y3 y4 y5); obtain ⟨q0, f0⟩ := blk_cell (u := .int .i64 0) qh 0 rfl; obtain ⟨q1, f1⟩ := blk_cell (u := .int .i64 0) qh 1 rfl; obtain ⟨q2, f2⟩ := blk_cell (u := .slice none 0 0) qh 2 rfl))))
    all_goals
      go_wp2
      try simp only [Act.put, List.getElem_toArray, List.getElem_cons_succ, List.getElem_cons_zero, List.setIfInBounds_toArray, List.set_cons_succ, List.set_cons_zero]
      go_meet
      case rel => first
        | exact ⟨_, ⟨y1, y2, y3, y4, y5, y6⟩, rfl, rfl, hyd, hmA⟩
        | exact ⟨_, ⟨y1, y2, y3, y4, y5, y6⟩, rfl, rfl, hyd, hmB.alloc _⟩
        | exact ⟨_, ⟨y1, y2, y3, y4, y5, y6⟩, rfl, rfl, hyd, hmA.drew⟩
        | exact ⟨_, ⟨y1, y2, y3, y4, y5, y6⟩, rfl, rfl, hyd, (hmB.alloc _).drew⟩
  case rest =>
    obtain ⟨g11, ⟨a1, a2, a3, a4, a5, a6⟩, rfl, rfl, hya, hm6⟩ := hcut
    clear hm5 k1 k2 hgl hlr
    have hya := Fact.mk hya
    obtain ⟨wd, rfl⟩ : ∃ wd : World, wd = wc := ⟨_, rfl⟩
    go_upto_region 5 with (fail)
    have hlr : Fact (RdC wd 2 (.slice B m d) (fV args)) := ⟨rd_pre cV_len (hm6.rd m4) hal.out⟩
    have k1 := hm6.cell m5 0 rfl
    have k2 := hm6.cell m5 1 rfl
    have hgl := Fact.mk hm6.below
    go_cut [13, 14] (fun s1 s2 W => ∃ (g1 : Nat) (y : Fr), s1 = .pointer (some ⟨g1, 0, none⟩) ∧ s2 = .bool EG ∧ y.data = ED ∧ Mem wb W (Blk g1 (.cells (cR y).toArray 30) :: slot y :: Blk g11 (.cells (cR ⟨a1, a2, a3, a4, a5, a6⟩).toArray 30) :: slot ⟨a1, a2, a3, a4, a5, a6⟩ :: Blk g9 (.cells [.int .i64 R1, .int .i64 R2, .slice R3 R4 R5].toArray 30) :: slot ⟨R1, R2, R3, R4, R5, R6⟩ :: Own 2 (.slice B (m + 64) d) (fV (args ++ marksV 64)) :: Blk g7 (.cells [.slice KA kn kc', .slice FA n fc'].toArray 25) :: []))
    case first =>
      go_region_held3 (fun W => Gr wd W ∧ W.cell? ⟨g7, 0, none⟩ = some (.slice KA kn kc') ∧ W.cell? ⟨g7, 1, none⟩ = some (.slice FA n fc')) ((refine (fun hG => ⟨hG, hG.cell k1, hG.cell k2⟩ : Gr wd _ → _) ?_; repeat (first | with_reducible exact Gr.refl _ | assumption | with_reducible refine Gr.setc ?_ (Nat.le_refl _) _ | with_reducible refine Gr.drew ?_ | with_reducible refine Gr.alloc ?_ _))) ((go_at_call 16; refine (hrw2.out _ (Gr.trans hgw.out (Gr.trans hgl.out (by repeat (first | with_reducible exact Gr.refl _ | assumption | with_reducible refine Gr.setc ?_ (Nat.le_refl _) _ | with_reducible refine Gr.drew ?_ | with_reducible refine Gr.alloc ?_ _)))) KA kc' FA fc' hs (hL.out.gr (Gr.trans hgl.out (by repeat (first | with_reducible exact Gr.refl _ | assumption | with_reducible refine Gr.setc ?_ (Nat.le_refl _) _ | with_reducible refine Gr.drew ?_ | with_reducible refine Gr.alloc ?_ _)))) B d (hlr.out.gr (by repeat (first | with_reducible exact Gr.refl _ | assumption | with_reducible refine Gr.setc ?_ (Nat.le_refl _) _ | with_reducible refine Gr.drew ?_ | with_reducible refine Gr.alloc ?_ _)))).mono ?_; rintro e wE ⟨⟨y1, y2, y3, y4, y5, y6⟩, rfl, hyd, hnw⟩; simp only [cR]; have hgr : Gr wd wE := Gr.trans (by repeat (first | with_reducible exact Gr.refl _ | assumption | with_reducible refine Gr.setc ?_ (Nat.le_refl _) _ | with_reducible refine Gr.drew ?_ | with_reducible refine Gr.alloc ?_ _)) hnw.gr; (try (have hmB := hm6.drew.new hnw)); (try (have qh := hnw.gr.heap (k := wd.heap.size) (o := .cells [.int .i64 0, .int .i64 0, .slice none 0 0].toArray 30) (by first | exact heap_alloc_new wd _ | exact heap_alloc_new wd.drew _); have hmA := ((((hm6.alloc (.cells [.int .i64 0, .int .i64 0, .slice none 0 0].toArray 30)).drew.new hnw).swap.set 0 (.int .i64 y1)).set 1 (.int .i64 y2)).set 2 (.slice y3 y4 y5); obtain ⟨q0, f0⟩ := blk_cell (u := .int .i64 0) qh 0 rfl; obtain ⟨q1, f1⟩ := blk_cell (u := .int .i64 0) qh 1 rfl; obtain ⟨q2, f2⟩ := blk_cell (u := .slice none 0 0) qh 2 rfl))))
      all_goals
        go_wp2
        try simp only [Act.put, List.getElem_toArray, List.getElem_cons_succ, List.getElem_cons_zero, List.setIfInBounds_toArray, List.set_cons_succ, List.set_cons_zero]
        go_meet
        case rel => first
          | exact ⟨_, ⟨y1, y2, y3, y4, y5, y6⟩, rfl, rfl, hyd, hmA⟩
          | exact ⟨_, ⟨y1, y2, y3, y4, y5, y6⟩, rfl, rfl, hyd, hmB.alloc _⟩
          | exact ⟨_, ⟨y1, y2, y3, y4, y5, y6⟩, rfl, rfl, hyd, hmA.drew⟩
          | exact ⟨_, ⟨y1, y2, y3, y4, y5, y6⟩, rfl, rfl, hyd, (hmB.alloc _).drew⟩
    case rest =>
      obtain ⟨g13, ⟨b1, b2, b3, b4, b5, b6⟩, rfl, rfl, hyb, hm7⟩ := hcut
      clear hm6 k1 k2 hgl hlr
      have hyb := Fact.mk hyb
      have lR : R6.length = R4 := rdV_len (hm7.ok _ m5).rd
      have la : a6.length = a4 := rdV_len (hm7.ok _ m3).rd
      have lb : b6.length = b4 := rdV_len (hm7.ok _ m1).rd
      have sR := Fact.mk (hm7.ok _ m5).rd
      have sa := Fact.mk (hm7.ok _ m3).rd
      have sb := Fact.mk (hm7.ok _ m1).rd
      obtain ⟨E1, E2, E3⟩ := ED
      have iR := hyR.out
      have ia := hya.out
      have ib := hyb.out
      have hE := hEDl.out
      simp only [Fr.data, Prod.mk.injEq] at iR ia ib hE
      obtain ⟨rfl, rfl, rfl⟩ := iR
      obtain ⟨rfl, rfl, rfl⟩ := ia
      obtain ⟨rfl, rfl, rfl⟩ := ib
      subst lR
      obtain rfl : b4 = b6.length := lb.symm
      obtain rfl : a4 = b6.length := la.symm
      have hm7 := Fact.mk hm7
      simp only [cR] at hm7
      clear hyR hya hyb la lb
      go_wp2_with (first | (refine wp_rng rfl 30 _ rfl g11 0 rfl [.int .i64 b1, .int .i64 b2, .slice a3 b6.length a5] (rng_blk hm7.out m2) row_R szR ?_) | (refine wp_rng rfl 30 _ rfl g9 0 rfl [.int .i64 b1, .int .i64 b2, .slice R3 b6.length R5] (rng_blk hm7.out m4) row_R szR ?_))
      refine (sameFrame_ok wc b1 b2 a3 R3 b6.length a5 R5 b6 sa sR (by omega)).mono ?_
      rintro e wf ⟨rfl, hgf⟩
      have hm8 := Fact.mk (hm7.out.gr hgf)
      go_wp2_with (first | (refine wp_rng rfl 30 _ rfl g13 0 rfl [.int .i64 b1, .int .i64 b2, .slice b3 b6.length b5] (rng_blk hm8.out m0) row_R szR ?_) | (refine wp_rng rfl 30 _ rfl g9 0 rfl [.int .i64 b1, .int .i64 b2, .slice R3 b6.length R5] (rng_blk hm8.out m4) row_R szR ?_))
      refine (sameFrame_ok wf b1 b2 b3 R3 b6.length b5 R5 b6 ⟨sb.out.gr hgf⟩ ⟨sR.out.gr hgf⟩ (by omega)).mono ?_
      rintro e wg ⟨rfl, hgg⟩
      have hm9 := Fact.mk (hm8.out.gr hgg)
      clear hgf hgg
      have hk9 := hkept2.out wg (Gr.trans hgw.out hm9.out.below) KA kc' FA fc' hs (hL.out.gr hm9.out.below)
      simp only [vP, lentP] at hk9
      have hk9 := Fact.mk hk9
      go_wp2_with (first | (refine wp_rng rfl 25 _ rfl g7 0 rfl [.slice KA kn kc', .slice FA n fc'] (rng_blk hm9.out (.tail _ m6)) row_P szP ?_) | (refine wp_rng rfl 25 _ rfl g 0 rfl [.slice kA kn kc, .slice fA n fc] (rng_blk (hmp.out.gr hm9.out.below) m0) row_P szP ?_))
      refine hk9.out.mono ?_
      rintro e wh ⟨rfl, hgh⟩
      have hm10 := Fact.mk (hm9.out.gr hgh)
      clear hgh hk9
      go_wp2_with fail
      refine (keptValues_ok wh B m d A c args ⟨hm10.out.rd m6⟩ ⟨(hx.out.gr hgw.out).gr hm10.out.below⟩ (by omega)).mono ?_
      rintro e wi ⟨rfl, hgi⟩
      have hm11 := hm10.out.gr hgi
      clear hgi
      have d1 := hm11.cell m2 2 rfl
      have d2 := hm11.cell m0 2 rfl
      go_upto_region 10 with (fail)
      go_wp2_with fail
      have hA1 := ((hm11.alloc (.cells [.slice a3 b6.length a5, .slice b3 b6.length b5].toArray 26)).sel 9 [0, 4, 2, 7, 1, 3, 5, 6, 8] (by decide))
      have hA2 := Mem.blk_own (n := 2) (size := 1) hA1 rfl (by simp [maxLen]) (svs_one [⟨b1, b2, a3, b6.length, a5, b6⟩, ⟨b1, b2, b3, b6.length, b5, b6⟩])
      have hA3 := hA2.sel 3 [1, 2, 0] (by decide)
      refine (apartValues_ok wb _ (some ⟨wi.heap.size, 0, none⟩) 2 2 1048576 [⟨b1, b2, a3, b6.length, a5, b6⟩, ⟨b1, b2, b3, b6.length, b5, b6⟩] _ hA3 ⟨rfl⟩ ⟨fun y hy => by simp at hy; rcases hy with rfl | rfl <;> exact hE⟩ (by omega) (by omega)).mono ?_
      rintro e wj ⟨rfl, hm12⟩
      clear hA1 hA2 hA3 hm11 d1 d2
      go_wp2_with fail
      refine (keptValues_ok wj B m d A c args ⟨hm12.rd m0⟩ ⟨(hx.out.gr hgw.out).gr hm12.below⟩ (by omega)).mono ?_
      rintro e wk ⟨rfl, hgk⟩
      have hfin := Gr.trans hgw.out (Gr.trans hm12.below hgk)
      go_wp2
      go_ret
      exact ⟨rfl, hfin⟩
theorem framesEnter_ok (H : Type) (enc : TypeId × Value → H) (W : World) (base : Nat)
    (v0 : Value) (d0 : DataW H) (p0 : List MemPlace) (h0 : DataW.Trod enc Try.prog W 0 (fun _ => true) true 25 v0 d0 p0) (ok0 : Value.okWide Try.prog W .any base 25 v0)
    (v1 : Value) (d1 : DataW H) (p1 : List MemPlace) (h1 : DataW.Trod enc Try.prog W 0 (fun _ => true) true 3 v1 d1 p1) (ok1 : Value.okWide Try.prog W .any base 3 v1)
    (v2 : Value) (d2 : DataW H) (p2 : List MemPlace) (h2 : DataW.Trod enc Try.prog W 0 (fun _ => true) true 26 v2 d2 p2) (ok2 : Value.okWide Try.prog W .any base 26 v2) (hk : Rows.uptoSmall H ([d0, d1, d2] ++ []) = true) :
    Calls Try.prog 3 #[v0, v1, v2] W fun e w' => e = .returned (.bool true) ∧ Gr W w' := by
  have hb := bulk_small hk
  simp only [Rows.uptoBulkAll, List.cons_append, List.nil_append] at hb
  obtain ⟨p, rfl, hp, hkn⟩ := open_prog h0 ok0 (by omega)
  obtain ⟨fn, rfl⟩ : ∃ k, v1 = .int .i64 k := okWide_int ty_int ok1
  obtain ⟨A, n, c, xs, rfl, hx, hl⟩ := open_vals h2 ok2
  exact enter_walk W p ⟨hp⟩ hkn fn A n c xs ⟨hx⟩ (by omega)
end Go.Proofs.Ytgflfpepfpekhaa
