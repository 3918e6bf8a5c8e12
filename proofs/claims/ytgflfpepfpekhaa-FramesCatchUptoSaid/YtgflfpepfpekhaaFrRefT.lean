/- The document's Takes (portageref14): the handler that takes what is thrown in a frame. -/
import Derived.Test.YtgflfpepfpekhaaFrRefE
import Derived.Test.YtgflfpepfpekhaaFrTakes
import Derived.Test.YtgflfpepfpekhaaFrLentW
namespace Go.Proofs.Ytgflfpepfpekhaa
open Go.RowKit Go.Mm
set_option maxHeartbeats 1000000
set_option maxRecDepth 100000
set_option linter.unusedSimpArgs false
def hitR (pc locals : Int) (m : Nat) (h : H4) : Bool := decide (h.1 ≤ pc) && decide (pc < h.2.1) && decide (0 ≤ h.2.2.2) && decide (0 ≤ locals) && decide (h.2.2.2 ≤ (m : Int)) && decide (locals ≤ (m : Int) - h.2.2.2)
theorem takesG_ref (g : Fn) (pc : Int) (m : Nat) : takesG (some g) pc m = (g.hands.find? (hitR pc g.locals m)).map fun h => (h.2.2.1, (g.locals + h.2.2.2).toNat) := by
  unfold takesG
  by_cases hl : 0 ≤ g.locals ∧ g.locals ≤ m
  · simp only [if_pos hl]
    congr 2
    funext h
    unfold hit hitR
    rw [Bool.eq_iff_iff]
    simp only [Bool.and_eq_true, decide_eq_true_eq]
    omega
  · simp only [if_neg hl]
    have : g.hands.find? (hitR pc g.locals m) = none := by
      rw [List.find?_eq_none]
      intro h _
      unfold hitR
      simp only [Bool.and_eq_true, decide_eq_true_eq]
      omega
    rw [this]
    rfl
/-- The answer: the handler's number, or -1. -/
def TakesI (G : Option Fn) (pc : Int) (m : Nat) (e : Ending) : Prop :=
  match takesG G pc m with
  | none => e = .returned (.int .i64 (-1))
  | some (t, st) => ∃ (k : Nat) (g : Fn), e = .returned (.int .i64 (k : Int)) ∧ G = some g ∧ k < g.hn ∧ (g.hands.getD k (0, 0, 0, 0)).2.2.1 = t ∧ g.locals + (g.hands.getD k (0, 0, 0, 0)).2.2.2 = (st : Int) ∧ st ≤ m
theorem takesI_none {g : Fn} {pc : Int} {m : Nat} (h : g.hands.find? (hitR pc g.locals m) = none) : TakesI (some g) pc m (.returned (.int .i64 (-1))) := by
  unfold TakesI
  rw [takesG_ref, h]
  rfl
theorem takesI_some {g : Fn} {pc : Int} {m k : Nat} (hk : k < g.hn) (h : g.hands.find? (hitR pc g.locals m) = some (g.hands.getD k (0, 0, 0, 0))) (h1 : 0 ≤ g.locals + (g.hands.getD k (0, 0, 0, 0)).2.2.2) (h2 : g.locals + (g.hands.getD k (0, 0, 0, 0)).2.2.2 ≤ m) : TakesI (some g) pc m (.returned (.int .i64 (k : Int))) := by
  unfold TakesI
  rw [takesG_ref, h]
  exact ⟨k, g, rfl, rfl, hk, rfl, (Int.toNat_of_nonneg h1).symm, by omega⟩
theorem refTakes_ok (w : World) (p : Pg) (hp : Fact (PgOk w p)) (f : Fr) (hn : f.n ≤ 2000000) :
    Calls Try.prog 84 #[vP p, .agg (cR f).toArray] w fun e w' => TakesI (fnAt p f.fn) f.pc f.n e ∧ Gr w w' := by
  have hf := fun (w1 : World) (hg : Gr w w1) => refFunction_ok w1 p ⟨hp.out.gr hg⟩ f.fn
  have hfa : Fact (∀ g, fnAt p f.fn = some g → ∃ b o k, f.fn = ((k : Nat) : Int) ∧ p.fA = some ⟨b, o, none⟩ ∧ w.rangeAt b (o + k * 5) (cF g) ∧ k < p.fn ∧ FnOk w g ∧ g.hn ≤ 1048576) := ⟨fun g h => by
    unfold fnAt at h
    split at h
    · rename_i hi
      cases h
      have hl : p.fns.length = p.fn := rd_len cF_len (by omega) hp.out.fns
      have hm : p.fns.getD f.fn.toNat fn0 ∈ p.fns := List.mem_of_getElem? (getD_some p.fns fn0 f.fn.toNat (by omega))
      obtain ⟨b, o, eA, hr, _, _⟩ := rd_at cF_len (by omega) fn0 hp.out.fns f.fn.toNat (by omega)
      exact ⟨b, o, f.fn.toNat, by omega, eA, hr, by omega, hp.out.each _ hm, (hp.out.small.2 _ hm).1⟩
    · cases h⟩
  generalize fnAt p f.fn = G at hf hfa ⊢
  obtain ⟨kA, kn, kc, consts, fA, fnn, fc, fns⟩ := p
  obtain ⟨fnum, pc, sA, n, sc, sl⟩ := f
  simp only [vP, cR] at hf hn hfa ⊢
  go_enter Try.func84, Try.ntmps84
  go_upto_region 1 with (fail)
  have hm := (((Mem.start w).alloc (.cells [.slice kA kn kc, .slice fA fnn fc].toArray 25)).alloc (.cells [.int .i64 fnum, .int .i64 pc, .slice sA n sc].toArray 30))
  simp only [World.size_alloc] at hm
  generalize hgX : w.heap.size = g at hm ⊢
  generalize hwX : ((w.alloc (.cells [.slice kA kn kc, .slice fA fnn fc].toArray 25)).alloc (.cells [.int .i64 fnum, .int .i64 pc, .slice sA n sc].toArray 30)) = w1 at hm
  try refine wp_world hwX ?_
  clear hwX hgX
  have c3 := hm.cell m0 0 rfl
  go_wp2_with (refine wp_rng rfl 25 _ rfl g 0 rfl [.slice kA kn kc, .slice fA fnn fc] (rng_blk hm m1) row_P szP ?_)
  refine (hf w1 hm.below).mono ?_
  rintro e w2 ⟨rfl, hg2⟩
  have hm2 := hm.gr hg2
  clear hm c3 hg2 hf
  cases G with
  | none =>
    have hfin := Fact.mk hm2.below
    simp only [Option.isSome_none]
    go_wp2
    go_ret
    exact ⟨rfl, hfin.out⟩
  | some G =>
    obtain ⟨b, o, j, rfl, e, r1, hkf, hG, hGn⟩ := hfa.out G rfl
    try dsimp only at e hkf
    subst e
    clear hfa
    have r1 := rng_gr r1 hm2.below
    have hlen := Fact.mk (rdH_len hG.2)
    have hr := Fact.mk hG.2
    simp only [Option.isSome_some]
    clear hG
    obtain ⟨name, params, locals, cA, cn, cc, code, hA, hhn, hhc, hands⟩ := G
    simp only [cF] at hGn hr hlen r1
    have c1 := hm2.cell m1 1 rfl
    have c3 := hm2.cell m0 0 rfl
    go_upto_region 4 with (first | (refine wp_rng rfl 87 _ rfl b _ rfl [.string name, .int .i64 params, .int .i64 locals, .slice cA cn cc, .slice hA hhn hhc] r1 row_F szF ?_) | (refine wp_setrow rfl 87 _ _ rfl _ rfl 87 _ [.string name, .int .i64 params, .int .i64 locals, .slice cA cn cc, .slice hA hhn hhc] rfl (hm2.alloc _) szF rfl (cF_one ⟨name, params, locals, cA, cn, cc, code, hA, hhn, hhc, hands⟩) ?_; intro w3 hm3))
    generalize w2.heap.size = gF at hm3 ⊢
    clear c1 c3 r1 hm2
    go_wp2
    go_loopw [6] (fun v w' => ∃ (k : Nat), v = .int .i64 k ∧ k ≤ hhn ∧ (∀ j, j < k → hitR pc locals n (hands.getD j (0, 0, 0, 0)) = false) ∧ Mem w w' [Blk gF (.cells [.string name, .int .i64 params, .int .i64 locals, .slice cA cn cc, .slice hA hhn hhc].toArray 87), Blk (g + 1) (.cells [.int .i64 (j : Int), .int .i64 pc, .slice sA n sc].toArray 30)]) (fun v _ => hhn - (intOf v).toNat)
    case atStart => exact ⟨0, rfl, by omega, fun j hj => by omega, hm3.sub (.cons_cons _ (.cons_cons _ (List.nil_sublist _)))⟩
    case round =>
      clear hm3
      obtain ⟨k, rfl, hk, hno, hm⟩ := hrel
      have hno := Fact.mk hno
      have q4 := hm.cell m0 4 rfl
      by_cases hlt : k < hhn
      · obtain ⟨b, o, rfl, r1, _, _⟩ := rd_at cH_len (by omega) (0, 0, 0, 0) hr.out k hlt
        have r1 := rng_gr r1 hm.below
        have hxe : ∃ x, Fact (hands.getD k (0, 0, 0, 0) = x) := ⟨_, ⟨rfl⟩⟩
        obtain ⟨x, hxe⟩ := hxe
        rw [hxe.out] at r1
        go_upto_region 8 with (first | (refine wp_rng rfl 145 _ rfl b _ rfl (cH x) r1 row_Hh szHh ?_) | (refine wp_setrow rfl 145 _ _ rfl _ rfl 145 _ (cH x) rfl (hm.alloc _) szHh rfl (cH_one _) ?_; intro w4 hm4))
        generalize wr.heap.size = g9 at hm4 ⊢
        have c1 := hm4.cell m0 0 rfl
        have c2 := hm4.cell m0 1 rfl
        have c4 := hm4.cell m0 3 rfl
        have c5 := hm4.cell m2 1 rfl
        have c6 := hm4.cell m2 2 rfl
        have c7 := hm4.cell m1 2 rfl
        obtain ⟨x1, x2, x3, x4⟩ := x
        have hxb : Fact (hitR pc locals n (x1, x2, x3, x4) = (decide (x1 ≤ pc) && decide (pc < x2) && decide (0 ≤ x4) && decide (0 ≤ locals) && decide (x4 ≤ (n : Int)) && decide (locals ≤ (n : Int) - x4))) := ⟨rfl⟩
        dsimp only at c1 c2 c4
        have hnext : Fact (hitR pc locals n (x1, x2, x3, x4) = false → ∀ j, j < k + 1 → hitR pc locals n (hands.getD j (0, 0, 0, 0)) = false) := ⟨fun h j hj => by
          rcases Nat.lt_succ_iff_lt_or_eq.1 hj with hj | rfl
          · exact hno.out j hj
          · rw [hxe.out]; exact h⟩
        have hm5 := Fact.mk hm4.tail
        clear r1 q4
        by_cases hA1 : x1 ≤ pc
        · by_cases hA2 : pc < x2
          · by_cases hA3 : 0 ≤ x4
            · by_cases hA4 : 0 ≤ locals
              · by_cases hA5 : x4 ≤ (n : Int)
                · have e1 : IntKind.i64.wrap ((n : Int) - x4) = n - x4 := IntWalk.i64_in _ (by omega)
                  by_cases hA6 : locals ≤ (n : Int) - x4
                  · have hy : hitR pc locals n (hands.getD k (0, 0, 0, 0)) = true := by rw [hxe.out, hxb.out]; simp [hA1, hA2, hA3, hA4, hA5, hA6]
                    have hfn := Fact.mk (find_at (hitR pc locals n) (0, 0, 0, 0) hands k (by have := hlen.out; omega) hno.out hy)
                    have hfin := takesI_some (g := ⟨name, params, locals, cA, cn, cc, code, (some ⟨b, o, none⟩), hhn, hhc, hands⟩) (pc := pc) (m := n) hlt hfn.out (by rw [hxe.out]; show 0 ≤ locals + x4; omega) (by rw [hxe.out]; show locals + x4 ≤ n; omega)
                    have hfin := Fact.mk (And.intro hfin hm5.out.below)
                    clear hy hfn hm4
                    go_wp2
                    go_ret
                    exact hfin.out
                  · go_wp2
                    go_roundw
                    case rel => exact ⟨k + 1, by go_num, by omega, hnext.out (by rw [hxb.out]; simp [hA6]), hm5.out⟩
                    case measure => simp [intOf]; omega
                · go_wp2
                  go_roundw
                  case rel => exact ⟨k + 1, by go_num, by omega, hnext.out (by rw [hxb.out]; simp [hA5]), hm5.out⟩
                  case measure => simp [intOf]; omega
              · go_wp2
                go_roundw
                case rel => exact ⟨k + 1, by go_num, by omega, hnext.out (by rw [hxb.out]; simp [hA4]), hm5.out⟩
                case measure => simp [intOf]; omega
            · go_wp2
              go_roundw
              case rel => exact ⟨k + 1, by go_num, by omega, hnext.out (by rw [hxb.out]; simp [hA3]), hm5.out⟩
              case measure => simp [intOf]; omega
          · go_wp2
            go_roundw
            case rel => exact ⟨k + 1, by go_num, by omega, hnext.out (by rw [hxb.out]; simp [hA2]), hm5.out⟩
            case measure => simp [intOf]; omega
        · go_wp2
          go_roundw
          case rel => exact ⟨k + 1, by go_num, by omega, hnext.out (by rw [hxb.out]; simp [hA1]), hm5.out⟩
          case measure => simp [intOf]; omega
      · obtain rfl : k = hhn := by omega
        have hfn : Fact (hands.find? (hitR pc locals n) = none) := ⟨find_no _ (0, 0, 0, 0) hands (fun i hi => hno.out i (by have := hlen.out; omega))⟩
        have hfin := Fact.mk (And.intro (takesI_none (g := ⟨name, params, locals, cA, cn, cc, code, hA, k, hhc, hands⟩) (pc := pc) (m := n) hfn.out) hm.below)
        clear hfn
        go_wp2
        go_ret
        exact hfin.out
end Go.Proofs.Ytgflfpepfpekhaa
