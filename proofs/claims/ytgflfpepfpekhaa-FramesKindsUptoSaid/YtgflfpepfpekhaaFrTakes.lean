import Derived.Test.YtgflfpepfpekhaaFrFun
namespace Go.Proofs.Ytgflfpepfpekhaa
open Go.RowKit Go.Mm
set_option maxHeartbeats 1000000
set_option maxRecDepth 100000
/-- Does a handler take what is thrown at pc, m slots lying there? -/
def hit (pc locals : Int) (m : Nat) (h : H4) : Bool := decide (h.1 ≤ pc) && decide (pc < h.2.1) && decide (0 ≤ h.2.2.2) && decide (h.2.2.2 ≤ (m : Int) - locals)
def takesG (G : Option Fn) (pc : Int) (m : Nat) : Option (Int × Nat) :=
  match G with
  | none => none
  | some g => if 0 ≤ g.locals ∧ g.locals ≤ m then (g.hands.find? (hit pc g.locals m)).map fun h => (h.2.2.1, (g.locals + h.2.2.2).toNat) else none
def TakesR (r : Option (Int × Nat)) (m : Nat) (e : Ending) : Prop :=
  match r with
  | none => ∃ h : H4, e = .returned (.tuple #[.agg (cH h).toArray, .int .i64 0, .bool false])
  | some (t, st) => ∃ h : H4, h.2.2.1 = t ∧ e = .returned (.tuple #[.agg (cH h).toArray, .int .i64 st, .bool true]) ∧ st ≤ m
def h0 : H4 := (0, 0, 0, 0)
theorem find_no {α : Type} (q : α → Bool) (d : α) : ∀ (l : List α), (∀ i, i < l.length → q (l.getD i d) = false) → l.find? q = none := fun l h => by
  rw [List.find?_eq_none]
  intro x hx
  obtain ⟨i, hi, rfl⟩ := List.getElem_of_mem hx
  have := h i hi
  simp [List.getD_eq_getElem?_getD, List.getElem?_eq_getElem hi] at this
  simp [this]
theorem find_at {α : Type} (q : α → Bool) (d : α) (l : List α) (k : Nat) (hk : k < l.length) (h : ∀ i, i < k → q (l.getD i d) = false) (hq : q (l.getD k d) = true) : l.find? q = some (l.getD k d) := by
  have e : l = l.take k ++ l.getD k d :: l.drop (k + 1) := by
    have : l.getD k d = l[k] := by simp [hk]
    rw [this]; simp
  have hn : (l.take k).find? q = none := find_no q d _ (fun i hi => by
    rw [List.length_take] at hi
    have := h i (by omega)
    rw [List.getD_eq_getElem?_getD, List.getElem?_take_of_lt (by omega), ← List.getD_eq_getElem?_getD]
    exact this)
  conv => lhs; rw [e]
  rw [List.find?_append, hn, Option.none_or, List.find?_cons, hq]
theorem takes_ok (w : World) (p : Pg) (hp : Fact (PgOk w p)) (f : Fr) (hn : f.n ≤ 2000000) :
    Calls Try.prog 85 #[vP p, .agg (cR f).toArray] w fun e w' => TakesR (takesG (fnAt p f.fn) f.pc f.n) f.n e ∧ Gr w w' := by
  have hf := fun (w1 : World) (hg : Gr w w1) => function_ok w1 p ⟨hp.out.gr hg⟩ f.fn
  have hfm : ∀ g, fnAt p f.fn = some g → FnOk w g ∧ g.hn ≤ 1048576 := fun g hg => by
    unfold fnAt at hg
    split at hg
    · rename_i hi
      cases hg
      have hl : p.fns.length = p.fn := rd_len cF_len (by omega) hp.out.fns
      have hm : p.fns.getD f.fn.toNat fn0 ∈ p.fns := List.mem_of_getElem? (getD_some p.fns fn0 f.fn.toNat (by omega))
      exact ⟨hp.out.each _ hm, (hp.out.small.2 _ hm).1⟩
    · cases hg
  generalize fnAt p f.fn = G at hf hfm ⊢
  obtain ⟨kA, kn, kc, consts, fA, fnn, fc, fns⟩ := p
  obtain ⟨fnum, pc, sA, n, sc, sl⟩ := f
  simp only [vP, cR] at hf hn hfm ⊢
  go_enter Try.func85, Try.ntmps85
  go_upto_region 1 with (fail)
  have hm := ((((Mem.start w).alloc (.cells [.slice kA kn kc, .slice fA fnn fc].toArray 25)).alloc (.cells [.int .i64 fnum, .int .i64 pc, .slice sA n sc].toArray 30)).alloc (.cells (cH h0).toArray 145))
  simp only [World.size_alloc] at hm
  generalize hgX : w.heap.size = g at hm ⊢
  generalize hwX : (((w.alloc (.cells [.slice kA kn kc, .slice fA fnn fc].toArray 25)).alloc (.cells [.int .i64 fnum, .int .i64 pc, .slice sA n sc].toArray 30)).alloc (.cells (cH h0).toArray 145)) = w1 at hm
  try refine wp_world hwX ?_
  clear hwX hgX
  have c1 := hm.cell m2 0 rfl
  have c2 := hm.cell m2 1 rfl
  have c3 := hm.cell m1 0 rfl
  go_wp2_with fail
  refine (hf w1 hm.below).mono ?_
  rintro e w2 ⟨rfl, hg2⟩
  have hm2 := hm.gr hg2
  clear hm c1 c2 c3 hg2 hf
  cases G with
  | none =>
    go_upto_region 2 with (refine wp_setrow rfl 87 _ _ rfl _ rfl 87 _ (cF fn0) rfl (hm2.alloc _) szF rfl (cF_one _) ?_; intro w3 hm3)
    go_wp2_with (first | (refine wp_rng rfl 145 _ rfl (g + 2) _ rfl (cH h0) (rng_blk hm3 m1) row_Hh szHh ?_) | (refine wp_setrow rfl 145 _ _ rfl (g + 2) rfl 145 _ (cH h0) rfl hm3.swap szHh rfl (cH_one _) ?_; intro w4 hm4))
    refine bodyPost_ret (res_cell_tmp2 rfl _ (g + 2) 145 (cH h0) (0, 0) rfl hm4 m0 row_Hh szHh) rfl ⟨⟨h0, rfl⟩, hm4.below⟩
  | some G =>
    obtain ⟨hG, hGn⟩ := hfm G rfl
    have hgd : Fact ((some G).getD fn0 = G) := ⟨rfl⟩
    have hgs : (some G).isSome = true := rfl
    rw [hgs, hgd.out]
    clear hgs hgd hfm
    have hlen := Fact.mk (rdH_len hG.2)
    by_cases hl : 0 ≤ G.locals ∧ G.locals ≤ n
    · have hr := Fact.mk hG.2
      have htk : Fact (takesG (some G) pc n = (G.hands.find? (hit pc G.locals n)).map fun h => (h.2.2.1, (G.locals + h.2.2.2).toNat)) := ⟨by unfold takesG; exact if_pos hl⟩
      obtain ⟨name, params, locals, cA, cn, cc, code, hA, hhn, hhc, hands⟩ := G
      simp only [cF] at hl hGn hr hlen htk ⊢
      clear hG
      obtain ⟨L, rfl⟩ : ∃ L : Nat, locals = (L : Int) := ⟨locals.toNat, by omega⟩
      have hl1 : ((L : Int) < 0) = False := by simp
      have hl2 : ((L : Int) > (n : Int)) = False := by simp; omega
      have hLn : L ≤ n := by omega
      clear hl
      go_upto_region 2 with (refine wp_setrow rfl 87 _ _ rfl _ rfl 87 _ [.string name, .int .i64 params, .int .i64 L, .slice cA cn cc, .slice hA hhn hhc] rfl (hm2.alloc _) szF rfl (cF_one ⟨name, params, L, cA, cn, cc, code, hA, hhn, hhc, hands⟩) ?_; intro w3 hm3)
      generalize w2.heap.size = gF at hm3 ⊢
      have c1 := hm3.cell m0 2 rfl
      have c2 := hm3.cell m2 2 rfl
      have c3 := hm3.cell m0 4 rfl
      go_wp2
      clear c1 c2 c3
      have hm4 : Mem w w3 [Blk gF (.cells [.string name, .int .i64 params, .int .i64 L, .slice cA cn cc, .slice hA hhn hhc].toArray 87), Blk (g + 1 + 1) (.cells (cH h0).toArray 145), Blk (g + 1) (.cells [.int .i64 fnum, .int .i64 pc, .slice sA n sc].toArray 30)] := hm3.sub (by simp)
      clear hm3 hm2
      go_loopw [36] (fun v w' => ∃ (k : Nat), v = .int .i64 k ∧ k ≤ hhn ∧ (∀ j, j < k → hit pc L n (hands.getD j (0, 0, 0, 0)) = false) ∧ Mem w w' [Blk gF (.cells [.string name, .int .i64 params, .int .i64 L, .slice cA cn cc, .slice hA hhn hhc].toArray 87), Blk (g + 1 + 1) (.cells (cH h0).toArray 145), Blk (g + 1) (.cells [.int .i64 fnum, .int .i64 pc, .slice sA n sc].toArray 30)]) (fun v _ => hhn - (intOf v).toNat)
      case atStart => exact ⟨0, rfl, by omega, fun j hj => by omega, hm4⟩
      case round =>
        clear hm4
        obtain ⟨k, rfl, hk, hno, hm⟩ := hrel
        have hno := Fact.mk hno
        by_cases hlt : k < hhn
        · obtain ⟨b, o, rfl, r1, _, _⟩ := rd_at cH_len (by omega) (0, 0, 0, 0) hr.out k hlt
          have r1 := rng_gr r1 hm.below
          have hxe : ∃ x, Fact (hands.getD k (0, 0, 0, 0) = x) := ⟨_, ⟨rfl⟩⟩
          obtain ⟨x, hxe⟩ := hxe
          rw [hxe.out] at r1
          go_upto_region 7 with (first | (refine wp_rng rfl 145 _ rfl b _ rfl (cH x) r1 row_Hh szHh ?_) | (refine wp_setrow rfl 145 _ _ rfl _ rfl 145 _ (cH x) rfl (hm.alloc _) szHh rfl (cH_one _) ?_; intro w4 hm4))
          generalize wr.heap.size = g9 at hm4 ⊢
          have c1 := hm4.cell m0 0 rfl
          have c2 := hm4.cell m0 1 rfl
          have c3 := hm4.cell m0 2 rfl
          have c4 := hm4.cell m0 3 rfl
          have c5 := hm4.cell m3 1 rfl
          have c6 := hm4.cell m3 2 rfl
          have c7 := hm4.cell m1 2 rfl
          obtain ⟨x1, x2, x3, x4⟩ := x
          have hxb : Fact (hit pc L n (x1, x2, x3, x4) = (decide (x1 ≤ pc) && decide (pc < x2) && decide (0 ≤ x4) && decide (x4 ≤ (n : Int) - L))) := ⟨rfl⟩
          have e1 : IntKind.i64.wrap ((n : Int) - L) = n - L := IntWalk.i64_in _ (by omega)
          dsimp only at c1 c2 c3 c4
          clear r1
          by_cases hA1 : x1 ≤ pc
          · by_cases hA2 : pc < x2
            · by_cases hA3 : 0 ≤ x4
              · by_cases hA4 : x4 ≤ (n : Int) - L
                · have hy : hit pc L n (hands.getD k (0, 0, 0, 0)) = true := by rw [hxe.out, hxb.out]; simp [hA1, hA2, hA3, hA4]
                  have hfn := Fact.mk (find_at (hit pc L n) (0, 0, 0, 0) hands k (by have := hlen.out; omega) hno.out hy)
                  go_upto_region 8 with (fail)
                  have n1 := hm4.ne (m1 (b := Blk gF _))
                  have n2 := hm4.tail.ne m0
                  have f0 := hm4.free m2 0
                  have f1 := hm4.free m2 1
                  have f2 := hm4.free m2 2
                  have f3 := hm4.free m2 3
                  have d0 := hm4.cell m2 0 rfl
                  have d1 := hm4.cell m2 1 rfl
                  have d2 := hm4.cell m2 2 rfl
                  have d3 := hm4.cell m2 3 rfl
                  have e2 : IntKind.i64.wrap ((L : Int) + x4) = L + x4 := IntWalk.i64_in _ (by omega)
                  have hm5 := (((hm4.pull2.set 0 (.int .i64 x1)).set 1 (.int .i64 x2)).set 2 (.int .i64 x3)).set 3 (.int .i64 x4)
                  have hm6 := hm5.drew
                  simp only [cH, h0, List.set_cons_zero, List.set_cons_succ] at hm6
                  clear hm5
                  go_region
                  go_wp2
                  refine bodyPost_ret (res_cell_tmp2 rfl _ (g + 2) 145 (cH (x1, x2, x3, x4)) (0, 0) rfl hm6 m0 row_Hh szHh) rfl ⟨?_, hm6.below⟩
                  rw [htk.out, hfn.out, hxe.out]
                  exact ⟨(x1, x2, x3, x4), rfl, by rw [show (((L : Int) + x4).toNat : Int) = L + x4 from Int.toNat_of_nonneg (by omega)]; rfl, by show ((L : Int) + x4).toNat ≤ n; omega⟩
                · go_wp2
                  go_roundw
                  case rel => exact ⟨k + 1, by go_num, by omega, fun j hj => by
                    rcases Nat.lt_succ_iff_lt_or_eq.1 hj with hj | rfl
                    · exact hno.out j hj
                    · rw [hxe.out, hxb.out]; simp [hA4], hm4.tail⟩
                  case measure => simp [intOf]; omega
              · go_wp2
                go_roundw
                case rel => exact ⟨k + 1, by go_num, by omega, fun j hj => by
                  rcases Nat.lt_succ_iff_lt_or_eq.1 hj with hj | rfl
                  · exact hno.out j hj
                  · rw [hxe.out, hxb.out]; simp [hA3], hm4.tail⟩
                case measure => simp [intOf]; omega
            · go_wp2
              go_roundw
              case rel => exact ⟨k + 1, by go_num, by omega, fun j hj => by
                rcases Nat.lt_succ_iff_lt_or_eq.1 hj with hj | rfl
                · exact hno.out j hj
                · rw [hxe.out, hxb.out]; simp [hA2], hm4.tail⟩
              case measure => simp [intOf]; omega
          · go_wp2
            go_roundw
            case rel => exact ⟨k + 1, by go_num, by omega, fun j hj => by
              rcases Nat.lt_succ_iff_lt_or_eq.1 hj with hj | rfl
              · exact hno.out j hj
              · rw [hxe.out, hxb.out]; simp [hA1], hm4.tail⟩
            case measure => simp [intOf]; omega
        · obtain rfl : k = hhn := by omega
          have hfn : Fact (hands.find? (hit pc L n) = none) := ⟨find_no _ (0, 0, 0, 0) hands (fun i hi => hno.out i (by have := hlen.out; omega))⟩
          go_wp2_with (first | (refine wp_rng rfl 145 _ rfl (g + 2) _ rfl (cH h0) (rng_blk hm m1) row_Hh szHh ?_) | (refine wp_setrow rfl 145 _ _ rfl (g + 2) rfl 145 _ (cH h0) rfl hm.swap szHh rfl (cH_one _) ?_; intro w4 hm4))
          refine bodyPost_ret (res_cell_tmp2 rfl _ (g + 2) 145 (cH h0) (0, 0) rfl hm4 m0 row_Hh szHh) rfl ⟨by rw [htk.out, hfn.out]; exact ⟨h0, rfl⟩, hm4.below⟩
    · have htk : Fact (takesG (some G) pc n = none) := ⟨by unfold takesG; exact if_neg hl⟩
      obtain ⟨name, params, locals, cA, cn, cc, code, hA, hhn, hhc, hands⟩ := G
      simp only [cF] at hl ⊢
      clear hG hlen hGn
      go_upto_region 2 with (refine wp_setrow rfl 87 _ _ rfl _ rfl 87 _ [.string name, .int .i64 params, .int .i64 locals, .slice cA cn cc, .slice hA hhn hhc] rfl (hm2.alloc _) szF rfl (cF_one ⟨name, params, locals, cA, cn, cc, code, hA, hhn, hhc, hands⟩) ?_; intro w3 hm3)
      generalize w2.heap.size = gF at hm3 ⊢
      have c1 := hm3.cell m0 2 rfl
      have c2 := hm3.cell m2 2 rfl
      by_cases h0l : locals < 0
      · go_wp2_with (first | (refine wp_rng rfl 145 _ rfl (g + 2) _ rfl (cH h0) (rng_blk hm3 m1) row_Hh szHh ?_) | (refine wp_setrow rfl 145 _ _ rfl (g + 2) rfl 145 _ (cH h0) rfl hm3.swap szHh rfl (cH_one _) ?_; intro w4 hm4))
        refine bodyPost_ret (res_cell_tmp2 rfl _ (g + 2) 145 (cH h0) (0, 0) rfl hm4 m0 row_Hh szHh) rfl ⟨by rw [htk.out]; exact ⟨h0, rfl⟩, hm4.below⟩
      · have h1l : (locals > (n : Int)) = True := by simp; omega
        go_wp2_with (first | (refine wp_rng rfl 145 _ rfl (g + 2) _ rfl (cH h0) (rng_blk hm3 m1) row_Hh szHh ?_) | (refine wp_setrow rfl 145 _ _ rfl (g + 2) rfl 145 _ (cH h0) rfl hm3.swap szHh rfl (cH_one _) ?_; intro w4 hm4))
        refine bodyPost_ret (res_cell_tmp2 rfl _ (g + 2) 145 (cH h0) (0, 0) rfl hm4 m0 row_Hh szHh) rfl ⟨by rw [htk.out]; exact ⟨h0, rfl⟩, hm4.below⟩
end Go.Proofs.Ytgflfpepfpekhaa
