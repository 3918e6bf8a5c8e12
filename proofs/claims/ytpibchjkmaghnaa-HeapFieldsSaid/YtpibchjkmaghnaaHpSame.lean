/- Objects as elements of lists; lists and objects held against one another. -/
import Derived.Test.YtpibchjkmaghnaaHpAsk
namespace Go.Mm
open Go.RowKit
/-- A row read in a drawn region, ahead of its forced tail. -/
theorem still_rng {P : Program} {ops : Array Oper} {o : Oper} {a : Act} {rest : List Oper} {Q : Act → Prop} {w : World} (hw : Region.wanted o (yielded ops a.tmps) = true) (ty : TypeId) (x : Operand) (ho : o.op = .load ty x) (b q : Nat) (hx : a.eval x = .pointer (some ⟨b, q, none⟩)) (cs : List Value)
    (hc : w.rangeAt b q cs) (hd : (P.underlying ty).map (·.isRow) = some true) (hi : (P.info? ty).map (·.size) = some cs.length) (h : wpStill P ops w Q rest (a.put o.dst (.agg cs.toArray))) : wpStill P ops w Q (o :: rest) a := by
  obtain ⟨d, hu, hr⟩ : ∃ d, P.underlying ty = some d ∧ d.isRow = true := by
    cases e : P.underlying ty with
    | none => rw [e] at hd; simp at hd
    | some d => rw [e] at hd; exact ⟨d, rfl, by simpa using hd⟩
  have hl := run_loadVar_mid (P := P) w b q ty cs d hc hu hr hi
  have he : (execOp a.eval o).run P w = .ok (.value (.agg cs.toArray)) w := by simp [execOp, ho, Instr.loadAt, hx, Instr.sureAddr, hl]
  unfold wpStill
  rw [if_pos hw]
  unfold Oper.still
  rw [he, Oper.stillUpon_value]
  exact h
end Go.Mm
namespace Go.Proofs.Ytpibchjkmaghnaa
open Go.RowKit Go.Mm
set_option maxHeartbeats 4000000
set_option maxRecDepth 100000
set_option linter.unusedSimpArgs false
/-- An object in memory. -/
structure RO where
  A : Option Addr
  c : Nat
  KA : Option Addr
  kc : Nat
  ob : Ob
def ro0 : RO := ⟨none, 0, none, 0, ob0⟩
def cRO (x : RO) : List Value := obC x.ob.kind x.A x.ob.items.length x.c x.KA x.ob.keys.length x.kc x.ob.fn x.ob.cap x.ob.shut
theorem cRO_len (x : RO) : (cRO x).length = 6 := rfl
theorem cRO_one (x : RO) : One (cRO x) := obC_one _ _ _ _ _ _ _ _ _ _
def RO.reads (x : RO) (w : World) : Prop := RdC w 2 (.slice x.A x.ob.items.length x.c) (fV x.ob.items) ∧ RdC w 1 (.slice x.KA x.ob.keys.length x.kc) (nums .i64 x.ob.keys)
theorem RO.reads.gr {x : RO} {w w' : World} (h : x.reads w) (hg : Gr w w') : x.reads w' := ⟨h.1.gr hg, h.2.gr hg⟩
/-- A list of objects that can be read. -/
structure ObsR (w : World) (A : Option Addr) (n c : Nat) (xs : List RO) : Prop where
  rd : RdC w 6 (.slice A n c) (xs.flatMap cRO)
  each : ∀ x, x ∈ xs → x.reads w
theorem ObsR.gr {w w' : World} {A : Option Addr} {n c : Nat} {xs : List RO} (h : ObsR w A n c xs) (hg : Gr w w') : ObsR w' A n c xs := ⟨h.rd.gr hg, fun x hx => (h.each x hx).gr hg⟩
theorem ObsR.len {w : World} {A : Option Addr} {n c : Nat} {xs : List RO} (h : ObsR w A n c xs) : xs.length = n := rd_len cRO_len (by omega) h.rd
theorem ObsR.at {w : World} {A : Option Addr} {n c : Nat} {xs : List RO} (h : ObsR w A n c xs) (k : Nat) (hk : k < n) :
    ∃ b o, A = some ⟨b, o, none⟩ ∧ (∀ (j : Nat) (u : Value), (cRO (xs.getD k ro0))[j]? = some u → w.cell? ⟨b, o + k * 6 + j, none⟩ = some u) ∧ k < xs.length ∧ (xs.getD k ro0).reads w := by
  obtain ⟨b, o, e, hc, _, h2⟩ := rd_at cRO_len (by omega) ro0 h.rd k hk
  refine ⟨b, o, e, hc, h2, h.each _ ?_⟩
  rw [List.getD_eq_getElem?_getD, List.getElem?_eq_getElem h2]
  exact List.getElem_mem h2
theorem ty_I : Try.prog.underlying 2 = some (.int .i64) := by kernel_rfl
theorem sameV_q (w : World) (A B : Option Addr) (n c d : Nat) (xs : List V2) (hx : Fact (RdC w 2 (.slice A n c) (fV xs))) (hy : Fact (RdC w 2 (.slice B n d) (fV xs))) (hn : n ≤ 16777216) :
    Calls Try.prog 99 #[.slice A n c, .slice B n d] w fun e w' => e = .returned (.bool true) ∧ ∃ m, w' = w.drewN m := by
  have hl := Fact.mk (rdV_len hx.out)
  go_enter Try.func99, Try.ntmps99
  go_wp2
  go_loopw [5] (fun v w' => ∃ (k : Nat), v = .int .i64 k ∧ k ≤ n ∧ ∃ m, w' = w.drewN m) (fun v _ => n - (intOf v).toNat)
  case atStart => exact ⟨0, rfl, by omega, 0, rfl⟩
  case round =>
    obtain ⟨k, rfl, hk, m, rfl⟩ := hrel
    by_cases hlt : k < n
    · obtain ⟨b, o, rfl, g1, g2, ht, _⟩ := rdV_at hx.out k hlt
      obtain ⟨bb, ob, rfl, g1b, g2b, htb, _⟩ := rdV_at hy.out k hlt
      generalize xs.getD k (0, 0) = x at g1 g2 g1b g2b ht htb
      clear ht htb
      go_upto_region 6 with (fail)
      go_quiet (fail)
      go_wp2
      go_roundw
      case rel => exact ⟨k + 1, by go_num, by omega, _, rfl⟩
      case measure => simp [intOf]; omega
    · go_wp2
      go_ret
      exact ⟨rfl, _, rfl⟩
theorem sameLongs_q (w : World) (A B : Option Addr) (n c d : Nat) (xs : List Int) (hx : Fact (RdC w 1 (.slice A n c) (nums .i64 xs))) (hy : Fact (RdC w 1 (.slice B n d) (nums .i64 xs))) (hn : n ≤ 16777216) :
    Calls Try.prog 100 #[.slice A n c, .slice B n d] w fun e w' => e = .returned (.bool true) ∧ ∃ m, w' = w.drewN m := by
  go_enter Try.func100, Try.ntmps100
  go_wp2
  go_loopw [5] (fun v w' => ∃ (k : Nat), v = .int .i64 k ∧ k ≤ n ∧ ∃ m, w' = w.drewN m) (fun v _ => n - (intOf v).toNat)
  case atStart => exact ⟨0, rfl, by omega, 0, rfl⟩
  case round =>
    obtain ⟨k, rfl, hk, m, rfl⟩ := hrel
    by_cases hlt : k < n
    · obtain ⟨b, o, rfl, g1, _⟩ := hx.out.num k hlt
      obtain ⟨bb, ob, rfl, g2, _⟩ := hy.out.num k hlt
      generalize xs.getD k 0 = x at g1 g2
      go_upto_region 6 with (fail)
      go_quiet (fail)
      go_wp2
      go_roundw
      case rel => exact ⟨k + 1, by go_num, by omega, _, rfl⟩
      case measure => simp [intOf]; omega
    · go_wp2
      go_ret
      exact ⟨rfl, _, rfl⟩
theorem sameInts_q (w : World) (A B : Option Addr) (n c d : Nat) (xs : List Int) (hx : Fact (RdC w 1 (.slice A n c) (nums .i64 xs))) (hy : Fact (RdC w 1 (.slice B n d) (nums .i64 xs))) (hn : n ≤ 16777216) :
    Calls Try.prog 29 #[.slice A n c, .slice B n d] w fun e w' => e = .returned (.bool true) ∧ ∃ m, w' = w.drewN m := by
  go_enter Try.func29, Try.ntmps29
  go_wp2
  go_loopw [5] (fun v w' => ∃ (k : Nat), v = .int .i64 k ∧ k ≤ n ∧ ∃ m, w' = w.drewN m) (fun v _ => n - (intOf v).toNat)
  case atStart => exact ⟨0, rfl, by omega, 0, rfl⟩
  case round =>
    obtain ⟨k, rfl, hk, m, rfl⟩ := hrel
    by_cases hlt : k < n
    · obtain ⟨b, o, rfl, g1, _⟩ := hx.out.num k hlt
      obtain ⟨bb, ob, rfl, g2, _⟩ := hy.out.num k hlt
      generalize xs.getD k 0 = x at g1 g2
      go_upto_region 6 with (fail)
      go_quiet (fail)
      go_wp2
      go_roundw
      case rel => exact ⟨k + 1, by go_num, by omega, _, rfl⟩
      case measure => simp [intOf]; omega
    · go_wp2
      go_ret
      exact ⟨rfl, _, rfl⟩
theorem sameObject_ok (w : World) (x y : RO) (hx : Fact (x.reads w)) (hy : Fact (y.reads w)) (he : x.ob = y.ob) (hi : x.ob.items.length ≤ 16777216) (hk : x.ob.keys.length ≤ 16777216) :
    Calls Try.prog 78 #[.agg (cRO x).toArray, .agg (cRO y).toArray] w fun e w' => e = .returned (.bool true) ∧ Gr w w' := by
  obtain ⟨A, c, KA, kc, ob⟩ := x
  obtain ⟨B, d, KB, kd, ob'⟩ := y
  obtain rfl : ob = ob' := he
  obtain ⟨k, items, keys, fn, cap, sh⟩ := ob
  go_enter Try.func78, Try.ntmps78
  go_upto_region 1 with (fail)
  have hm1 := ((Mem.start w).alloc (.cells (cRO ⟨A, c, KA, kc, ⟨k, items, keys, fn, cap, sh⟩⟩).toArray 71)).alloc (.cells (cRO ⟨B, d, KB, kd, ⟨k, items, keys, fn, cap, sh⟩⟩).toArray 71)
  simp only [World.size_alloc] at hm1
  generalize hgb : w.heap.size = g at hm1 ⊢
  generalize hw1 : (w.alloc (.cells (cRO ⟨A, c, KA, kc, ⟨k, items, keys, fn, cap, sh⟩⟩).toArray 71)).alloc (.cells (cRO ⟨B, d, KB, kd, ⟨k, items, keys, fn, cap, sh⟩⟩).toArray 71) = w1 at hm1
  try refine wp_world hw1 ?_
  clear hw1 hgb
  have hg1 := Fact.mk hm1.below
  have x0 := hm1.cell m1 0 rfl
  have x1 := hm1.cell m1 1 rfl
  have x2 := hm1.cell m1 2 rfl
  have x3 := hm1.cell m1 3 rfl
  have x4 := hm1.cell m1 4 rfl
  have x5 := hm1.cell m1 5 rfl
  have y0 := hm1.cell m0 0 rfl
  have y1 := hm1.cell m0 1 rfl
  have y2 := hm1.cell m0 2 rfl
  have y3 := hm1.cell m0 3 rfl
  have y4 := hm1.cell m0 4 rfl
  have y5 := hm1.cell m0 5 rfl
  go_wp2_with fail
  refine (sameV_q w1 A B items.length c d items ⟨hx.out.1.gr hg1.out⟩ ⟨hy.out.1.gr hg1.out⟩ hi).mono ?_
  rintro e w2 ⟨rfl, m, rfl⟩
  have hg2 := Fact.mk (Gr.drewN hg1.out m)
  have z2 := ((Gr.refl w1).drewN m).cell x2
  have u2 := ((Gr.refl w1).drewN m).cell y2
  clear x0 x1 x2 x3 x4 x5 y0 y1 y2 y3 y4 y5 hm1
  generalize w1.drewN m = w2 at hg2 z2 u2 ⊢
  go_wp2_with fail
  refine (sameLongs_q w2 KA KB keys.length kc kd keys ⟨hx.out.2.gr hg2.out⟩ ⟨hy.out.2.gr hg2.out⟩ hk).mono ?_
  rintro e w3 ⟨rfl, m, rfl⟩
  go_wp2_with fail
  go_ret
  exact ⟨rfl, Gr.drewN hg2.out m⟩
theorem sameObjects_ok (w : World) (A B : Option Addr) (n c d : Nat) (xs ys : List RO) (hx : Fact (ObsR w A n c xs)) (hy : Fact (ObsR w B n d ys)) (he : Fact (xs.map (·.ob) = ys.map (·.ob))) (hs : Fact (∀ x, x ∈ xs → x.ob.items.length ≤ 16777216 ∧ x.ob.keys.length ≤ 16777216)) (hn : n ≤ 16777216) :
    Calls Try.prog 52 #[.slice A n c, .slice B n d] w fun e w' => e = .returned (.bool true) ∧ Gr w w' := by
  go_enter Try.func52, Try.ntmps52
  go_wp2
  go_loopw [5] (fun v w' => ∃ (k : Nat), v = .int .i64 k ∧ k ≤ n ∧ Gr w w') (fun v _ => n - (intOf v).toNat)
  case atStart => exact ⟨0, rfl, by omega, Gr.refl _⟩
  case round =>
    obtain ⟨k, rfl, hk, hg⟩ := hrel
    by_cases hlt : k < n
    · obtain ⟨b, o, rfl, hc1, hk1, r1⟩ := hx.out.at k hlt
      obtain ⟨bb, ob, rfl, hc2, hk2, r2⟩ := hy.out.at k hlt
      have hob : (xs.getD k ro0).ob = (ys.getD k ro0).ob := by
        have := congrArg (fun l : List Ob => l[k]?) he.out
        simpa [hk1, hk2] using this
      have hsz := hs.out (xs.getD k ro0) (by rw [List.getD_eq_getElem?_getD, List.getElem?_eq_getElem hk1]; exact List.getElem_mem hk1)
      generalize xs.getD k ro0 = x at hc1 r1 hob hsz
      generalize ys.getD k ro0 = y at hc2 r2 hob
      have hob := Fact.mk hob
      have hsz := Fact.mk hsz
      have hc1 := Fact.mk (rng_gr hc1 hg)
      have hc2 := Fact.mk (rng_gr hc2 hg)
      have r1 := Fact.mk (r1.gr hg)
      have r2 := Fact.mk (r2.gr hg)
      have hg := Fact.mk hg
      go_upto_region 6 with (fail)
      have hcd1 : wr.drew.rangeAt b (o + k * 6) (cRO x) := hc1.out
      have hcd2 : wr.drew.rangeAt bb (ob + k * 6) (cRO y) := hc2.out
      have hgd := hg.out.drew
      refine wp_region_still_tail 8 (by kernel_rfl) (by kernel_rfl) ?_
      simp only [List.take_succ_cons, List.take_zero, List.drop_succ_cons, List.drop_zero]
      repeat (first | (refine still_rng rfl 71 _ rfl b (o + k * 6) rfl (cRO x) hcd1 row_O sz_O ?_; simp only [Act.put, List.setIfInBounds_toArray, List.set_cons_zero, List.set_cons_succ]) | (refine still_rng rfl 71 _ rfl bb (ob + k * 6) rfl (cRO y) hcd2 row_O sz_O ?_; simp only [Act.put, List.setIfInBounds_toArray, List.set_cons_zero, List.set_cons_succ]) | still_step)
      refine wpStill_nil ?_
      go_wp2_with fail
      refine (sameObject_ok _ x y ⟨r1.out.gr (Gr.refl wr).drew⟩ ⟨r2.out.gr (Gr.refl wr).drew⟩ hob.out hsz.out.1 hsz.out.2).mono ?_
      rintro e w2 ⟨rfl, hg2⟩
      go_wp2_with fail
      go_roundw
      case rel => exact ⟨k + 1, by go_num, by omega, Gr.trans hgd hg2⟩
      case measure => exact measP_lt hlt
    · go_wp2
      go_ret
      exact ⟨rfl, hg⟩
/-- An answer that can be read. -/
structure SdR (w : World) (s : Sd) (v : Value) : Prop where
  ex : ∃ A c K k LA lc, v = .agg (sdC s A c K k LA lc).toArray ∧ RdC w 2 (.slice A s.ob.items.length c) (fV s.ob.items) ∧ RdC w 1 (.slice K s.ob.keys.length k) (nums .i64 s.ob.keys) ∧ RdC w 1 (.slice LA s.list.length lc) (nums .i64 s.list)
theorem SdR.gr {w w' : World} {s : Sd} {v : Value} (h : SdR w s v) (hg : Gr w w') : SdR w' s v := by
  obtain ⟨A, c, K, k, LA, lc, h1, h2, h3, h4⟩ := h.ex
  exact ⟨A, c, K, k, LA, lc, h1, h2.gr hg, h3.gr hg, h4.gr hg⟩
theorem same_ok (w : World) (s : Sd) (x y : Value) (hx : SdR w s x) (hy : SdR w s y) (hi : s.ob.items.length ≤ 16777216) (hk : s.ob.keys.length ≤ 16777216) (hl : s.list.length ≤ 16777216) :
    Calls Try.prog 76 #[x, y] w fun e w' => e = .returned (.bool true) ∧ Gr w w' := by
  obtain ⟨A, c, K, k, LA, lc, rfl, hx1, hx2, hx3⟩ := hx.ex
  obtain ⟨B, d, M, m, LB, ld, rfl, hy1, hy2, hy3⟩ := hy.ex
  clear hx hy
  have hx1 := Fact.mk hx1
  have hx2 := Fact.mk hx2
  have hx3 := Fact.mk hx3
  have hy1 := Fact.mk hy1
  have hy2 := Fact.mk hy2
  have hy3 := Fact.mk hy3
  obtain ⟨⟨v1, v2⟩, n, trap, ok, ob, list⟩ := s
  simp only at hx1 hx2 hx3 hy1 hy2 hy3 hi hk hl
  go_enter Try.func76, Try.ntmps76
  go_upto_region 1 with (fail)
  obtain ⟨C, hC⟩ : ∃ C, C = sdC ⟨(v1, v2), n, trap, ok, ob, list⟩ A c K k LA lc := ⟨_, rfl⟩
  obtain ⟨D, hD⟩ : ∃ D, D = sdC ⟨(v1, v2), n, trap, ok, ob, list⟩ B d M m LB ld := ⟨_, rfl⟩
  rw [← hC, ← hD]
  have hm1 := ((Mem.start w).alloc (.cells C.toArray 84)).alloc (.cells D.toArray 84)
  simp only [World.size_alloc] at hm1
  generalize hgb : w.heap.size = g at hm1 ⊢
  generalize hw1 : (w.alloc (.cells C.toArray 84)).alloc (.cells D.toArray 84) = w1 at hm1
  try refine wp_world hw1 ?_
  clear hw1 hgb
  have hg1 := Fact.mk hm1.below
  have x0 := hm1.cell m1 0 (by rw [hC]; rfl : C[0]? = some (.int .i64 v1))
  have x1 := hm1.cell m1 1 (by rw [hC]; rfl : C[1]? = some (.int .i64 v2))
  have x2 := hm1.cell m1 2 (by rw [hC]; rfl : C[2]? = some (.int .i64 n))
  have x3 := hm1.cell m1 3 (by rw [hC]; rfl : C[3]? = some (.int .i64 trap))
  have x4 := hm1.cell m1 4 (by rw [hC]; rfl : C[4]? = some (.bool ok))
  have x11 := hm1.cell m1 11 (by rw [hC]; rfl : C[11]? = some (.slice LA list.length lc))
  have y0 := hm1.cell m0 0 (by rw [hD]; rfl : D[0]? = some (.int .i64 v1))
  have y1 := hm1.cell m0 1 (by rw [hD]; rfl : D[1]? = some (.int .i64 v2))
  have y2 := hm1.cell m0 2 (by rw [hD]; rfl : D[2]? = some (.int .i64 n))
  have y3 := hm1.cell m0 3 (by rw [hD]; rfl : D[3]? = some (.int .i64 trap))
  have y4 := hm1.cell m0 4 (by rw [hD]; rfl : D[4]? = some (.bool ok))
  have y11 := hm1.cell m0 11 (by rw [hD]; rfl : D[11]? = some (.slice LB list.length ld))
  have rx : w1.rangeAt g 5 (cRO ⟨A, c, K, k, ob⟩) := fun j u hu => hm1.cell m1 (5 + j) (by
    rw [hC]
    have : j < 6 := by
      rcases Nat.lt_or_ge j 6 with h | h
      · exact h
      · rw [List.getElem?_eq_none (by show 6 ≤ j; exact h)] at hu; cases hu
    obtain rfl | rfl | rfl | rfl | rfl | rfl : j = 0 ∨ j = 1 ∨ j = 2 ∨ j = 3 ∨ j = 4 ∨ j = 5 := by omega
    all_goals exact hu)
  have ry : w1.rangeAt (g + 1) 5 (cRO ⟨B, d, M, m, ob⟩) := fun j u hu => hm1.cell m0 (5 + j) (by
    rw [hD]
    have : j < 6 := by
      rcases Nat.lt_or_ge j 6 with h | h
      · exact h
      · rw [List.getElem?_eq_none (by show 6 ≤ j; exact h)] at hu; cases hu
    obtain rfl | rfl | rfl | rfl | rfl | rfl : j = 0 ∨ j = 1 ∨ j = 2 ∨ j = 3 ∨ j = 4 ∨ j = 5 := by omega
    all_goals exact hu)
  clear hC hD
  go_wp2_with (first | (refine wp_rng rfl 71 _ rfl g 5 rfl (cRO ⟨A, c, K, k, ob⟩) rx row_O sz_O ?_) | (refine wp_rng rfl 71 _ rfl (g + 1) 5 rfl (cRO ⟨B, d, M, m, ob⟩) ry row_O sz_O ?_))
  refine (sameObject_ok w1 ⟨A, c, K, k, ob⟩ ⟨B, d, M, m, ob⟩ ⟨hx1.out.gr hg1.out, hx2.out.gr hg1.out⟩ ⟨hy1.out.gr hg1.out, hy2.out.gr hg1.out⟩ rfl hi hk).mono ?_
  rintro e w2 ⟨rfl, hg2⟩
  have hg3 := Fact.mk (Gr.trans hg1.out hg2)
  replace x11 := hg2.cell x11
  replace y11 := hg2.cell y11
  clear hm1 rx ry x0 x1 x2 x3 x4 y0 y1 y2 y3 y4
  go_wp2_with fail
  refine (sameInts_q w2 LA LB list.length lc ld list ⟨hx3.out.gr hg3.out⟩ ⟨hy3.out.gr hg3.out⟩ hl).mono ?_
  rintro e w3 ⟨rfl, q, rfl⟩
  go_wp2_with fail
  go_ret
  exact ⟨rfl, Gr.drewN hg3.out q⟩
end Go.Proofs.Ytpibchjkmaghnaa
