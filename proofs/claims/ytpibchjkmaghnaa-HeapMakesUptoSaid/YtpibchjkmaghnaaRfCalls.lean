/- The reference's heap: objects copied; Array, Record, Bound, Chan, Object. -/
import Derived.Test.YtpibchjkmaghnaaRfMake
import Derived.Test.YtpibchjkmaghnaaCopyL
namespace Go.Proofs.Ytpibchjkmaghnaa
open Go.RowKit Go.Mm
set_option maxHeartbeats 4000000
set_option maxRecDepth 100000
set_option linter.unusedSimpArgs false
theorem sz_Vs : (Try.prog.info? 30).map (·.size) = some 1 := by kernel_rfl
theorem sz_Is : (Try.prog.info? 50).map (·.size) = some 1 := by kernel_rfl
theorem roC_mem {w0 w : World} {L : List Chunk} (x : RO) (hm : Mem w0 w (Own 2 (.slice x.A x.ob.items.length x.c) (fV x.ob.items) :: Own 1 (.slice x.KA x.ob.keys.length x.kc) (nums .i64 x.ob.keys) :: L)) : Mem w0 w (RoC x :: L) := Mem.sht x.chunks hm
theorem copyObject_ok (w0 w : World) (L : List Chunk) (hm : Mem w0 w L) (x : RO) (hx : Fact (x.reads w)) (hi : x.ob.items.length ≤ 1048576) (hkl : x.ob.keys.length ≤ 1048576) :
    Calls Try.prog 103 #[.agg (cRO x).toArray] w fun e w' => ∃ y : RO, e = .returned (.agg (cRO y).toArray) ∧ y.ob = x.ob ∧ Mem w0 w' (RoC y :: L) := by
  obtain ⟨A, c, KA, kc, ⟨k, items, keys, fn, cap, sh⟩⟩ := x
  simp only at hi hkl
  have key : ∀ (w' : World) (y : RO), Mem w w' [RoC y] → Mem w0 w' (RoC y :: L) := fun w' y h => hm.join h
  replace key := Fact.mk key
  clear hm
  go_enter Try.func103, Try.ntmps103
  go_upto_region 1 with (fail)
  have hm1 := ((Mem.start w).alloc (.cells (cRO ⟨A, c, KA, kc, ⟨k, items, keys, fn, cap, sh⟩⟩).toArray 71)).alloc (.cells (obC 0 none 0 0 none 0 0 0 0 false).toArray 71)
  simp only [World.size_alloc] at hm1
  generalize hgb : w.heap.size = g at hm1 ⊢
  generalize hw1 : (w.alloc (.cells (cRO ⟨A, c, KA, kc, ⟨k, items, keys, fn, cap, sh⟩⟩).toArray 71)).alloc (.cells (obC 0 none 0 0 none 0 0 0 0 false).toArray 71) = w1 at hm1
  try refine wp_world hw1 ?_
  clear hw1 hgb
  go_upto_region 2 with (first | (refine wp_rng rfl 71 _ rfl g 0 rfl (cRO ⟨A, c, KA, kc, ⟨k, items, keys, fn, cap, sh⟩⟩) (rng_blk hm1 m1) row_O sz_O ?_) | (refine wp_setrow rfl 71 _ _ rfl w1.heap.size rfl 71 _ (cRO ⟨A, c, KA, kc, ⟨k, items, keys, fn, cap, sh⟩⟩) rfl (hm1.alloc _) sz_O rfl (cRO_one _) ?_; intro w2 hm2))
  generalize w1.heap.size = g3 at hm2 ⊢
  have x1 := hm2.cell m2 1 rfl
  clear hm1
  go_wp2_with fail
  refine (copyValues_ok w2 A items.length c items ⟨hx.out.1.gr hm2.below⟩ (by omega)).mono ?_
  rintro e w3 ⟨A3, c3, rfl, hn3⟩
  have hm3 := (hm2.new hn3).swap
  clear hm2 hn3 x1
  go_upto_region 3 with (refine wp_setat rfl 30 _ _ rfl g3 1 rfl 71 _ [.slice A3 items.length c3] (cRO ⟨A3, c3, KA, kc, ⟨k, items, keys, fn, cap, sh⟩⟩) (.slice A3 items.length c3) rfl rfl hm3 sz_Vs (by simp [cRO, obC]) (one_one rfl) rfl ?_; intro w4 hm4)
  clear hm3
  have x2 := hm4.cell m3 2 rfl
  go_wp2_with fail
  refine (copyLongs_ok w4 KA keys.length kc keys ⟨hx.out.2.gr hm4.below⟩ (by omega)).mono ?_
  rintro e w5 ⟨A5, c5, rfl, hn5⟩
  have hm5 := (hm4.new hn5).swap
  clear hm4 hn5 x2
  go_wp2_with (first | (refine wp_setat rfl 50 _ _ rfl g3 2 rfl 71 _ [.slice A5 keys.length c5] (cRO ⟨A3, c3, A5, c5, ⟨k, items, keys, fn, cap, sh⟩⟩) (.slice A5 keys.length c5) rfl rfl hm5 sz_Is (by simp [cRO, obC]) (one_one rfl) rfl ?_; intro w6 hm6) | (refine wp_rng rfl 71 _ rfl g3 0 rfl (cRO ⟨A3, c3, A5, c5, ⟨k, items, keys, fn, cap, sh⟩⟩) (rng_blk hm6 m0) row_O sz_O ?_) | (refine wp_setrow rfl 71 _ _ rfl (g + 1) rfl 71 _ (cRO ⟨A3, c3, A5, c5, ⟨k, items, keys, fn, cap, sh⟩⟩) rfl hm6.pull3 sz_O rfl (cRO_one _) ?_; intro w7 hm7))
  have hz := (hm7.tail.tail.swap).sub (List.Sublist.cons_cons _ (List.Sublist.cons_cons _ (List.sublist_cons_self _ _)))
  refine bodyPost_ret (Mm.res_cell rfl _ (g + 1) 71 (cRO ⟨A3, c3, A5, c5, ⟨k, items, keys, fn, cap, sh⟩⟩) (0, 0) rfl hm7 m0 row_O sz_O) rfl ⟨_, rfl, rfl, key.out w7 _ (roC_mem ⟨A3, c3, A5, c5, ⟨k, items, keys, fn, cap, sh⟩⟩ hz)⟩
theorem refRecord_ok (w0 w : World) (L : List Chunk) (r : Rf) (hm : Mem w0 w (RfC r :: L)) (hok : Fact r.Ok) (hl : r.xs.length < 16777216) :
    Calls Try.prog 89 #[.pointer (some ⟨r.g, 0, none⟩)] w fun e w' => e = .returned (r.abs.makeR true 2 7) ∧ RfQ w0 L r.g (r.abs.make true 2 ⟨7, [], [], 0, 0, false⟩) w' := by
  go_enter Try.func89, Try.ntmps89
  go_upto_region 1 with (fail)
  have hm1 := hm.alloc (.cells [.int .i64 0, .int .i64 0].toArray 27)
  have hg1 := (Gr.refl w).alloc (.cells [.int .i64 0, .int .i64 0].toArray 27)
  generalize hgb : w.heap.size = g at hm1 ⊢
  generalize hw1 : w.alloc (.cells [.int .i64 0, .int .i64 0].toArray 27) = w1 at hm1 hg1
  try refine wp_world hw1 ?_
  clear hw1 hgb hm
  go_wp2_with fail
  have hm2 := (roC_mem (⟨none, 0, none, 0, ⟨7, [], [], 0, 0, false⟩⟩ : RO) (Mem.nil (Mem.nil hm1 1 none) 2 none)).pull2
  refine (refMake_ok w0 w1 _ r (⟨none, 0, none, 0, ⟨7, [], [], 0, 0, false⟩⟩ : RO) hm2 hok (true) (2) ⟨by simp, by simp⟩ hl).mono ?_
  rintro e w8 ⟨rfl, r', hg', ha', hok', hm8⟩
  obtain ⟨a, b, t, hr⟩ := makeR_spell r.abs (true) (2) 7
  rw [show (⟨none, 0, none, 0, ⟨7, [], [], 0, 0, false⟩⟩ : RO).ob.kind = 7 from rfl, hr]
  go_wp2_with (refine wp_setrow rfl 27 _ _ rfl g rfl 27 _ [.int .i64 a, .int .i64 b] rfl hm8.swap sz_V rfl (cV_one (a, b)) ?_; intro w9 hm9)
  refine bodyPost_ret (Mm.res_cell_tmp rfl _ g 27 [.int .i64 a, .int .i64 b] (0, 0) rfl hm9 m0 row_V sz_V) rfl ⟨?_, r', hg', ?_, hok', hm9.tail⟩
  · exact congrArg Ending.returned (hr.symm.trans (by rfl))
  · exact ha'.trans (by rfl)
theorem refChan_ok (w0 w : World) (L : List Chunk) (r : Rf) (hm : Mem w0 w (RfC r :: L)) (hok : Fact r.Ok) (n : Int) (hl : r.xs.length < 16777216) :
    Calls Try.prog 91 #[.pointer (some ⟨r.g, 0, none⟩), .int .i64 n] w fun e w' => e = .returned (r.abs.makeR (decide (1 ≤ n) && decide (n ≤ 64)) (2 + n) 9) ∧ RfQ w0 L r.g (r.abs.make (decide (1 ≤ n) && decide (n ≤ 64)) (2 + n) ⟨9, [], [], 0, n, false⟩) w' := by
  by_cases q0 : n < 1
  · rw [decide_eq_false (show ¬ 1 ≤ n by omega), Bool.false_and]
    have q0' : decide (n ≥ 1) = false := decide_eq_false (by omega)
    go_enter Try.func91, Try.ntmps91
    go_upto_region 1 with (fail)
    have hm1 := hm.alloc (.cells [.int .i64 0, .int .i64 0].toArray 27)
    have hg1 := (Gr.refl w).alloc (.cells [.int .i64 0, .int .i64 0].toArray 27)
    generalize hgb : w.heap.size = g at hm1 ⊢
    generalize hw1 : w.alloc (.cells [.int .i64 0, .int .i64 0].toArray 27) = w1 at hm1 hg1
    try refine wp_world hw1 ?_
    clear hw1 hgb hm
    go_wp2_with fail
    have hm2 := (roC_mem (⟨none, 0, none, 0, ⟨9, [], [], 0, n, false⟩⟩ : RO) (Mem.nil (Mem.nil hm1 1 none) 2 none)).pull2
    refine (refMake_ok w0 w1 _ r (⟨none, 0, none, 0, ⟨9, [], [], 0, n, false⟩⟩ : RO) hm2 hok (false) (2) ⟨by simp, by simp⟩ hl).mono ?_
    rintro e w8 ⟨rfl, r', hg', ha', hok', hm8⟩
    obtain ⟨a, b, t, hr⟩ := makeR_spell r.abs (false) (2) 9
    rw [show (⟨none, 0, none, 0, ⟨9, [], [], 0, n, false⟩⟩ : RO).ob.kind = 9 from rfl, hr]
    go_wp2_with (refine wp_setrow rfl 27 _ _ rfl g rfl 27 _ [.int .i64 a, .int .i64 b] rfl hm8.swap sz_V rfl (cV_one (a, b)) ?_; intro w9 hm9)
    refine bodyPost_ret (Mm.res_cell_tmp rfl _ g 27 [.int .i64 a, .int .i64 b] (0, 0) rfl hm9 m0 row_V sz_V) rfl ⟨?_, r', hg', ?_, hok', hm9.tail⟩
    · exact congrArg Ending.returned (hr.symm.trans (by simp [Hs.makeR]))
    · exact ha'.trans (by simp [Hs.make])
  by_cases q1 : n ≤ 64
  · rw [decide_eq_true (show 1 ≤ n by omega), decide_eq_true q1, Bool.true_and]
    have e1 : IntKind.i64.wrap (2 + n) = 2 + n := IntWalk.i64_in _ (by omega)
    have q0' : decide (n ≥ 1) = true := decide_eq_true (by omega)
    have q1' : decide (n ≤ 64) = true := decide_eq_true q1
    go_enter Try.func91, Try.ntmps91
    go_upto_region 1 with (fail)
    have hm1 := hm.alloc (.cells [.int .i64 0, .int .i64 0].toArray 27)
    have hg1 := (Gr.refl w).alloc (.cells [.int .i64 0, .int .i64 0].toArray 27)
    generalize hgb : w.heap.size = g at hm1 ⊢
    generalize hw1 : w.alloc (.cells [.int .i64 0, .int .i64 0].toArray 27) = w1 at hm1 hg1
    try refine wp_world hw1 ?_
    clear hw1 hgb hm
    go_wp2_with fail
    have hm2 := (roC_mem (⟨none, 0, none, 0, ⟨9, [], [], 0, n, false⟩⟩ : RO) (Mem.nil (Mem.nil hm1 1 none) 2 none)).pull2
    refine (refMake_ok w0 w1 _ r (⟨none, 0, none, 0, ⟨9, [], [], 0, n, false⟩⟩ : RO) hm2 hok (true) (2 + n) ⟨by simp, by simp⟩ hl).mono ?_
    rintro e w8 ⟨rfl, r', hg', ha', hok', hm8⟩
    obtain ⟨a, b, t, hr⟩ := makeR_spell r.abs (true) (2 + n) 9
    rw [show (⟨none, 0, none, 0, ⟨9, [], [], 0, n, false⟩⟩ : RO).ob.kind = 9 from rfl, hr]
    go_wp2_with (refine wp_setrow rfl 27 _ _ rfl g rfl 27 _ [.int .i64 a, .int .i64 b] rfl hm8.swap sz_V rfl (cV_one (a, b)) ?_; intro w9 hm9)
    refine bodyPost_ret (Mm.res_cell_tmp rfl _ g 27 [.int .i64 a, .int .i64 b] (0, 0) rfl hm9 m0 row_V sz_V) rfl ⟨?_, r', hg', ?_, hok', hm9.tail⟩
    · exact congrArg Ending.returned (hr.symm.trans (by rfl))
    · exact ha'.trans (by rfl)
  · rw [decide_eq_true (show 1 ≤ n by omega), decide_eq_false q1, Bool.true_and]
    have q0' : decide (n ≥ 1) = true := decide_eq_true (by omega)
    have q1' : decide (n ≤ 64) = false := decide_eq_false q1
    go_enter Try.func91, Try.ntmps91
    go_upto_region 1 with (fail)
    have hm1 := hm.alloc (.cells [.int .i64 0, .int .i64 0].toArray 27)
    have hg1 := (Gr.refl w).alloc (.cells [.int .i64 0, .int .i64 0].toArray 27)
    generalize hgb : w.heap.size = g at hm1 ⊢
    generalize hw1 : w.alloc (.cells [.int .i64 0, .int .i64 0].toArray 27) = w1 at hm1 hg1
    try refine wp_world hw1 ?_
    clear hw1 hgb hm
    go_wp2_with fail
    have hm2 := (roC_mem (⟨none, 0, none, 0, ⟨9, [], [], 0, n, false⟩⟩ : RO) (Mem.nil (Mem.nil hm1 1 none) 2 none)).pull2
    refine (refMake_ok w0 w1 _ r (⟨none, 0, none, 0, ⟨9, [], [], 0, n, false⟩⟩ : RO) hm2 hok (false) (2) ⟨by simp, by simp⟩ hl).mono ?_
    rintro e w8 ⟨rfl, r', hg', ha', hok', hm8⟩
    obtain ⟨a, b, t, hr⟩ := makeR_spell r.abs (false) (2) 9
    rw [show (⟨none, 0, none, 0, ⟨9, [], [], 0, n, false⟩⟩ : RO).ob.kind = 9 from rfl, hr]
    go_wp2_with (refine wp_setrow rfl 27 _ _ rfl g rfl 27 _ [.int .i64 a, .int .i64 b] rfl hm8.swap sz_V rfl (cV_one (a, b)) ?_; intro w9 hm9)
    refine bodyPost_ret (Mm.res_cell_tmp rfl _ g 27 [.int .i64 a, .int .i64 b] (0, 0) rfl hm9 m0 row_V sz_V) rfl ⟨?_, r', hg', ?_, hok', hm9.tail⟩
    · exact congrArg Ending.returned (hr.symm.trans (by simp [Hs.makeR]))
    · exact ha'.trans (by simp [Hs.make])
theorem refArray_ok (w0 w : World) (L : List Chunk) (r : Rf) (hm : Mem w0 w (RfC r :: L)) (hok : Fact r.Ok) (A : Option Addr) (n c : Nat) (xs : List V2) (hx : Fact (RdC w 2 (.slice A n c) (fV xs))) (hn : n ≤ 1048576) (hl : r.xs.length < 16777216) :
    Calls Try.prog 88 #[.pointer (some ⟨r.g, 0, none⟩), .slice A n c] w fun e w' => e = .returned (r.abs.makeR (decide (n ≤ 4096)) (2 + n) 6) ∧ RfQ w0 L r.g (r.abs.make (decide (n ≤ 4096)) (2 + n) ⟨6, xs, [], 0, 0, false⟩) w' := by
  obtain rfl : xs.length = n := rdV_len hx.out
  have e1 : IntKind.i64.wrap (2 + (xs.length : Int)) = 2 + xs.length := IntWalk.i64_in _ (by omega)
  · skip
    have hd : decide ((xs.length : Int) ≤ 4096) = decide (xs.length ≤ 4096) := decide_eq_decide.2 (by omega)
    rw [← hd]
    clear hd
    go_enter Try.func88, Try.ntmps88
    go_upto_region 1 with (fail)
    have hm1 := hm.alloc (.cells [.int .i64 0, .int .i64 0].toArray 27)
    have hg1 := (Gr.refl w).alloc (.cells [.int .i64 0, .int .i64 0].toArray 27)
    generalize hgb : w.heap.size = g at hm1 ⊢
    generalize hw1 : w.alloc (.cells [.int .i64 0, .int .i64 0].toArray 27) = w1 at hm1 hg1
    try refine wp_world hw1 ?_
    clear hw1 hgb hm
    go_wp2_with fail
    refine (copyValues_ok w1 A xs.length c xs ⟨hx.out.gr hg1⟩ (by omega)).mono ?_
    rintro e w2 ⟨A3, c3, rfl, hn2⟩
    have hm2 := hm1.new hn2
    clear hm1 hn2
    go_wp2_with (first | (refine wp_setrow rfl 71 _ _ rfl w2.heap.size rfl 71 _ (cRO (⟨A3, c3, none, 0, ⟨6, xs, [], 0, 0, false⟩⟩ : RO)) rfl (hm2.alloc _) sz_O rfl (cRO_one _) ?_; intro w3 hm3) | (refine wp_rng rfl 71 _ rfl w2.heap.size 0 rfl (cRO (⟨A3, c3, none, 0, ⟨6, xs, [], 0, 0, false⟩⟩ : RO)) (rng_blk hm3 m0) row_O sz_O ?_))
    have hm4 := (roC_mem (⟨A3, c3, none, 0, ⟨6, xs, [], 0, 0, false⟩⟩ : RO) (Mem.nil hm3.tail 1 none).swap).pull2
    refine (refMake_ok w0 w3 _ r (⟨A3, c3, none, 0, ⟨6, xs, [], 0, 0, false⟩⟩ : RO) hm4 hok (decide ((xs.length : Int) ≤ 4096)) (2 + (xs.length : Int)) ⟨hn, by simp⟩ hl).mono ?_
    rintro e w8 ⟨rfl, r', hg', ha', hok', hm8⟩
    obtain ⟨a, b, t, hr⟩ := makeR_spell r.abs (decide ((xs.length : Int) ≤ 4096)) (2 + (xs.length : Int)) 6
    rw [show (⟨A3, c3, none, 0, ⟨6, xs, [], 0, 0, false⟩⟩ : RO).ob.kind = 6 from rfl, hr]
    go_wp2_with (refine wp_setrow rfl 27 _ _ rfl g rfl 27 _ [.int .i64 a, .int .i64 b] rfl hm8.swap sz_V rfl (cV_one (a, b)) ?_; intro w9 hm9)
    refine bodyPost_ret (Mm.res_cell_tmp rfl _ g 27 [.int .i64 a, .int .i64 b] (0, 0) rfl hm9 m0 row_V sz_V) rfl ⟨?_, r', hg', ?_, hok', hm9.tail⟩
    · exact congrArg Ending.returned (hr.symm.trans (by simp [Hs.makeR]))
    · exact ha'.trans (by simp [Hs.make])
theorem refBound_ok (w0 w : World) (L : List Chunk) (r : Rf) (hm : Mem w0 w (RfC r :: L)) (hok : Fact r.Ok) (fn : Int) (A : Option Addr) (n c : Nat) (xs : List V2) (hx : Fact (RdC w 2 (.slice A n c) (fV xs))) (hn : n ≤ 1048576) (hl : r.xs.length < 16777216) :
    Calls Try.prog 90 #[.pointer (some ⟨r.g, 0, none⟩), .int .i64 fn, .slice A n c] w fun e w' => e = .returned (r.abs.makeR (decide (0 ≤ fn) && decide (n ≤ 4096)) (2 + n) 8) ∧ RfQ w0 L r.g (r.abs.make (decide (0 ≤ fn) && decide (n ≤ 4096)) (2 + n) ⟨8, xs, [], fn, 0, false⟩) w' := by
  obtain rfl : xs.length = n := rdV_len hx.out
  have e1 : IntKind.i64.wrap (2 + (xs.length : Int)) = 2 + xs.length := IntWalk.i64_in _ (by omega)
  by_cases q : xs.length ≤ 4096
  · have q' : decide ((xs.length : Int) ≤ 4096) = true := decide_eq_true (by omega)
    rw [decide_eq_true q, Bool.and_true]
    go_enter Try.func90, Try.ntmps90
    go_upto_region 1 with (fail)
    have hm1 := hm.alloc (.cells [.int .i64 0, .int .i64 0].toArray 27)
    have hg1 := (Gr.refl w).alloc (.cells [.int .i64 0, .int .i64 0].toArray 27)
    generalize hgb : w.heap.size = g at hm1 ⊢
    generalize hw1 : w.alloc (.cells [.int .i64 0, .int .i64 0].toArray 27) = w1 at hm1 hg1
    try refine wp_world hw1 ?_
    clear hw1 hgb hm
    go_wp2_with fail
    refine (copyValues_ok w1 A xs.length c xs ⟨hx.out.gr hg1⟩ (by omega)).mono ?_
    rintro e w2 ⟨A3, c3, rfl, hn2⟩
    have hm2 := hm1.new hn2
    clear hm1 hn2
    go_wp2_with (first | (refine wp_setrow rfl 71 _ _ rfl w2.heap.size rfl 71 _ (cRO (⟨A3, c3, none, 0, ⟨8, xs, [], fn, 0, false⟩⟩ : RO)) rfl (hm2.alloc _) sz_O rfl (cRO_one _) ?_; intro w3 hm3) | (refine wp_rng rfl 71 _ rfl w2.heap.size 0 rfl (cRO (⟨A3, c3, none, 0, ⟨8, xs, [], fn, 0, false⟩⟩ : RO)) (rng_blk hm3 m0) row_O sz_O ?_))
    have hm4 := (roC_mem (⟨A3, c3, none, 0, ⟨8, xs, [], fn, 0, false⟩⟩ : RO) (Mem.nil hm3.tail 1 none).swap).pull2
    refine (refMake_ok w0 w3 _ r (⟨A3, c3, none, 0, ⟨8, xs, [], fn, 0, false⟩⟩ : RO) hm4 hok (decide (fn ≥ 0)) (2 + (xs.length : Int)) ⟨hn, by simp⟩ hl).mono ?_
    rintro e w8 ⟨rfl, r', hg', ha', hok', hm8⟩
    obtain ⟨a, b, t, hr⟩ := makeR_spell r.abs (decide (fn ≥ 0)) (2 + (xs.length : Int)) 8
    rw [show (⟨A3, c3, none, 0, ⟨8, xs, [], fn, 0, false⟩⟩ : RO).ob.kind = 8 from rfl, hr]
    go_wp2_with (refine wp_setrow rfl 27 _ _ rfl g rfl 27 _ [.int .i64 a, .int .i64 b] rfl hm8.swap sz_V rfl (cV_one (a, b)) ?_; intro w9 hm9)
    refine bodyPost_ret (Mm.res_cell_tmp rfl _ g 27 [.int .i64 a, .int .i64 b] (0, 0) rfl hm9 m0 row_V sz_V) rfl ⟨?_, r', hg', ?_, hok', hm9.tail⟩
    · exact congrArg Ending.returned (hr.symm.trans (by simp [Hs.makeR]))
    · exact ha'.trans (by simp [Hs.make])
  · have q' : decide ((xs.length : Int) ≤ 4096) = false := decide_eq_false (by omega)
    rw [decide_eq_false q, Bool.and_false]
    go_enter Try.func90, Try.ntmps90
    go_upto_region 1 with (fail)
    have hm1 := hm.alloc (.cells [.int .i64 0, .int .i64 0].toArray 27)
    have hg1 := (Gr.refl w).alloc (.cells [.int .i64 0, .int .i64 0].toArray 27)
    generalize hgb : w.heap.size = g at hm1 ⊢
    generalize hw1 : w.alloc (.cells [.int .i64 0, .int .i64 0].toArray 27) = w1 at hm1 hg1
    try refine wp_world hw1 ?_
    clear hw1 hgb hm
    go_wp2_with fail
    refine (copyValues_ok w1 A xs.length c xs ⟨hx.out.gr hg1⟩ (by omega)).mono ?_
    rintro e w2 ⟨A3, c3, rfl, hn2⟩
    have hm2 := hm1.new hn2
    clear hm1 hn2
    go_wp2_with (first | (refine wp_setrow rfl 71 _ _ rfl w2.heap.size rfl 71 _ (cRO (⟨A3, c3, none, 0, ⟨8, xs, [], fn, 0, false⟩⟩ : RO)) rfl (hm2.alloc _) sz_O rfl (cRO_one _) ?_; intro w3 hm3) | (refine wp_rng rfl 71 _ rfl w2.heap.size 0 rfl (cRO (⟨A3, c3, none, 0, ⟨8, xs, [], fn, 0, false⟩⟩ : RO)) (rng_blk hm3 m0) row_O sz_O ?_))
    have hm4 := (roC_mem (⟨A3, c3, none, 0, ⟨8, xs, [], fn, 0, false⟩⟩ : RO) (Mem.nil hm3.tail 1 none).swap).pull2
    refine (refMake_ok w0 w3 _ r (⟨A3, c3, none, 0, ⟨8, xs, [], fn, 0, false⟩⟩ : RO) hm4 hok (false) (2 + (xs.length : Int)) ⟨hn, by simp⟩ hl).mono ?_
    rintro e w8 ⟨rfl, r', hg', ha', hok', hm8⟩
    obtain ⟨a, b, t, hr⟩ := makeR_spell r.abs (false) (2 + (xs.length : Int)) 8
    rw [show (⟨A3, c3, none, 0, ⟨8, xs, [], fn, 0, false⟩⟩ : RO).ob.kind = 8 from rfl, hr]
    go_wp2_with (refine wp_setrow rfl 27 _ _ rfl g rfl 27 _ [.int .i64 a, .int .i64 b] rfl hm8.swap sz_V rfl (cV_one (a, b)) ?_; intro w9 hm9)
    refine bodyPost_ret (Mm.res_cell_tmp rfl _ g 27 [.int .i64 a, .int .i64 b] (0, 0) rfl hm9 m0 row_V sz_V) rfl ⟨?_, r', hg', ?_, hok', hm9.tail⟩
    · exact congrArg Ending.returned (hr.symm.trans (by simp [Hs.makeR]))
    · exact ha'.trans (by simp [Hs.make])
theorem refObject_ok (w0 w : World) (L : List Chunk) (r : Rf) (hm : Mem w0 w (RfC r :: L)) (hok : Fact r.Ok) (i : Int) :
    Calls Try.prog 87 #[.pointer (some ⟨r.g, 0, none⟩), .int .i64 i] w fun e w' => ∃ v, e = .returned (.tuple #[v, .bool (r.abs.is i)]) ∧ ObQ w0 (RfC r :: L) (r.abs.at i) v w' := by
  have hlen : r.abs.objs.length = r.xs.length := r.abs_len
  have hsz := hok.out.size
  by_cases q0 : i < 0
  · have q0' : decide (i < 0) = true := decide_eq_true q0
    have his : r.abs.is i = false := by unfold Hs.is; rw [decide_eq_false (by omega), Bool.false_and]
    unfold Hs.at
    rw [his]
    clear his hlen
    go_enter Try.func87, Try.ntmps87
    go_upto_region 1 with (fail)
    have hm1 := hm.alloc (.cells (obC 0 none 0 0 none 0 0 0 0 false).toArray 71)
    have hg1 := (Gr.refl w).alloc (.cells (obC 0 none 0 0 none 0 0 0 0 false).toArray 71)
    generalize hgb : w.heap.size = g at hm1 ⊢
    generalize hw1 : w.alloc (.cells (obC 0 none 0 0 none 0 0 0 0 false).toArray 71) = w1 at hm1 hg1
    try refine wp_world hw1 ?_
    clear hw1 hgb hm
    go_wp2_with (refine wp_setrow rfl 71 _ _ rfl g rfl 71 _ (obC 0 none 0 0 none 0 0 0 0 false) rfl hm1 sz_O rfl (obC_one _ _ _ _ _ _ _ _ _ _) ?_; intro w2 hm2)
    exact bodyPost_ret (Mm.res_cell_tmp rfl _ g 71 (obC 0 none 0 0 none 0 0 0 0 false) (0, 0) rfl hm2 m0 row_O sz_O) rfl ⟨_, rfl, none, 0, none, 0, rfl, (Mem.nil (Mem.nil hm2.tail 1 none) 2 none)⟩
  have q0' : decide (i < 0) = false := decide_eq_false q0
  by_cases q1 : i < r.xs.length
  · have q1' : decide (i ≥ r.xs.length) = false := decide_eq_false (by omega)
    have his : r.abs.is i = true := by unfold Hs.is; rw [hlen, decide_eq_true (show (0 : Int) ≤ i by omega), decide_eq_true q1]; rfl
    obtain ⟨k, rfl⟩ := Int.eq_ofNat_of_zero_le (Int.not_lt.1 q0)
    have hk : k < r.xs.length := by omega
    have hat : r.abs.at k = (r.xs.getD k ro0).ob := by
      unfold Hs.at
      rw [his]
      simp [Rf.abs, hk]
    have hxm := hok.out.each (r.xs.getD k ro0) (by rw [List.getD_eq_getElem?_getD, List.getElem?_eq_getElem hk]; exact List.getElem_mem hk)
    obtain ⟨x, hx⟩ : ∃ x, r.xs.getD k ro0 = x := ⟨_, rfl⟩
    rw [hx] at hxm
    rw [his, hat, hx]
    clear his hat hlen
    replace hx := Fact.mk hx
    replace hxm := Fact.mk hxm
    go_enter Try.func87, Try.ntmps87
    go_upto_region 1 with (fail)
    have hm1 := hm.alloc (.cells (obC 0 none 0 0 none 0 0 0 0 false).toArray 71)
    have hg1 := (Gr.refl w).alloc (.cells (obC 0 none 0 0 none 0 0 0 0 false).toArray 71)
    generalize hgb : w.heap.size = g at hm1 ⊢
    generalize hw1 : w.alloc (.cells (obC 0 none 0 0 none 0 0 0 0 false).toArray 71) = w1 at hm1 hg1
    try refine wp_world hw1 ?_
    clear hw1 hgb hm
    obtain ⟨_, _, c2, hR⟩ := Rf.read hm1 m1
    obtain ⟨b, o, hA, hc, _, hrd⟩ := hR.at k hk
    rw [hx.out] at hc hrd
    rw [hA] at c2
    clear hR
    replace hc := Fact.mk hc
    replace hrd := Fact.mk hrd
    go_wp2_with (refine wp_rng rfl 71 _ rfl b (o + k * 6) rfl (cRO x) hc.out row_O sz_O ?_)
    refine (copyObject_ok w0 w1 _ hm1 x hrd hxm.out.1 hxm.out.2).mono ?_
    rintro e w2 ⟨y, rfl, hy, hm2⟩
    replace hy := Fact.mk hy
    go_wp2_with (refine wp_setrow rfl 71 _ _ rfl g rfl 71 _ (cRO y) rfl hm2.swap sz_O rfl (cRO_one _) ?_; intro w3 hm3)
    exact bodyPost_ret (Mm.res_cell_tmp rfl _ g 71 (cRO y) (0, 0) rfl hm3 m0 row_O sz_O) rfl ⟨_, rfl, by rw [← hy.out]; exact ⟨y.A, y.c, y.KA, y.kc, rfl, Mem.opn hm3.tail⟩⟩
  · have q1' : decide (i ≥ r.xs.length) = true := decide_eq_true (by omega)
    have his : r.abs.is i = false := by unfold Hs.is; rw [hlen, decide_eq_false (show ¬ i < (r.xs.length : Int) by omega), Bool.and_false]
    unfold Hs.at
    rw [his]
    clear his hlen
    go_enter Try.func87, Try.ntmps87
    go_upto_region 1 with (fail)
    have hm1 := hm.alloc (.cells (obC 0 none 0 0 none 0 0 0 0 false).toArray 71)
    have hg1 := (Gr.refl w).alloc (.cells (obC 0 none 0 0 none 0 0 0 0 false).toArray 71)
    generalize hgb : w.heap.size = g at hm1 ⊢
    generalize hw1 : w.alloc (.cells (obC 0 none 0 0 none 0 0 0 0 false).toArray 71) = w1 at hm1 hg1
    try refine wp_world hw1 ?_
    clear hw1 hgb hm
    obtain ⟨_, _, c2, _⟩ := Rf.read hm1 m1
    go_wp2_with (refine wp_setrow rfl 71 _ _ rfl g rfl 71 _ (obC 0 none 0 0 none 0 0 0 0 false) rfl hm1 sz_O rfl (obC_one _ _ _ _ _ _ _ _ _ _) ?_; intro w2 hm2)
    exact bodyPost_ret (Mm.res_cell_tmp rfl _ g 71 (obC 0 none 0 0 none 0 0 0 0 false) (0, 0) rfl hm2 m0 row_O sz_O) rfl ⟨_, rfl, none, 0, none, 0, rfl, (Mem.nil (Mem.nil hm2.tail 1 none) 2 none)⟩
end Go.Proofs.Ytpibchjkmaghnaa
