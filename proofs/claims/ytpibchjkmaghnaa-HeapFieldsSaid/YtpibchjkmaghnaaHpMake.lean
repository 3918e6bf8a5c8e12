/- A heap's new objects: Array, Bound, Record, Chan. -/
import Derived.Test.YtpibchjkmaghnaaHpAbs
namespace Go.Proofs.Ytpibchjkmaghnaa
open Go.RowKit Go.Mm
set_option maxHeartbeats 4000000
set_option maxRecDepth 100000
/-- A thing just made. -/
def mkT (g : Nat) (A : Option Addr) (n c : Nat) (k : Int) (items : List V2) (fn cap : Int) : Th := ⟨g, A, n, c, none, 0, 0, none, ⟨k, items, [], fn, cap, false⟩⟩
theorem mkT_ok (g : Nat) (A : Option Addr) (n c : Nat) {k : Int} {items : List V2} {fn cap : Int} (hk : k = 6 ∨ k = 7 ∧ items = [] ∨ k = 8 ∨ k = 9) (hl : items.length ≤ 1048576) (hf : k ≠ 8 → fn = 0) (hc : k ≠ 9 → cap = 0) : (mkT g A n c k items fn cap).Ok := by
  refine ⟨?_, hl, fun h7 => ?_, fun _ => rfl, List.nodup_nil, fun k hk => by simp [mkT] at hk, hf, fun h => ⟨hc h, rfl⟩⟩
  · show k = 6 ∨ k = 7 ∨ k = 8 ∨ k = 9
    omega
  · have h7 : k = 7 := h7
    show (0 : Nat) = items.length
    rcases hk with h | ⟨_, h⟩ | h | h
    · omega
    · rw [h]; rfl
    · omega
    · omega
theorem mkT_mem {w0 w : World} {M : List Chunk} (g : Nat) (A : Option Addr) (n c : Nat) (k : Int) (items : List V2) (fn cap : Int) (cs : List Value) (T : TypeId) (hc : (mkT g A n c k items fn cap).cells = cs) (hT : thEl k = T)
    (hm : Mem w0 w (Blk g (.cells cs.toArray T) :: Own 2 (.slice A n c) (fV items) :: M)) : Mem w0 w (ThC (mkT g A n c k items fn cap) :: M) := by
  have h1 := (Mem.mapnil hm).nil 1 none
  have h2 : Mem w0 w ((mkT g A n c k items fn cap).chunks ++ M) := by
    unfold Th.chunks
    rw [hc, show thEl (mkT g A n c k items fn cap).ob.kind = T from hT]
    refine h1.perm ?_
    exact (List.perm_append_comm (l₁ := [Own 1 (.slice none 0 0) (nums .i64 []), MapC none []]) (l₂ := [Blk g (.cells cs.toArray T), Own 2 (.slice A n c) (fV items)])).append_right M
  exact Mem.sht _ h2
/-- put: done or not. -/
theorem put_ok (w0 w : World) (L : List Chunk) (h : Hp) (t : Th) (hm : Mem w0 w (HpC h :: ThC t :: L)) (hok : Fact h.Ok) (n : Int) (hl : h.ths.length < 16777216) (ht : Fact t.Ok) :
    Calls Try.prog 53 #[.pointer (some ⟨h.g, 0, none⟩), .int .i64 n, t.val] w fun e w' => e = .returned (h.abs.makeR true n t.ob.kind) ∧ HpQ w0 L h.g (h.abs.make true n t.ob) w' := by
  have he : h.abs.room n = h.room n := rfl
  unfold Hs.make Hs.makeR
  rw [Bool.true_and, he]
  cases hr : h.room n with
  | false =>
    refine (putNo_ok w0 w (ThC t :: L) h hm hok n ⟨hr⟩ t.val).mono ?_
    rintro e w1 ⟨rfl, hm1⟩
    exact ⟨rfl, h, rfl, rfl, hok.out, hm1.drop2⟩
  | true =>
    refine (putYes_ok w0 w L h t hm hok n ⟨hr⟩ (by omega) ht.out.kind).mono ?_
    rintro e w1 ⟨A, c, rfl, hm1⟩
    exact ⟨by rw [show h.abs.objs.length = h.ths.length from h.abs_len], h.push n A c t, rfl, h.push_abs n A c t, push_ok hok.out n hr A c t ht.out hl, hm1⟩
theorem Hs.make_no (s : Hs) (n : Int) (o : Ob) : s.make false n o = s := rfl
theorem makeR_spell (s : Hs) (may : Bool) (n k : Int) : ∃ a b c, s.makeR may n k = .tuple #[.agg #[.int .i64 a, .int .i64 b], .bool c] := by
  unfold Hs.makeR
  cases may && s.room n
  · exact ⟨_, _, _, rfl⟩
  · exact ⟨_, _, _, rfl⟩
theorem array_ok (w0 w : World) (L : List Chunk) (h : Hp) (hm : Mem w0 w (HpC h :: L)) (hok : Fact h.Ok) (A : Option Addr) (n c : Nat) (xs : List V2) (hx : Fact (RdC w 2 (.slice A n c) (fV xs))) (hn : n ≤ 16777216) (hl : h.ths.length < 16777216) :
    Calls Try.prog 68 #[.pointer (some ⟨h.g, 0, none⟩), .slice A n c] w fun e w' =>
      e = .returned (h.abs.makeR (decide (n ≤ 4096)) (2 + n) 6) ∧ HpQ w0 L h.g (h.abs.make (decide (n ≤ 4096)) (2 + n) ⟨6, xs, [], 0, 0, false⟩) w' := by
  have e1 : IntKind.i64.wrap (2 + (n : Int)) = 2 + n := IntWalk.i64_in _ (by omega)
  have hlen := Fact.mk (rdV_len hx.out)
  by_cases q : n ≤ 4096
  · have q1 : decide ((n : Int) > 4096) = false := decide_eq_false (by omega)
    rw [decide_eq_true q]
    go_enter Try.func68, Try.ntmps68
    go_upto_region 1 with (fail)
    have hm1 := hm.alloc (.cells [.int .i64 0, .int .i64 0].toArray 27)
    have hx1 := Fact.mk (hx.out.gr ((Gr.refl w).alloc (.cells [.int .i64 0, .int .i64 0].toArray 27)))
    generalize hgb : w.heap.size = gb at hm1 ⊢
    generalize hw1 : w.alloc (.cells [.int .i64 0, .int .i64 0].toArray 27) = w1 at hm1 hx1
    try refine wp_world hw1 ?_
    clear hw1 hgb hx
    go_wp2_with fail
    refine (clone_ok w1 w1 [] (Mem.start w1) A n c xs hx1 hn).mono ?_
    rintro e w2 ⟨A2, c2, rfl, hm2⟩
    have hm3 := hm1.join hm2
    go_wp2_with fail
    have hm4 := mkT_mem w2.heap.size A2 n c2 6 xs 0 0 [.slice A2 n c2] 106 rfl rfl (hm3.alloc (.cells [.slice A2 n c2].toArray 106))
    refine (put_ok w0 _ (Blk gb (.cells [.int .i64 0, .int .i64 0].toArray 27) :: L) h (mkT w2.heap.size A2 n c2 6 xs 0 0) (hm4.perm (((List.Perm.swap _ _ _).cons _).trans (List.Perm.swap _ _ _))) hok (2 + n) hl ⟨mkT_ok _ _ _ _ (.inl rfl) (by have := hlen.out; omega) (fun _ => rfl) (fun _ => rfl)⟩).mono ?_
    rintro e w3 ⟨rfl, h', hg', ha', hok', hm5⟩
    rw [show (mkT w2.heap.size A2 n c2 6 xs 0 0).ob.kind = 6 from rfl]
    obtain ⟨a, b, d, hr⟩ := makeR_spell h.abs true (2 + n) 6
    rw [hr]
    go_wp2_with (refine wp_setrow rfl 27 _ _ rfl gb rfl 27 _ [.int .i64 a, .int .i64 b] rfl hm5.swap sz_V rfl (cV_one (a, b)) ?_; intro w4 hm6)
    refine bodyPost_ret (Mm.res_cell_tmp rfl _ gb 27 [.int .i64 a, .int .i64 b] (0, 0) rfl hm6 m0 row_V sz_V) rfl ⟨by rw [hr]; rfl, h', hg', ha', hok', hm6.tail⟩
  · have q1 : decide ((n : Int) > 4096) = true := decide_eq_true (by omega)
    rw [decide_eq_false q]
    go_enter Try.func68, Try.ntmps68
    go_upto_region 1 with (fail)
    have hm1 := hm.alloc (.cells [.int .i64 0, .int .i64 0].toArray 27)
    have hx1 := Fact.mk (hx.out.gr ((Gr.refl w).alloc (.cells [.int .i64 0, .int .i64 0].toArray 27)))
    generalize hgb : w.heap.size = gb at hm1 ⊢
    generalize hw1 : w.alloc (.cells [.int .i64 0, .int .i64 0].toArray 27) = w1 at hm1 hx1
    try refine wp_world hw1 ?_
    clear hw1 hgb hx
    go_wp2_with (refine wp_setrow rfl 27 _ _ rfl gb rfl 27 _ [.int .i64 0, .int .i64 0] rfl hm1 sz_V rfl (cV_one (0, 0)) ?_; intro w2 hm2)
    refine bodyPost_ret (Mm.res_cell_tmp rfl _ gb 27 [.int .i64 0, .int .i64 0] (0, 0) rfl hm2 m0 row_V sz_V) rfl ⟨rfl, h, rfl, rfl, hok.out, hm2.tail⟩
theorem bound_ok (w0 w : World) (L : List Chunk) (h : Hp) (hm : Mem w0 w (HpC h :: L)) (hok : Fact h.Ok) (fn : Int) (A : Option Addr) (n c : Nat) (xs : List V2) (hx : Fact (RdC w 2 (.slice A n c) (fV xs))) (hn : n ≤ 16777216) (hl : h.ths.length < 16777216) :
    Calls Try.prog 69 #[.pointer (some ⟨h.g, 0, none⟩), .int .i64 fn, .slice A n c] w fun e w' =>
      e = .returned (h.abs.makeR (decide (0 ≤ fn) && decide (n ≤ 4096)) (2 + n) 8) ∧ HpQ w0 L h.g (h.abs.make (decide (0 ≤ fn) && decide (n ≤ 4096)) (2 + n) ⟨8, xs, [], fn, 0, false⟩) w' := by
  have e1 : IntKind.i64.wrap (2 + (n : Int)) = 2 + n := IntWalk.i64_in _ (by omega)
  have hlen := Fact.mk (rdV_len hx.out)
  by_cases q0 : fn < 0
  · have q0' : decide (fn < 0) = true := decide_eq_true q0
    rw [decide_eq_false (show ¬ 0 ≤ fn by omega), Bool.false_and]
    go_enter Try.func69, Try.ntmps69
    go_upto_region 1 with (fail)
    have hm1 := hm.alloc (.cells [.int .i64 0, .int .i64 0].toArray 27)
    have hx1 := Fact.mk (hx.out.gr ((Gr.refl w).alloc (.cells [.int .i64 0, .int .i64 0].toArray 27)))
    generalize hgb : w.heap.size = gb at hm1 ⊢
    generalize hw1 : w.alloc (.cells [.int .i64 0, .int .i64 0].toArray 27) = w1 at hm1 hx1
    try refine wp_world hw1 ?_
    clear hw1 hgb hx
    go_wp2_with (refine wp_setrow rfl 27 _ _ rfl gb rfl 27 _ [.int .i64 0, .int .i64 0] rfl hm1 sz_V rfl (cV_one (0, 0)) ?_; intro w2 hm2)
    refine bodyPost_ret (Mm.res_cell_tmp rfl _ gb 27 [.int .i64 0, .int .i64 0] (0, 0) rfl hm2 m0 row_V sz_V) rfl ⟨rfl, h, rfl, rfl, hok.out, hm2.tail⟩
  have q0' : decide (fn < 0) = false := decide_eq_false q0
  rw [decide_eq_true (show 0 ≤ fn by omega), Bool.true_and]
  by_cases q : n ≤ 4096
  · have q1 : decide ((n : Int) > 4096) = false := decide_eq_false (by omega)
    rw [decide_eq_true q]
    go_enter Try.func69, Try.ntmps69
    go_upto_region 1 with (fail)
    have hm1 := hm.alloc (.cells [.int .i64 0, .int .i64 0].toArray 27)
    have hx1 := Fact.mk (hx.out.gr ((Gr.refl w).alloc (.cells [.int .i64 0, .int .i64 0].toArray 27)))
    generalize hgb : w.heap.size = gb at hm1 ⊢
    generalize hw1 : w.alloc (.cells [.int .i64 0, .int .i64 0].toArray 27) = w1 at hm1 hx1
    try refine wp_world hw1 ?_
    clear hw1 hgb hx
    go_wp2_with fail
    refine (clone_ok w1 w1 [] (Mem.start w1) A n c xs hx1 hn).mono ?_
    rintro e w2 ⟨A2, c2, rfl, hm2⟩
    have hm3 := hm1.join hm2
    go_wp2_with fail
    have hm4 := mkT_mem w2.heap.size A2 n c2 8 xs fn 0 [.int .i64 fn, .slice A2 n c2] 147 rfl rfl (hm3.alloc (.cells [.int .i64 fn, .slice A2 n c2].toArray 147))
    refine (put_ok w0 _ (Blk gb (.cells [.int .i64 0, .int .i64 0].toArray 27) :: L) h (mkT w2.heap.size A2 n c2 8 xs fn 0) (hm4.perm (((List.Perm.swap _ _ _).cons _).trans (List.Perm.swap _ _ _))) hok (2 + n) hl ⟨mkT_ok _ _ _ _ (.inr (.inr (.inl rfl))) (by have := hlen.out; omega) (fun h => absurd rfl h) (fun _ => rfl)⟩).mono ?_
    rintro e w3 ⟨rfl, h', hg', ha', hok', hm5⟩
    rw [show (mkT w2.heap.size A2 n c2 8 xs fn 0).ob.kind = 8 from rfl]
    obtain ⟨a, b, d, hr⟩ := makeR_spell h.abs true (2 + n) 8
    rw [hr]
    go_wp2_with (refine wp_setrow rfl 27 _ _ rfl gb rfl 27 _ [.int .i64 a, .int .i64 b] rfl hm5.swap sz_V rfl (cV_one (a, b)) ?_; intro w4 hm6)
    refine bodyPost_ret (Mm.res_cell_tmp rfl _ gb 27 [.int .i64 a, .int .i64 b] (0, 0) rfl hm6 m0 row_V sz_V) rfl ⟨by rw [hr]; rfl, h', hg', ha', hok', hm6.tail⟩
  · have q1 : decide ((n : Int) > 4096) = true := decide_eq_true (by omega)
    rw [decide_eq_false q]
    go_enter Try.func69, Try.ntmps69
    go_upto_region 1 with (fail)
    have hm1 := hm.alloc (.cells [.int .i64 0, .int .i64 0].toArray 27)
    have hx1 := Fact.mk (hx.out.gr ((Gr.refl w).alloc (.cells [.int .i64 0, .int .i64 0].toArray 27)))
    generalize hgb : w.heap.size = gb at hm1 ⊢
    generalize hw1 : w.alloc (.cells [.int .i64 0, .int .i64 0].toArray 27) = w1 at hm1 hx1
    try refine wp_world hw1 ?_
    clear hw1 hgb hx
    go_wp2_with (refine wp_setrow rfl 27 _ _ rfl gb rfl 27 _ [.int .i64 0, .int .i64 0] rfl hm1 sz_V rfl (cV_one (0, 0)) ?_; intro w2 hm2)
    refine bodyPost_ret (Mm.res_cell_tmp rfl _ gb 27 [.int .i64 0, .int .i64 0] (0, 0) rfl hm2 m0 row_V sz_V) rfl ⟨rfl, h, rfl, rfl, hok.out, hm2.tail⟩
theorem record_ok (w0 w : World) (L : List Chunk) (h : Hp) (hm : Mem w0 w (HpC h :: L)) (hok : Fact h.Ok) (hl : h.ths.length < 16777216) :
    Calls Try.prog 22 #[.pointer (some ⟨h.g, 0, none⟩)] w fun e w' =>
      e = .returned (h.abs.makeR true 2 7) ∧ HpQ w0 L h.g (h.abs.make true 2 ⟨7, [], [], 0, 0, false⟩) w' := by
  go_enter Try.func22, Try.ntmps22
  go_upto_region 1 with (fail)
  have hm1 := hm.alloc (.cells [.int .i64 0, .int .i64 0].toArray 27)
  generalize hgb : w.heap.size = gb at hm1 ⊢
  generalize hw1 : w.alloc (.cells [.int .i64 0, .int .i64 0].toArray 27) = w1 at hm1
  try refine wp_world hw1 ?_
  clear hw1 hgb
  have hm3 := Mem.nil hm1 2 none
  go_wp2_with fail
  have hm4 := mkT_mem w1.heap.size none 0 0 7 [] 0 0 [.slice none 0 0, .slice none 0 0, .map none] 110 rfl rfl (hm3.alloc (.cells [.slice none 0 0, .slice none 0 0, .map none].toArray 110))
  refine (put_ok w0 _ (Blk gb (.cells [.int .i64 0, .int .i64 0].toArray 27) :: L) h (mkT w1.heap.size none 0 0 7 [] 0 0) (hm4.perm (((List.Perm.swap _ _ _).cons _).trans (List.Perm.swap _ _ _))) hok (2) hl ⟨mkT_ok _ _ _ _ (.inr (.inl ⟨rfl, rfl⟩)) (by simp) (fun _ => rfl) (fun _ => rfl)⟩).mono ?_
  rintro e w3 ⟨rfl, h', hg', ha', hok', hm5⟩
  rw [show (mkT w1.heap.size none 0 0 7 [] 0 0).ob.kind = 7 from rfl]
  obtain ⟨a, b, d, hr⟩ := makeR_spell h.abs true (2) 7
  rw [hr]
  go_wp2_with (refine wp_setrow rfl 27 _ _ rfl gb rfl 27 _ [.int .i64 a, .int .i64 b] rfl hm5.swap sz_V rfl (cV_one (a, b)) ?_; intro w4 hm6)
  refine bodyPost_ret (Mm.res_cell_tmp rfl _ gb 27 [.int .i64 a, .int .i64 b] (0, 0) rfl hm6 m0 row_V sz_V) rfl ⟨by rw [hr]; rfl, h', hg', ha', hok', hm6.tail⟩
theorem chan_ok (w0 w : World) (L : List Chunk) (h : Hp) (hm : Mem w0 w (HpC h :: L)) (hok : Fact h.Ok) (n : Int) (hl : h.ths.length < 16777216) :
    Calls Try.prog 14 #[.pointer (some ⟨h.g, 0, none⟩), .int .i64 n] w fun e w' =>
      e = .returned (h.abs.makeR (decide (1 ≤ n) && decide (n ≤ 64)) (2 + n) 9) ∧ HpQ w0 L h.g (h.abs.make (decide (1 ≤ n) && decide (n ≤ 64)) (2 + n) ⟨9, [], [], 0, n, false⟩) w' := by
  by_cases q0 : n < 1
  · have q0' : decide (n < 1) = true := decide_eq_true q0
    rw [decide_eq_false (show ¬ 1 ≤ n by omega), Bool.false_and]
    go_enter Try.func14, Try.ntmps14
    go_upto_region 1 with (fail)
    have hm1 := hm.alloc (.cells [.int .i64 0, .int .i64 0].toArray 27)
    generalize hgb : w.heap.size = gb at hm1 ⊢
    generalize hw1 : w.alloc (.cells [.int .i64 0, .int .i64 0].toArray 27) = w1 at hm1
    try refine wp_world hw1 ?_
    clear hw1 hgb
    go_wp2_with (refine wp_setrow rfl 27 _ _ rfl gb rfl 27 _ [.int .i64 0, .int .i64 0] rfl hm1 sz_V rfl (cV_one (0, 0)) ?_; intro w2 hm2)
    refine bodyPost_ret (Mm.res_cell_tmp rfl _ gb 27 [.int .i64 0, .int .i64 0] (0, 0) rfl hm2 m0 row_V sz_V) rfl ⟨rfl, h, rfl, rfl, hok.out, hm2.tail⟩
  have q0' : decide (n < 1) = false := decide_eq_false q0
  rw [decide_eq_true (show 1 ≤ n by omega), Bool.true_and]
  by_cases q : n ≤ 64
  · have q1 : decide (n > 64) = false := decide_eq_false (by omega)
    have e1 : IntKind.i64.wrap (2 + n) = 2 + n := IntWalk.i64_in _ (by omega)
    rw [decide_eq_true q]
    go_enter Try.func14, Try.ntmps14
    go_upto_region 1 with (fail)
    have hm1 := hm.alloc (.cells [.int .i64 0, .int .i64 0].toArray 27)
    generalize hgb : w.heap.size = gb at hm1 ⊢
    generalize hw1 : w.alloc (.cells [.int .i64 0, .int .i64 0].toArray 27) = w1 at hm1
    try refine wp_world hw1 ?_
    clear hw1 hgb
    have hm3 := Mem.nil hm1 2 none
    go_wp2_with fail
    have hm4 := mkT_mem w1.heap.size none 0 0 9 [] 0 n [.int .i64 n, .slice none 0 0, .bool false] 97 rfl rfl (hm3.alloc (.cells [.int .i64 n, .slice none 0 0, .bool false].toArray 97))
    refine (put_ok w0 _ (Blk gb (.cells [.int .i64 0, .int .i64 0].toArray 27) :: L) h (mkT w1.heap.size none 0 0 9 [] 0 n) (hm4.perm (((List.Perm.swap _ _ _).cons _).trans (List.Perm.swap _ _ _))) hok (2 + n) hl ⟨mkT_ok _ _ _ _ (.inr (.inr (.inr rfl))) (by simp) (fun _ => rfl) (fun h => absurd rfl h)⟩).mono ?_
    rintro e w3 ⟨rfl, h', hg', ha', hok', hm5⟩
    rw [show (mkT w1.heap.size none 0 0 9 [] 0 n).ob.kind = 9 from rfl]
    obtain ⟨a, b, d, hr⟩ := makeR_spell h.abs true (2 + n) 9
    rw [hr]
    go_wp2_with (refine wp_setrow rfl 27 _ _ rfl gb rfl 27 _ [.int .i64 a, .int .i64 b] rfl hm5.swap sz_V rfl (cV_one (a, b)) ?_; intro w4 hm6)
    refine bodyPost_ret (Mm.res_cell_tmp rfl _ gb 27 [.int .i64 a, .int .i64 b] (0, 0) rfl hm6 m0 row_V sz_V) rfl ⟨by rw [hr]; rfl, h', hg', ha', hok', hm6.tail⟩
  · have q1 : decide (n > 64) = true := decide_eq_true (by omega)
    rw [decide_eq_false q]
    go_enter Try.func14, Try.ntmps14
    go_upto_region 1 with (fail)
    have hm1 := hm.alloc (.cells [.int .i64 0, .int .i64 0].toArray 27)
    generalize hgb : w.heap.size = gb at hm1 ⊢
    generalize hw1 : w.alloc (.cells [.int .i64 0, .int .i64 0].toArray 27) = w1 at hm1
    try refine wp_world hw1 ?_
    clear hw1 hgb
    go_wp2_with (refine wp_setrow rfl 27 _ _ rfl gb rfl 27 _ [.int .i64 0, .int .i64 0] rfl hm1 sz_V rfl (cV_one (0, 0)) ?_; intro w2 hm2)
    refine bodyPost_ret (Mm.res_cell_tmp rfl _ gb 27 [.int .i64 0, .int .i64 0] (0, 0) rfl hm2 m0 row_V sz_V) rfl ⟨rfl, h, rfl, rfl, hok.out, hm2.tail⟩
end Go.Proofs.Ytpibchjkmaghnaa
