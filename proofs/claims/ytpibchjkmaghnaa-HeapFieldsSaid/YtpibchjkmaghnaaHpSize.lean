/- A heap's things: Size of a channel; Chan. -/
import Derived.Test.YtpibchjkmaghnaaHpChs
namespace Go.Proofs.Ytpibchjkmaghnaa
open Go.RowKit Go.Mm
set_option maxHeartbeats 4000000
set_option maxRecDepth 100000
theorem asK_no {h : Hp} {v : V2} {i : Nat} {t : Th} (hn : nm h.objs v = some i) (ht : h.ths.getD i th0 = t) (k : Int) (hk : t.ob.kind ≠ k) : asK h v k = none := by
  unfold asK
  rw [hn]
  simp only [ht]
  rw [if_neg hk]
theorem sizeC_ok (w0 w : World) (L : List Chunk) (h : Hp) (hm : Mem w0 w (HpC h :: L)) (hok : Fact h.Ok) (K N : Int) (i : Nat) (hn : nm h.objs (K, N) = some i) (t : Th) (ht : Fact (h.ths.getD i th0 = t)) (hk : Fact (t.ob.kind = 9)) :
    Calls Try.prog 18 #[.pointer (some ⟨h.g, 0, none⟩), .agg #[.int .i64 K, .int .i64 N]] w fun e w' => e = .returned (.tuple #[.int .i64 t.ob.items.length, .int .i64 0]) ∧ Mem w0 w' (HpC h :: L) := by
  have hil := (nm_in hn).1
  have has := Fact.mk (asK_yes hn ht.out 9 hk.out)
  have hA := Fact.mk (asK_no hn ht.out 6 (by rw [hk.out]; decide))
  have hR := Fact.mk (asK_no hn ht.out 7 (by rw [hk.out]; decide))
  clear hn
  go_enter Try.func18, Try.ntmps18
  go_upto_region 1 with (fail)
  have hm1 := hm.alloc (.cells [.int .i64 K, .int .i64 N].toArray 27)
  generalize hgb : w.heap.size = gb at hm1 ⊢
  generalize hw1 : w.alloc (.cells [.int .i64 K, .int .i64 N].toArray 27) = w1 at hm1
  try refine wp_world hw1 ?_
  clear hw1 hgb
  go_wp2_with (refine wp_rng rfl 27 _ rfl gb 0 rfl (cV (K, N)) (rng_blk hm1 m0) row_V sz_V ?_)
  refine (named_ok w0 w1 _ h hm1 m1 hok K N).mono ?_
  rintro e w2 ⟨rfl, hg2⟩
  have hm2 := Hp.opnC (hm1.gr hg2).swap i hil t ht.out hk.out
  have c1 := hm2.cell m0 1 rfl
  have hl : t.ob.items.length = t.n := rdV_len (hm2.rd m1)
  have hta := tan_A hok.out (K, N) w2
  have htr := tan_R hok.out (K, N) w2
  have htc := tan_C hok.out (K, N) w2
  rw [hA.out] at hta
  rw [hR.out] at htr
  rw [has.out] at htc
  simp only [Option.isSome] at hta htr htc
  generalize namedV h (K, N) = nv at hta htr htc ⊢
  clear hm2
  go_wp2
  go_ret2
  exact ⟨by rw [hl]; rfl, (hm1.gr hg2).tail⟩
/-- A channel just made. -/
def chT (g : Nat) (n : Int) : Th := ⟨g, none, 0, 0, none, 0, 0, none, ⟨9, [], [], 0, n, false⟩⟩
theorem chanYes_ok (w0 w : World) (L : List Chunk) (h : Hp) (hm : Mem w0 w (HpC h :: L)) (hok : Fact h.Ok) (n : Int) (hn0 : 1 ≤ n) (hn1 : n ≤ 64) (hr : Fact (h.room (2 + n) = true)) (hl : h.ths.length < 1099511627776) :
    Calls Try.prog 14 #[.pointer (some ⟨h.g, 0, none⟩), .int .i64 n] w fun e w' => e = .returned (.tuple #[.agg #[.int .i64 9, .int .i64 h.ths.length], .bool true]) ∧ ∃ A c g, Mem w0 w' (HpC (h.push (2 + n) A c (chT g n)) :: L) := by
  have q1 : decide (n < 1) = false := decide_eq_false (by omega)
  have q2 : decide (n > 64) = false := decide_eq_false (by omega)
  have e1 : IntKind.i64.wrap (2 + n) = 2 + n := IntWalk.i64_in _ (by omega)
  go_enter Try.func14, Try.ntmps14
  go_upto_region 1 with (fail)
  have hm1 := hm.alloc (.cells [.int .i64 0, .int .i64 0].toArray 27)
  generalize hgb : w.heap.size = gb at hm1 ⊢
  generalize hw1 : w.alloc (.cells [.int .i64 0, .int .i64 0].toArray 27) = w1 at hm1
  try refine wp_world hw1 ?_
  clear hw1 hgb
  go_wp2_with fail
  have hm2 : Mem w0 (w1.alloc (.cells [.int .i64 n, .slice none 0 0, .bool false].toArray 97)) (HpC h :: ThC (chT w1.heap.size n) :: Blk gb (.cells [.int .i64 0, .int .i64 0].toArray 27) :: L) := by
    have h1 := ((((Mem.mapnil hm1).nil 1 none).nil 2 none).alloc (.cells [.int .i64 n, .slice none 0 0, .bool false].toArray 97))
    have h2 : Mem w0 _ (ThC (chT w1.heap.size n) :: (Blk gb (.cells [.int .i64 0, .int .i64 0].toArray 27) :: HpC h :: L)) := Mem.sht (chT w1.heap.size n).chunks h1
    exact h2.perm (((List.Perm.swap _ _ _).cons _).trans (List.Perm.swap _ _ _))
  refine (putYes_ok w0 _ _ h (chT w1.heap.size n) hm2 hok (2 + n) hr hl (by simp [chT])).mono ?_
  rintro e w3 ⟨A, c, rfl, hm3⟩
  go_wp2_with (refine wp_setrow rfl 27 _ _ rfl gb rfl 27 _ [.int .i64 9, .int .i64 h.ths.length] rfl hm3.swap sz_V rfl (cV_one (9, (h.ths.length : Int))) ?_; intro w4 hm4)
  refine bodyPost_ret (Mm.res_cell_tmp rfl _ gb 27 [.int .i64 9, .int .i64 h.ths.length] (0, 0) rfl hm4 m0 row_V sz_V) rfl ⟨rfl, A, c, _, hm4.tail⟩
/-! ### What holds of heaps stays so -/
theorem push_ok {h : Hp} (hok : h.Ok) (n : Int) (hr : h.room n = true) (A : Option Addr) (c : Nat) (t : Th) (ht : t.Ok) (hl : h.ths.length < 16777216) : (h.push n A c t).Ok := by
  have hr' : 0 ≤ n ∧ n ≤ h.budget - h.spent := by simpa [Hp.room] using hr
  have b1 := hok.b1
  have s0 := hok.s0
  refine ⟨fun u hu => ?_, by simp only [Hp.push, List.length_append, List.length_cons, List.length_nil]; omega, hok.b0, hok.b1, by simp only [Hp.push]; omega, by simp only [Hp.push]; omega⟩
  simp only [Hp.push, List.mem_append, List.mem_cons, List.not_mem_nil, or_false] at hu
  rcases hu with hu | rfl
  · exact hok.each u hu
  · exact ht
theorem upd_ok {h : Hp} (hok : h.Ok) (i : Nat) (t : Th) (ht : t.Ok) : (h.upd i t).Ok := by
  refine ⟨fun u hu => ?_, by simp only [Hp.upd, List.length_set]; exact hok.size, hok.b0, hok.b1, hok.s0, hok.s1⟩
  rcases List.mem_or_eq_of_mem_set hu with hu | rfl
  · exact hok.each u hu
  · exact ht
theorem queue_ok {t : Th} (ht : t.Ok) (hk : t.ob.kind = 9) (A : Option Addr) (n c : Nat) (items : List V2) (sh : Bool) (hl : items.length ≤ 1048576) : (t.queue A n c items sh).Ok :=
  ⟨ht.kind, hl, fun h7 => absurd (hk.symm.trans h7) (by decide), ht.nokeys, ht.nodup, ht.wf, ht.fn, fun h9 => absurd hk h9⟩
theorem chT_ok (g : Nat) (n : Int) : (chT g n).Ok :=
  ⟨.inr (.inr (.inr rfl)), by simp [chT], fun h => absurd (show (9 : Int) = 7 from h) (by decide), fun _ => rfl, List.nodup_nil, fun k hk => by simp [chT] at hk, fun _ => rfl, fun h => absurd rfl h⟩
end Go.Proofs.Ytpibchjkmaghnaa
