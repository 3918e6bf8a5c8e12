/- A heap's channels. -/
import Derived.Test.YtpibchjkmaghnaaHpPut
namespace Go.Proofs.Ytpibchjkmaghnaa
open Go.RowKit Go.Mm
set_option maxHeartbeats 2000000
set_option maxRecDepth 100000
/-- Where the thing lies that a value names, if it is of this kind. -/
def asK (h : Hp) (v : V2) (k : Int) : Option Addr := match nm h.objs v with | some i => if (h.ths.getD i th0).ob.kind = k then some ⟨(h.ths.getD i th0).g, 0, none⟩ else none | none => none
theorem ta_C (t : Th) (h : t.ob.kind = 6 ∨ t.ob.kind = 7 ∨ t.ob.kind = 8 ∨ t.ob.kind = 9) (w : World) : (Instr.typeAssert t.val 102 95 true).run Try.prog w = .ok (.tuple #[.pointer (if t.ob.kind = 9 then some ⟨t.g, 0, none⟩ else none), .bool (decide (t.ob.kind = 9))]) w := by
  rcases t.val_of h with ⟨hk, hv⟩ | ⟨hk, hv⟩ | ⟨hk, hv⟩ | ⟨hk, hv⟩ <;> rw [hk, hv] <;> kernel_rfl
theorem ta_A (t : Th) (h : t.ob.kind = 6 ∨ t.ob.kind = 7 ∨ t.ob.kind = 8 ∨ t.ob.kind = 9) (w : World) : (Instr.typeAssert t.val 102 104 true).run Try.prog w = .ok (.tuple #[.pointer (if t.ob.kind = 6 then some ⟨t.g, 0, none⟩ else none), .bool (decide (t.ob.kind = 6))]) w := by
  rcases t.val_of h with ⟨hk, hv⟩ | ⟨hk, hv⟩ | ⟨hk, hv⟩ | ⟨hk, hv⟩ <;> rw [hk, hv] <;> kernel_rfl
theorem ta_R (t : Th) (h : t.ob.kind = 6 ∨ t.ob.kind = 7 ∨ t.ob.kind = 8 ∨ t.ob.kind = 9) (w : World) : (Instr.typeAssert t.val 102 107 true).run Try.prog w = .ok (.tuple #[.pointer (if t.ob.kind = 7 then some ⟨t.g, 0, none⟩ else none), .bool (decide (t.ob.kind = 7))]) w := by
  rcases t.val_of h with ⟨hk, hv⟩ | ⟨hk, hv⟩ | ⟨hk, hv⟩ | ⟨hk, hv⟩ <;> rw [hk, hv] <;> kernel_rfl
theorem nm_in {h : Hp} {v : V2} {i : Nat} (hn : nm h.objs v = some i) : i < h.ths.length ∧ (h.ths.getD i th0).ob.kind = v.1 ∧ v.2 = i := by
  unfold nm at hn
  split at hn
  · rename_i q
    obtain ⟨q1, q2, q3⟩ := q
    simp only [Option.some.injEq] at hn
    rw [hn] at q3
    have hl : h.objs.length = h.ths.length := by simp [Hp.objs]
    have hil : i < h.ths.length := by omega
    have hob : (h.objs.getD i ob0) = (h.ths.getD i th0).ob := by simp [Hp.objs, hil]
    rw [hob] at q3
    exact ⟨hil, q3, by omega⟩
  · cases hn
theorem kind_at {h : Hp} (hok : h.Ok) {i : Nat} (hi : i < h.ths.length) : (h.ths.getD i th0).ob.kind = 6 ∨ (h.ths.getD i th0).ob.kind = 7 ∨ (h.ths.getD i th0).ob.kind = 8 ∨ (h.ths.getD i th0).ob.kind = 9 := by
  have := (hok.each _ (List.getElem_mem hi)).kind
  simpa [hi] using this
theorem tan_C {h : Hp} (hok : h.Ok) (v : V2) (w : World) : (Instr.typeAssert (namedV h v) 102 95 true).run Try.prog w = .ok (.tuple #[.pointer (asK h v 9), .bool (asK h v 9).isSome]) w := by
  unfold namedV asK
  cases hn : nm h.objs v with
  | none => kernel_rfl
  | some i =>
    simp only
    rw [ta_C _ (kind_at hok (nm_in hn).1)]
    generalize (h.ths.getD i th0).ob.kind = k
    generalize (h.ths.getD i th0).g = g
    split <;> rename_i q <;> simp only [q, decide_true, decide_false, Option.isSome]
theorem tan_A {h : Hp} (hok : h.Ok) (v : V2) (w : World) : (Instr.typeAssert (namedV h v) 102 104 true).run Try.prog w = .ok (.tuple #[.pointer (asK h v 6), .bool (asK h v 6).isSome]) w := by
  unfold namedV asK
  cases hn : nm h.objs v with
  | none => kernel_rfl
  | some i =>
    simp only
    rw [ta_A _ (kind_at hok (nm_in hn).1)]
    generalize (h.ths.getD i th0).ob.kind = k
    generalize (h.ths.getD i th0).g = g
    split <;> rename_i q <;> simp only [q, decide_true, decide_false, Option.isSome]
theorem tan_R {h : Hp} (hok : h.Ok) (v : V2) (w : World) : (Instr.typeAssert (namedV h v) 102 107 true).run Try.prog w = .ok (.tuple #[.pointer (asK h v 7), .bool (asK h v 7).isSome]) w := by
  unfold namedV asK
  cases hn : nm h.objs v with
  | none => kernel_rfl
  | some i =>
    simp only
    rw [ta_R _ (kind_at hok (nm_in hn).1)]
    generalize (h.ths.getD i th0).ob.kind = k
    generalize (h.ths.getD i th0).g = g
    split <;> rename_i q <;> simp only [q, decide_true, decide_false, Option.isSome]
def trapK (o : Option Addr) : Int := match o with | some _ => 0 | none => 1
theorem channel_ok (w0 w : World) (L : List Chunk) (h : Hp) (hm : Mem w0 w L) (hh : HpC h ∈ L) (hok : Fact h.Ok) (K N : Int) :
    Calls Try.prog 54 #[.pointer (some ⟨h.g, 0, none⟩), .agg #[.int .i64 K, .int .i64 N]] w fun e w' => e = .returned (.tuple #[.pointer (asK h (K, N) 9), .int .i64 (trapK (asK h (K, N) 9))]) ∧ Gr w w' := by
  go_enter Try.func54, Try.ntmps54
  go_upto_region 1 with (fail)
  have hm1 := hm.alloc (.cells [.int .i64 K, .int .i64 N].toArray 27)
  generalize hgb : w.heap.size = gb at hm1 ⊢
  generalize hw1 : w.alloc (.cells [.int .i64 K, .int .i64 N].toArray 27) = w1 at hm1
  try refine wp_world hw1 ?_
  have hg1 : Gr w w1 := by rw [← hw1]; exact (Gr.refl w).alloc _
  clear hw1 hgb
  go_wp2_with (refine wp_rng rfl 27 _ rfl gb 0 rfl (cV (K, N)) (rng_blk hm1 m0) row_V sz_V ?_)
  refine (named_ok w0 w1 _ h hm1 (.tail _ hh) hok K N).mono ?_
  rintro e w2 ⟨rfl, hg2⟩
  have hta := tan_C hok.out (K, N) w2
  generalize namedV h (K, N) = nv at hta ⊢
  have hgr : Gr w w2 := hg1.trans hg2
  cases hq : asK h (K, N) 9 with
  | none =>
    rw [hq] at hta
    simp only [Option.isSome] at hta
    go_wp2
    go_ret2
    exact ⟨by rw [hq]; rfl, hgr⟩
  | some a =>
    rw [hq] at hta
    simp only [Option.isSome] at hta
    go_wp2
    go_ret2
    exact ⟨by rw [hq]; rfl, hgr⟩
end Go.Proofs.Ytpibchjkmaghnaa
