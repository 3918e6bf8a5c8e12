/- Own words for memory: chunks with footprints, read facts, and the laws of append over them. No program in sight. -/
import Derived.WalkKit
import Derived.KernelRfl
import Derived.Deep.LoopGhost
import Derived.Deep.QuietTactic
import Derived.BigQuiet
import Derived.Deep.Draws
import Derived.Deep.DeepCutAuto
import Derived.Deep.CutBlock
import Derived.Deep.RegionHeld3
import Derived.OwnWalk
import Derived.Deep.DeepFit
import Derived.Deep.DeepMust
import Derived.Outline
import Derived.Deep.RegionLaw
namespace Go.Mm
open Go.RowKit

/-- A fact that the walk's simp does not look into. -/
structure Fact (p : Prop) : Prop where mk :: (out : p)

/-- Nothing that was there has changed; there may be more. -/
abbrev Gr (w w' : World) : Prop := Below w.heap.size w w'
theorem Gr.refl (w : World) : Gr w w := Below.refl _ _
theorem Gr.trans {a b c : World} (h : Gr a b) (k : Gr b c) : Gr a c := Below.trans h (Below.mono k h.size)
theorem Gr.alloc {a b : World} (h : Gr a b) (o : Obj) : Gr a (b.alloc o) := Below.alloc h h.size o
theorem Gr.drew {a b : World} (h : Gr a b) : Gr a b.drew := Below.drew h
theorem Gr.drewN {a b : World} (h : Gr a b) (n : Nat) : Gr a (b.drewN n) := ⟨h.os, h.tape, h.output, h.size, h.block⟩
theorem Gr.cell {w w' : World} (h : Gr w w') {a : Addr} {v : Value} (hc : w.cell? a = some v) : w'.cell? a = some v :=
  (Below.cell h (World.block_lt_of_cell? w a hc)).trans hc
theorem Gr.heap {w w' : World} (h : Gr w w') {k : Nat} {o : Obj} (hc : w.heap[k]? = some o) : w'.heap[k]? = some o := by
  rw [h.block k (Array.getElem?_eq_some_iff.1 hc).1]; exact hc

/-- What stands in some blocks. -/
structure Chunk where
  foot : Nat → Prop
  ok : World → Prop
  loc : ∀ w w' : World, (∀ k, foot k → w'.heap[k]? = w.heap[k]?) → ok w → ok w'

/-- One block, known whole. -/
def Blk (g : Nat) (o : Obj) : Chunk := ⟨fun k => k = g, fun w => w.heap[g]? = some o, fun w w' h hw => by rw [h g rfl]; exact hw⟩

/-- The block of a slice that has room. -/
def sfoot (v : Value) (k : Nat) : Prop := ∃ off n c, v = .slice (some ⟨k, off, none⟩) n c ∧ c ≠ 0

/-- Each of them is one cell. -/
def One (xs : List Value) : Prop := ∀ u, u ∈ xs → u.oneCell' = true
theorem One.nil : One [] := by simp [One]
theorem One.append {xs ys : List Value} (h : One xs) (k : One ys) : One (xs ++ ys) := fun u hu => (List.mem_append.1 hu).elim (h u) (k u)
theorem One.take {xs : List Value} (h : One xs) (n : Nat) : One (xs.take n) := fun u hu => h u (List.mem_of_mem_take hu)
theorem One.drop {xs : List Value} (h : One xs) (n : Nat) : One (xs.drop n) := fun u hu => h u (List.mem_of_mem_drop hu)

def OwnAt (size : Nat) (v : Value) (xs : List Value) (w : World) : Prop :=
  ∃ a n c, v = .slice a n c ∧ xs.length = n * size ∧ n ≤ c ∧ c ≤ maxLen ∧ One xs ∧
    (c = 0 ∨ ∃ g off t cur, a = some ⟨g, off, none⟩ ∧ w.heap[g]? = some (.cells cur t (0, 0)) ∧ off + c * size ≤ cur.size ∧ (cur.toList.drop off).take (n * size) = xs)

/-- A slice whose memory is its own. -/
def Own (size : Nat) (v : Value) (xs : List Value) : Chunk :=
  ⟨sfoot v, OwnAt size v xs, by
    rintro w w' h ⟨a, n, c, rfl, h1, h2, h3, ho, h4⟩
    refine ⟨a, n, c, rfl, h1, h2, h3, ho, ?_⟩
    rcases h4 with h4 | ⟨g, off, t, cur, rfl, hg, h5, h6⟩
    · exact .inl h4
    · by_cases hc : c = 0
      · exact .inl hc
      · exact .inr ⟨g, off, t, cur, rfl, by rw [h g ⟨off, n, c, rfl, hc⟩]; exact hg, h5, h6⟩⟩

/-- A slice that reads as these cells. -/
def RdC (w : World) (size : Nat) (v : Value) (xs : List Value) : Prop :=
  ∃ a n c, v = .slice a n c ∧ xs.length = n * size ∧ n ≤ c ∧ c ≤ maxLen ∧ One xs ∧ ∀ j u, xs[j]? = some u → ∃ ad, a = some ad ∧ w.cell? (ad.add j) = some u

theorem add_lit (g o j : Nat) : (⟨g, o, none⟩ : Addr).add j = ⟨g, o + j, none⟩ := by unfold Addr.add; split <;> simp_all

theorem OwnAt.rd {size : Nat} {v : Value} {xs : List Value} {w : World} (h : OwnAt size v xs w) : RdC w size v xs := by
  obtain ⟨a, n, c, rfl, h1, h2, h3, ho, h4⟩ := h
  refine ⟨a, n, c, rfl, h1, h2, h3, ho, fun j u hj => ?_⟩
  rcases h4 with h4 | ⟨g, off, t, cur, rfl, hg, h5, h6⟩
  · have : n = 0 := by omega
    subst this
    have : xs = [] := List.eq_nil_of_length_eq_zero (by simpa using h1)
    subst this
    simp at hj
  · refine ⟨_, rfl, ?_⟩
    rw [add_lit, cell_of_row w g _ cur t (0, 0) hg]
    rw [← h6, List.getElem?_take] at hj
    split at hj
    · simpa using hj
    · cases hj

theorem RdC.gr {w w' : World} {size : Nat} {v : Value} {xs : List Value} (h : RdC w size v xs) (hg : Gr w w') : RdC w' size v xs := by
  obtain ⟨a, n, c, rfl, h1, h2, h3, ho, h4⟩ := h
  exact ⟨a, n, c, rfl, h1, h2, h3, ho, fun j u hj => let ⟨ad, e, hc⟩ := h4 j u hj; ⟨ad, e, hg.cell hc⟩⟩

theorem RdC.nil (w : World) (size : Nat) : RdC w size (.slice none 0 0) [] := ⟨none, 0, 0, rfl, by simp, Nat.le_refl _, by simp [maxLen], One.nil, by simp⟩

/-- Memory: below w0 as it was; behind it, apart from one another, these chunks. -/
structure Mem (w0 w : World) (L : List Chunk) : Prop where
  below : Below w0.heap.size w0 w
  ok : ∀ c, c ∈ L → c.ok w
  rng : ∀ c, c ∈ L → ∀ k, c.foot k → w0.heap.size ≤ k ∧ k < w.heap.size
  dis : L.Pairwise fun c d => ∀ k, c.foot k → ¬ d.foot k

theorem Mem.start (w : World) : Mem w w [] := ⟨Below.refl _ _, by simp, by simp, .nil⟩

theorem Mem.gr {w0 w w' : World} {L : List Chunk} (h : Mem w0 w L) (hg : Gr w w') : Mem w0 w' L :=
  ⟨h.below.trans (hg.mono h.below.size), fun c hc => c.loc w w' (fun k hk => hg.block k (h.rng c hc k hk).2) (h.ok c hc),
    fun c hc k hk => ⟨(h.rng c hc k hk).1, Nat.lt_of_lt_of_le (h.rng c hc k hk).2 hg.size⟩, h.dis⟩

theorem Mem.drew {w0 w : World} {L : List Chunk} (h : Mem w0 w L) : Mem w0 w.drew L := h.gr (Gr.refl w).drew
theorem Mem.drewN {w0 w : World} {L : List Chunk} (h : Mem w0 w L) (n : Nat) : Mem w0 (w.drewN n) L := h.gr ((Gr.refl w).drewN n)

theorem Mem.sub {w0 w : World} {L L' : List Chunk} (h : Mem w0 w L) (hs : L'.Sublist L) : Mem w0 w L' :=
  ⟨h.below, fun c hc => h.ok c (hs.subset hc), fun c hc => h.rng c (hs.subset hc), h.dis.sublist hs⟩
theorem Mem.tail {w0 w : World} {c : Chunk} {L : List Chunk} (h : Mem w0 w (c :: L)) : Mem w0 w L := h.sub (List.sublist_cons_self _ _)
theorem Mem.perm {w0 w : World} {L L' : List Chunk} (h : Mem w0 w L) (hp : L.Perm L') : Mem w0 w L' :=
  ⟨h.below, fun c hc => h.ok c (hp.mem_iff.2 hc), fun c hc => h.rng c (hp.mem_iff.2 hc), (List.Perm.pairwise_iff (fun {_ _} hxy k h1 h2 => hxy k h2 h1) hp).1 h.dis⟩
theorem Mem.swap {w0 w : World} {a b : Chunk} {L : List Chunk} (h : Mem w0 w (a :: b :: L)) : Mem w0 w (b :: a :: L) := h.perm (.swap _ _ _)
theorem perm_front {α : Type} : ∀ (L : List α) (i : Nat) (hi : i < L.length), L.Perm (L[i] :: L.eraseIdx i)
  | _ :: _, 0, _ => .refl _
  | a :: L, i + 1, hi => by
    simp only [List.getElem_cons_succ, List.eraseIdx_cons_succ]
    exact ((perm_front L i (by simpa using hi)).cons a).trans (.swap _ _ _)
theorem Mem.front (i : Nat) {w0 w : World} {L : List Chunk} (h : Mem w0 w L) (hi : i < L.length) : Mem w0 w (L[i] :: L.eraseIdx i) := h.perm (perm_front L i hi)

/-- Nothing has changed but in S; there may be more. -/
structure Upd (S : Nat → Prop) (w w' : World) : Prop where
  os : w'.os = w.os
  tape : w'.tape = w.tape
  output : w'.output = w.output
  size : w.heap.size ≤ w'.heap.size
  block : ∀ k, k < w.heap.size → ¬ S k → w'.heap[k]? = w.heap[k]?

/-- The first chunk is changed, and may take new blocks. -/
theorem Mem.upd {w0 w w' : World} {c c' : Chunk} {L : List Chunk} (h : Mem w0 w (c :: L)) (hu : Upd c.foot w w') (hok : c'.ok w')
    (hf : ∀ k, c'.foot k → c.foot k ∨ (w.heap.size ≤ k ∧ k < w'.heap.size)) : Mem w0 w' (c' :: L) := by
  have hd := List.pairwise_cons.1 h.dis
  have hlt : ∀ d, d ∈ L → ∀ k, d.foot k → k < w.heap.size := fun d hd k hk => (h.rng d (by simp [hd]) k hk).2
  refine ⟨⟨hu.os.trans h.below.os, hu.tape.trans h.below.tape, hu.output.trans h.below.output, Nat.le_trans h.below.size hu.size, fun k hk => ?_⟩, ?_, ?_, ?_⟩
  · rw [hu.block k (Nat.lt_of_lt_of_le hk h.below.size) (fun hc => by have := (h.rng c (by simp) k hc).1; omega)]
    exact h.below.block k hk
  · intro d hd'
    rcases List.mem_cons.1 hd' with rfl | hd'
    · exact hok
    · exact d.loc w w' (fun k hk => hu.block k (hlt d hd' k hk) (fun hc => hd.1 d hd' k hc hk)) (h.ok d (by simp [hd']))
  · intro d hd' k hk
    rcases List.mem_cons.1 hd' with rfl | hd'
    · rcases hf k hk with h1 | h1
      · have := h.rng c (by simp) k h1
        exact ⟨this.1, Nat.lt_of_lt_of_le this.2 hu.size⟩
      · exact ⟨Nat.le_trans h.below.size h1.1, h1.2⟩
    · have := h.rng d (by simp [hd']) k hk
      exact ⟨this.1, Nat.lt_of_lt_of_le this.2 hu.size⟩
  · refine List.pairwise_cons.2 ⟨fun d hd' k hk hk' => ?_, hd.2⟩
    rcases hf k hk with h1 | h1
    · exact hd.1 d hd' k h1 hk'
    · have := hlt d hd' k hk'
      omega

/-- A new chunk. -/
structure New (w w' : World) (c : Chunk) : Prop where
  gr : Gr w w'
  ok : c.ok w'
  rng : ∀ k, c.foot k → w.heap.size ≤ k ∧ k < w'.heap.size

theorem Mem.new {w0 w w' : World} {c : Chunk} {L : List Chunk} (h : Mem w0 w L) (hn : New w w' c) : Mem w0 w' (c :: L) := by
  have h' := h.gr hn.gr
  refine ⟨h'.below, ?_, ?_, List.pairwise_cons.2 ⟨fun d hd k hk hk' => ?_, h.dis⟩⟩
  · intro d hd
    rcases List.mem_cons.1 hd with rfl | hd
    · exact hn.ok
    · exact h'.ok d hd
  · intro d hd k hk
    rcases List.mem_cons.1 hd with rfl | hd
    · exact ⟨Nat.le_trans h.below.size (hn.rng k hk).1, (hn.rng k hk).2⟩
    · exact h'.rng d hd k hk
  · have := (h.rng d hd k hk').2
    have := (hn.rng k hk).1
    omega

theorem Mem.alloc {w0 w : World} {L : List Chunk} (h : Mem w0 w L) (o : Obj) : Mem w0 (w.alloc o) (Blk w.heap.size o :: L) :=
  h.new ⟨(Gr.refl w).alloc o, heap_alloc_new w o, fun k hk => by cases hk; simp⟩

theorem Mem.new_of {w w' : World} {c : Chunk} (h : Mem w w' [c]) : New w w' c := ⟨h.below, h.ok c (by simp), h.rng c (by simp)⟩

theorem Mem.rd {w0 w : World} {L : List Chunk} (h : Mem w0 w L) {size : Nat} {v : Value} {xs : List Value} (hm : Own size v xs ∈ L) : RdC w size v xs := (h.ok _ hm).rd

theorem Mem.nil {w0 w : World} {L : List Chunk} (h : Mem w0 w L) (size : Nat) (a : Option Addr) : Mem w0 w (Own size (.slice a 0 0) [] :: L) :=
  h.new ⟨Gr.refl w, ⟨a, 0, 0, rfl, by simp, Nat.le_refl _, by simp [maxLen], One.nil, .inl rfl⟩, fun k hk => by obtain ⟨_, _, _, e, hc⟩ := hk; cases e; exact (hc rfl).elim⟩


theorem run_first {P : Program} (w : World) (size n : Nat) (a : Option Addr) (len cap : Nat) (cs : List Value) (hl : cs.length = n * size)
    (h : ∀ j u, cs[j]? = some u → ∃ ad, a = some ad ∧ w.cell? (ad.add j) = some u) :
    (Builtin.firstCells size n (.slice a len cap)).run P w = .ok cs.toArray w := by
  cases a with
  | none =>
    have : cs = [] := by
      cases cs with
      | nil => rfl
      | cons u us => obtain ⟨ad, e, _⟩ := h 0 u rfl; cases e
    subst this
    exact run_firstCells_none w size n len cap
  | some ad => exact run_firstCells_some w size n ad len cap cs hl fun j v hj => let ⟨ad', e, hc⟩ := h j v hj; by cases e; exact hc

theorem run_app_grow {P : Program} (w : World) (t ty e : TypeId) (i : TypeInfo) (z : Value) (ht : P.underlying t = some (.slice e)) (hi : P.info? e = some i) (hz : i.zero = some z)
    (b : Option Addr) (sLen sCap : Nat) (olds : List Value) (hlo : olds.length = sLen * i.size) (holds : ∀ j v, olds[j]? = some v → ∃ ad, b = some ad ∧ w.cell? (ad.add j) = some v)
    (a : Option Addr) (n c : Nat) (news : List Value) (hl : news.length = n * i.size) (hnews : ∀ j v, news[j]? = some v → ∃ ad, a = some ad ∧ w.cell? (ad.add j) = some v)
    (hg : sCap < sLen + n) (h63 : ((sLen + n : Nat) : Int) ≤ 9223372036854775807) (hfit : Builtin.nextslicecap (sLen + n) sCap * i.bytes ≤ 281474976710656) :
    (Builtin.append_ #[t, t] ty #[.slice b sLen sCap, .slice a n c]).run P w =
      .ok (.slice (some ⟨w.heap.size, 0, none⟩) (sLen + n) (grownCap w (sLen + n) sCap e))
        (w.drew.alloc (.cells (olds.toArray ++ news.toArray ++ Builtin.zeroCells z.cells (grownCap w (sLen + n) sCap e - (sLen + n))) e)) := by
  have hn : ¬ (sLen + n ≤ sCap) := by omega
  have h63' : ¬ (9223372036854775807 < ((sLen : Int) + (n : Int))) := by omega
  have h48' : ¬ (281474976710656 < Builtin.nextslicecap (sLen + n) sCap * i.bytes) := by omega
  have hf := run_first (P := P) w.drew i.size n a n c news hl (by simpa using hnews)
  have hfo := run_first (P := P) w.drew i.size sLen b sLen sCap olds hlo (by simpa using holds)
  simp [Builtin.append_, run_underlying ht, sizeOf, typeInfo, zeroValue, hi, hz, Builtin.lenOf, hn, h63', h48', Question.forced, hf, hfo, newRow, grownCap]
  congr 2
  apply Array.ext'
  simp [List.append_assoc]

theorem run_app {P : Program} (w : World) (t ty e : TypeId) (i : TypeInfo) (z : Value) (size bytes : Nat) (ht : P.underlying t = some (.slice e)) (hi : P.info? e = some i) (hz : i.zero = some z)
    (hsize : i.size = size) (hby : i.bytes = bytes) (hzs : z.cells.size = size)
    (b : Option Addr) (n c : Nat) (xs : List Value) (hown : OwnAt size (.slice b n c) xs w)
    (a : Option Addr) (m d : Nat) (news : List Value) (hnews : RdC w size (.slice a m d) news)
    (h63 : n + m ≤ maxLen) (hbytes : (n + m) * bytes ≤ 140737488355328) :
    ∃ b' c' w', (Builtin.append_ #[t, t] ty #[.slice b n c, .slice a m d]).run P w = .ok (.slice b' (n + m) c') w' ∧ OwnAt size (.slice b' (n + m) c') (xs ++ news) w' ∧
      Upd (sfoot (.slice b n c)) w w' ∧ ∀ k, sfoot (.slice b' (n + m) c') k → sfoot (.slice b n c) k ∨ (w.heap.size ≤ k ∧ k < w'.heap.size) := by
  subst hsize
  subst hby
  have hrd := hown.rd
  obtain ⟨_, _, _, e1, hxl, hnc, hcm, hox, hrx⟩ := hrd
  cases e1
  obtain ⟨_, _, _, e2, hl, _, _, h1, hrn⟩ := hnews
  cases e2
  have hsmall : n + m ≤ 9223372036854775807 := by simp only [maxLen] at h63; omega
  have hlen : (xs ++ news).length = (n + m) * i.size := by rw [List.length_append, hxl, hl, Nat.add_mul]
  by_cases hroom : n + m ≤ c
  · obtain ⟨_, _, _, e3, _, _, _, _, h4⟩ := hown
    cases e3
    by_cases hc0 : c = 0
    · obtain rfl : n = 0 := by omega
      obtain rfl : m = 0 := by omega
      subst hc0
      have hx0 : xs = [] := List.eq_nil_of_length_eq_zero (by simpa using hxl)
      have hn0 : news = [] := List.eq_nil_of_length_eq_zero (by simpa using hl)
      subst hx0
      subst hn0
      refine ⟨b, 0, w, ?_, ⟨b, 0, 0, rfl, by simp, Nat.le_refl _, by simp [maxLen], One.nil, .inl rfl⟩, ⟨rfl, rfl, rfl, Nat.le_refl _, fun _ _ _ => rfl⟩, fun k hk => .inl hk⟩
      have hf := run_first (P := P) w i.size 0 a 0 d [] (by simp) (by simp)
      cases b <;> simp [Builtin.append_, run_underlying ht, sizeOf, typeInfo, hi, Builtin.lenOf, hf, storeCells]
    · rcases h4 with h4 | ⟨g, off, tt, cur, rfl, hg, h5, h6⟩
      · exact (hc0 h4).elim
      have hf := run_first (P := P) w i.size m a m d news hl hrn
      have hle : n * i.size + news.length ≤ c * i.size := by rw [hl, ← Nat.add_mul]; exact Nat.mul_le_mul_right _ hroom
      have hst := run_storeCells_at P g (off + n * i.size) tt news 0 cur w hg (by omega) h1
      simp only [Nat.add_zero] at hst
      generalize hcur : (cur.toList.take (off + n * i.size) ++ news ++ cur.toList.drop (off + n * i.size + news.length)).toArray = cur' at hst
      refine ⟨some ⟨g, off, none⟩, c, w.setRow g cur', ?_, ⟨_, _, _, rfl, hlen, hroom, hcm, hox.append h1, .inr ⟨g, off, tt, cur', rfl, setRow_heap w g cur cur' tt _ hg, ?_, ?_⟩⟩,
        ⟨rfl, rfl, rfl, by simp, fun k _ hk => setRow_other w g k cur' (fun e => hk ⟨off, n, c, by rw [e], hc0⟩)⟩, fun k hk => .inl ?_⟩
      · simp [Builtin.append_, run_underlying ht, sizeOf, typeInfo, hi, Builtin.lenOf, hroom, hf, add_lit, hst]
      · subst hcur
        simp only [List.size_toArray, List.length_append, List.length_take, List.length_drop, Array.length_toList]
        omega
      · have hlx : xs.length = n * i.size := hxl
        rw [hlen.symm]
        subst hcur
        have hpre : (cur.toList.take (off + n * i.size)).drop off = xs := by
          rw [← h6, List.drop_take]
          congr 1
          omega
        rw [List.append_assoc, List.drop_append_of_le_length (by simp; omega), hpre, ← List.append_assoc]
        exact List.take_left
      · obtain ⟨o', n', c', e', hc'⟩ := hk
        cases e'
        exact ⟨off, n, c, rfl, hc0⟩
  · have hr := run_app_grow (P := P) w t ty e i z ht hi hz b n c xs hxl hrx a m d news hl hrn (by omega) (by omega) (growslice_fits (by omega) hbytes)
    have hge := grownCap_ge w (n + m) c e
    have hcm' : grownCap w (n + m) c e ≤ maxLen := grownCap_le_maxLen w (n + m) c e h63
    refine ⟨_, _, _, hr, ⟨_, _, _, rfl, hlen, hge, hcm', hox.append h1, .inr ⟨w.heap.size, 0, e, _, rfl, heap_alloc_new w.drew _, ?_, ?_⟩⟩,
      ⟨rfl, rfl, rfl, by simp, fun k hk _ => Below.heap_alloc w.drew _ k hk⟩, fun k hk => .inr ?_⟩
    · simp only [Array.size_append, List.size_toArray, size_zeroCells, hzs, hxl, hl, ← Nat.add_mul]
      rw [Nat.zero_add]
      exact Nat.mul_le_mul_right _ (by omega)
    · simp only [Array.toList_append, List.append_assoc, List.drop_zero]
      rw [← List.append_assoc, ← hlen]
      exact List.take_left
    · obtain ⟨o', n', c', e', hc'⟩ := hk
      cases e'
      simp

/-- append as one step of a region that draws its order ('go_region_law'). -/
theorem step_app {P : Program} {ops : Array Oper} {o : Oper} {a : Act} {K : Act → World → Prop} {Q : Exit → Act → World → Prop} {E : Prop} {w0 w : World} {L : List Chunk} (hgd : o.guard = none) (s x : Operand) (t : TypeId)
    (ho : o.op = .call { callee := .builtin .append, args := #[s, x], argTypes := #[t, t] })
    (e : TypeId) (i : TypeInfo) (z : Value) (size bytes : Nat) (ht : P.underlying t = some (.slice e)) (hi : P.info? e = some i) (hz : i.zero = some z)
    (hsize : i.size = size) (hby : i.bytes = bytes) (hzs : z.cells.size = size)
    (b : Option Addr) (n c : Nat) (xs : List Value) (hs : a.eval s = .slice b n c) (hm : Mem w0 w (Own size (.slice b n c) xs :: L))
    (ad : Option Addr) (m d : Nat) (news : List Value) (hx : a.eval x = .slice ad m d) (hnews : RdC w size (.slice ad m d) news)
    (h63 : n + m ≤ maxLen) (hbytes : (n + m) * bytes ≤ 140737488355328)
    (h : ∀ b' c' w', Mem w0 w' (Own size (.slice b' (n + m) c') (xs ++ news) :: L) → K (a.put o.dst (.slice b' (n + m) c')) w') :
    if Region.wanted o (yielded ops a.tmps) = true then Oper.wp P o a w K Q else E := by
  have hw : Region.wanted o (yielded ops a.tmps) = true := by simp [Region.wanted, hgd]
  rw [if_pos hw]
  obtain ⟨b', c', w', hr, h2, h3, h4⟩ := run_app (P := P) w t o.type e i z size bytes ht hi hz hsize hby hzs b n c xs (hm.ok _ (List.mem_cons_self ..)) ad m d news hnews h63 hbytes
  unfold Oper.wp execOp
  simp only [ho, resolve, invoke, builtin, Sem.run_bind, Sem.run_pure, Result.andThen_ok, List.map_toArray, List.map_cons, List.map_nil, hs, hx, hr]
  exact h b' c' w' (hm.upd h3 h2 h4)

/-- append(v, news..) onto a slice of one's own, the first chunk. -/
theorem wp_app {P : Program} {ops : Array Oper} {rest : List Oper} {o : Oper} {a : Act} {Q : Exit → Act → World → Prop} {w0 w : World} {L : List Chunk} (hgd : o.guard = none) (s x : Operand) (t : TypeId)
    (ho : o.op = .call { callee := .builtin .append, args := #[s, x], argTypes := #[t, t] })
    (e : TypeId) (i : TypeInfo) (z : Value) (size bytes : Nat) (ht : P.underlying t = some (.slice e)) (hi : P.info? e = some i) (hz : i.zero = some z)
    (hsize : i.size = size) (hby : i.bytes = bytes) (hzs : z.cells.size = size)
    (b : Option Addr) (n c : Nat) (xs : List Value) (hs : a.eval s = .slice b n c) (hm : Mem w0 w (Own size (.slice b n c) xs :: L))
    (ad : Option Addr) (m d : Nat) (news : List Value) (hx : a.eval x = .slice ad m d) (hnews : RdC w size (.slice ad m d) news)
    (h63 : n + m ≤ maxLen) (hbytes : (n + m) * bytes ≤ 140737488355328)
    (h : ∀ b' c' w', Mem w0 w' (Own size (.slice b' (n + m) c') (xs ++ news) :: L) → wpList P ops Q rest (a.put o.dst (.slice b' (n + m) c')) w') : wpList P ops Q (o :: rest) a w :=
  wpList_plain hgd fun K hK => by
    obtain ⟨b', c', w', hr, h2, h3, h4⟩ := run_app (P := P) w t o.type e i z size bytes ht hi hz hsize hby hzs b n c xs (hm.ok _ (List.mem_cons_self ..)) ad m d news hnews h63 hbytes
    unfold Oper.wp execOp
    simp only [ho, resolve, invoke, builtin, Sem.run_bind, Sem.run_pure, Result.andThen_ok, List.map_toArray, List.map_cons, List.map_nil, hs, hx, hr]
    exact hK _ _ (h b' c' w' (hm.upd h3 h2 h4))


theorem add_add (a : Addr) (i j : Nat) : (a.add i).add j = a.add (i + j) := by
  unfold Addr.add
  by_cases hi : i = 0
  · subst hi; simp
  · by_cases hj : j = 0
    · subst hj; simp [hi]
    · simp [hi, hj, Nat.add_assoc]

theorem spot_of_cell {w : World} {a : Addr} {u : Value} (h : w.cell? a = some u) : a.spot = none := by
  unfold World.cell? at h
  split at h
  · cases hs : a.spot with
    | none => rfl
    | some s => simp [hs] at h
  · cases h

/-- Element k of a slice that reads as these cells. -/
theorem RdC.at {w : World} {size : Nat} {A : Option Addr} {n c : Nat} {cs : List Value} (h : RdC w size (.slice A n c) cs) (hs : 0 < size) (k : Nat) (hk : k < n) :
    ∃ b o us, A = some ⟨b, o, none⟩ ∧ us.length = size ∧ (∀ j u, us[j]? = some u → w.cell? ⟨b, o + k * size + j, none⟩ = some u) ∧ cs.take ((k + 1) * size) = cs.take (k * size) ++ us ∧ us = (cs.drop (k * size)).take size ∧ One us := by
  obtain ⟨_, _, _, e, hl, hnc, hcm, ho, hr⟩ := h
  cases e
  have hle : k * size + size ≤ cs.length := by
    rw [hl, ← Nat.succ_mul]
    exact Nat.mul_le_mul_right _ hk
  obtain ⟨ad, rfl, h0⟩ := hr 0 _ (List.getElem?_eq_getElem (by omega))
  have hsp := spot_of_cell h0
  obtain ⟨b, o, sp⟩ := ad
  have hsp : sp = none := by simpa [Addr.add] using hsp
  subst hsp
  refine ⟨b, o, (cs.drop (k * size)).take size, rfl, by simp; omega, fun j u hj => ?_, ?_, rfl, (ho.drop _).take _⟩
  · rw [List.getElem?_take] at hj
    split at hj
    · rw [List.getElem?_drop] at hj
      obtain ⟨ad', e, hc⟩ := hr _ _ hj
      cases e
      rw [add_lit] at hc
      rw [Nat.add_assoc]
      exact hc
    · cases hj
  · rw [Nat.succ_mul, List.take_add]

theorem list1 {α : Type} {l : List α} (h : l.length = 1) : ∃ a, l = [a] := by
  match l, h with
  | [a], _ => exact ⟨a, rfl⟩
theorem list2 {α : Type} {l : List α} (h : l.length = 2) : ∃ a b, l = [a, b] := by
  match l, h with
  | [a, b], _ => exact ⟨a, b, rfl⟩
theorem list3 {α : Type} {l : List α} (h : l.length = 3) : ∃ a b c, l = [a, b, c] := by
  match l, h with
  | [a, b, c], _ => exact ⟨a, b, c, rfl⟩

/-- Element k of a slice of one-cell elements. -/
theorem RdC.at1 {w : World} {A : Option Addr} {n c : Nat} {cs : List Value} (h : RdC w 1 (.slice A n c) cs) (k : Nat) (hk : k < n) :
    ∃ b o c0, A = some ⟨b, o, none⟩ ∧ w.cell? ⟨b, o + k, none⟩ = some c0 ∧ cs[k]? = some c0 ∧ cs.take (k + 1) = cs.take k ++ [c0] ∧ One [c0] := by
  obtain ⟨b, o, us, rfl, hl, hc, ht, hu, ho⟩ := h.at (by omega) k hk
  obtain ⟨c0, rfl⟩ := list1 hl
  simp only [Nat.mul_one] at hc ht hu
  have h2 : ((cs.drop k).take 1)[0]? = some c0 := by rw [← hu]; rfl
  exact ⟨b, o, c0, rfl, hc 0 c0 rfl, by simpa using h2, ht, ho⟩

/-- Element k of a slice of two-cell elements. -/
theorem RdC.at2 {w : World} {A : Option Addr} {n c : Nat} {cs : List Value} (h : RdC w 2 (.slice A n c) cs) (k : Nat) (hk : k < n) :
    ∃ b o c0 c1, A = some ⟨b, o, none⟩ ∧ w.cell? ⟨b, o + k * 2, none⟩ = some c0 ∧ w.cell? ⟨b, o + k * 2 + 1, none⟩ = some c1 ∧ cs.take ((k + 1) * 2) = cs.take (k * 2) ++ [c0, c1] ∧ (cs.drop (k * 2)).take 2 = [c0, c1] ∧ One [c0, c1] := by
  obtain ⟨b, o, us, rfl, hl, hc, ht, hu, ho⟩ := h.at (by omega) k hk
  obtain ⟨c0, c1, rfl⟩ := list2 hl
  exact ⟨b, o, c0, c1, rfl, hc 0 c0 rfl, hc 1 c1 rfl, ht, hu.symm, ho⟩

theorem wp_world {P : Program} {c : Code} {Q : Exit → Act → World → Prop} {a : Act} {w w1 : World} (h : w = w1) (H : c.wp P Q a w1) : c.wp P Q a w := by subst h; exact H
theorem wpList_world {P : Program} {ops l : List Oper} {Q : Exit → Act → World → Prop} {a : Act} {w w1 : World} (h : w = w1) (H : wpList P ops.toArray Q l a w1) : wpList P ops.toArray Q l a w := by subst h; exact H

/-- Whole numbers as values. -/
def nums (k : IntKind) (xs : List Int) : List Value := xs.map (.int k)
@[simp] theorem length_nums (k : IntKind) (xs : List Int) : (nums k xs).length = xs.length := by simp [nums]
theorem nums_at (k : IntKind) (xs : List Int) (i : Nat) (h : i < xs.length) : (nums k xs)[i]? = some (.int k xs[i]) := by simp [nums, h]
theorem nums_getD (k : IntKind) (xs : List Int) (i : Nat) (h : i < xs.length) : (nums k xs)[i]? = some (.int k (xs.getD i 0)) := by simp [nums, h]
theorem nums_set (k : IntKind) (xs : List Int) (i : Nat) (x : Int) : (nums k xs).set i (.int k x) = nums k (xs.set i x) := by simp [nums, List.map_set]
theorem One.nums (k : IntKind) (xs : List Int) : One (nums k xs) := fun u hu => by
  obtain ⟨x, _, rfl⟩ := List.mem_map.1 hu
  rfl

theorem m0 {α : Type} {a : α} {l : List α} : a ∈ a :: l := .head _
theorem m1 {α : Type} {a b : α} {l : List α} : a ∈ b :: a :: l := .tail _ m0
theorem m2 {α : Type} {a b c : α} {l : List α} : a ∈ b :: c :: a :: l := .tail _ m1
theorem m3 {α : Type} {a b c d : α} {l : List α} : a ∈ b :: c :: d :: a :: l := .tail _ m2
theorem m4 {α : Type} {a b c d e : α} {l : List α} : a ∈ b :: c :: d :: e :: a :: l := .tail _ m3
theorem m5 {α : Type} {a b c d e f : α} {l : List α} : a ∈ b :: c :: d :: e :: f :: a :: l := .tail _ m4
theorem m6 {α : Type} {a b c d e f g : α} {l : List α} : a ∈ b :: c :: d :: e :: f :: g :: a :: l := .tail _ m5
theorem Mem.blk {w0 w : World} {L : List Chunk} (h : Mem w0 w L) {g : Nat} {o : Obj} (hm : Blk g o ∈ L) : w.heap[g]? = some o := h.ok _ hm

theorem Mem.cell {w0 w : World} {L : List Chunk} (h : Mem w0 w L) {g : Nat} {cs : List Value} {t : TypeId} {fr : Nat × Nat} (hm : Blk g (.cells cs.toArray t fr) ∈ L) (i : Nat) {u : Value} (hu : cs[i]? = some u) : w.cell? ⟨g, i, none⟩ = some u := by
  rw [cell_of_row w g i cs.toArray t fr (h.blk hm)]; simpa using hu
theorem Mem.free {w0 w : World} {L : List Chunk} (h : Mem w0 w L) {g : Nat} {cs : List Value} {t : TypeId} (hm : Blk g (.cells cs.toArray t) ∈ L) (i : Nat) : w.frozen? ⟨g, i, none⟩ = false := by
  simp [World.frozen?, h.blk hm]

/-- A store into a known block, the first chunk. -/
theorem Mem.set {w0 w : World} {L : List Chunk} {g : Nat} {cs : List Value} {t : TypeId} (h : Mem w0 w (Blk g (.cells cs.toArray t) :: L)) (i : Nat) (u : Value) :
    Mem w0 (w.setCell ⟨g, i, none⟩ u) (Blk g (.cells (cs.set i u).toArray t) :: L) := by
  have hg := h.blk (List.mem_cons_self ..)
  refine h.upd ⟨rfl, rfl, rfl, by simp [World.setCell], fun k _ hk => Below.heap_setCell _ _ _ _ hk⟩ ?_ (fun k hk => .inl hk)
  show (w.setCell ⟨g, i, none⟩ u).heap[g]? = _
  simp [World.setCell, Array.getElem?_modify, hg]

/-- An element of an array of numbers, by an index that fits. -/
theorem run_index_nums {P : Program} (W : World) (T e n : Nat) (k : IntKind) (xs : List Int) (i : Nat) (hT : P.underlying T = some (.array n e)) (he : P.underlying e = some (.int k)) (hs : (P.info? e).map (·.size) = some 1) (hl : xs.length = n) (hi : i < xs.length) :
    (Instr.index T (.agg (nums k xs).toArray) (.int .i64 (i : Nat))).run P W = .ok (.int k (xs.getD i 0)) W := by
  obtain ⟨inf, hi1, hi2⟩ : ∃ inf, P.info? e = some inf ∧ inf.size = 1 := by
    cases h : P.info? e with
    | none => rw [h] at hs; simp at hs
    | some inf => rw [h] at hs; exact ⟨inf, rfl, by simpa using hs⟩
  have h2 : (i : Int) < (n : Int) := by omega
  have h3 : i < n := by omega
  simp [Instr.index, asIntOf, run_underlying hT, h3, sizeOf, typeInfo, hi1, hi2, part, isAgg, run_underlying he, nums, hi]

theorem mapM_at {α β : Type} {f : α → Option β} {l : List α} {ys : List β} (h : l.mapM f = some ys) : ∀ (i : Nat) (a : α), l[i]? = some a → ∃ y, f a = some y ∧ ys[i]? = some y := by
  induction l generalizing ys with
  | nil => intro i a hi; simp at hi
  | cons a l ih =>
    intro i x hi
    rw [List.mapM_cons] at h
    cases ha : f a with
    | none => rw [ha] at h; simp at h
    | some b =>
      rw [ha] at h
      cases hl : l.mapM f with
      | none => rw [hl] at h; simp at h
      | some bs =>
        rw [hl] at h
        have h : b :: bs = ys := by simpa using h
        subst h
        cases i with
        | zero =>
          obtain rfl : a = x := by simpa using hi
          exact ⟨b, ha, rfl⟩
        | succ i => exact ih hl i x (by simpa using hi)
theorem mapM_length {α β : Type} {f : α → Option β} {l : List α} {ys : List β} (h : l.mapM f = some ys) : ys.length = l.length := by
  induction l generalizing ys with
  | nil => simp at h; simp [h]
  | cons a l ih =>
    rw [List.mapM_cons] at h
    cases ha : f a with
    | none => rw [ha] at h; simp at h
    | some b =>
      rw [ha] at h
      cases hl : l.mapM f with
      | none => rw [hl] at h; simp at h
      | some bs =>
        rw [hl] at h
        have h : b :: bs = ys := by simpa using h
        subst h
        simp [ih hl]
/-- The number in a cell. -/
def numOf : Option Value → Int
  | some (.int _ n) => n
  | _ => 0

section quiet
variable {P : Program} {ops : Array Oper} {C : World → Prop} {Q : Act → Prop} {rest : List Oper} {o : Oper} {a : Act}
/-- One operation that yields one value in whatever world of the class. -/
theorem q_val (hgd : o.guard = none) (v : Value) (hv : ∀ w, C w → (execOp a.eval o).run P w = .ok (.value v) w) (h : wpQuiet P ops C Q rest (a.put o.dst v)) : wpQuiet P ops C Q (o :: rest) a := by
  unfold wpQuiet
  rw [if_pos (by simp [Region.wanted, hgd])]
  exact ⟨v, fun w hw => by unfold Oper.quietAt; rw [hv w hw]; exact ⟨rfl, rfl⟩, h⟩
theorem q_row (hgd : o.guard = none) (ty : TypeId) (x : Operand) (ho : o.op = .load ty x) (g : Nat) (hx : a.eval x = .pointer (some ⟨g, 0, none⟩)) (t : TypeId) (cs : Array Value) (fr : Nat × Nat) (d : TypeDesc)
    (hg : ∀ w, C w → w.heap[g]? = some (.cells cs t fr)) (hu : P.underlying ty = some d) (hd : (match d with | .struct _ | .array _ _ => true | _ => false) = true) (hi : (P.info? ty).map (·.size) = some cs.size)
    (h : wpQuiet P ops C Q rest (a.put o.dst (.agg cs))) : wpQuiet P ops C Q (o :: rest) a :=
  q_val hgd _ (fun w hw => by
    have hl := run_loadVar_row (P := P) w g t ty cs fr d (hg w hw) hu hd hi
    simp [execOp, ho, Instr.loadAt, hx, Instr.sureAddr, hl]) h
theorem run_call (f : FuncId) (fn : Func) (hf : P.funcs[f]? = some fn) (hn : (fn.name == "runtime.NumGoroutine") = false) (hb : fn.body.isNone = false) (args : Array Value) (w : World) : (callFunc f args).run P w = .ok (.enter f args) w := by
  have hn' : ¬ fn.name = "runtime.NumGoroutine" := by simpa using hn
  have hb' : ¬ fn.body = none := by intro e; rw [e] at hb; simp at hb
  simp [callFunc, program, Sem.run, hf, hn', hb']
/-- A call of a function of Go that yields one value. -/
theorem q_call (hgd : o.guard = none) (f : FuncId) (fn : Func) (hf : P.funcs[f]? = some fn) (hn : (fn.name == "runtime.NumGoroutine") = false) (hb : fn.body.isNone = false) (xs : Array Operand) (ts : Array TypeId) (ho : o.op = .call { callee := .value (.func f), args := xs, argTypes := ts }) (args : Array Value) (ha : xs.map a.eval = args) (v : Value)
    (hv : ∀ w, C w → Calls P f args w fun e w' => e = .returned v ∧ C w') (h : wpQuiet P ops C Q rest (a.put o.dst v)) : wpQuiet P ops C Q (o :: rest) a := by
  unfold wpQuiet
  rw [if_pos (by simp [Region.wanted, hgd])]
  refine ⟨v, fun w hw => ?_, h⟩
  have hr : execOp a.eval o = callFunc f (#[] ++ xs.map a.eval ++ #[]) := by
    unfold execOp
    simp only [ho]
    rfl
  unfold Oper.quietAt
  rw [hr, run_call f fn hf hn hb]
  refine ⟨rfl, ?_⟩
  rw [ha]
  simpa using hv w hw
end quiet

theorem RdC.len {w : World} {size : Nat} {A : Option Addr} {n c : Nat} {cs : List Value} (h : RdC w size (.slice A n c) cs) : cs.length = n * size := by
  obtain ⟨_, _, _, e, hl, _⟩ := h
  cases e
  exact hl

theorem OwnAt.addr {size : Nat} {A : Option Addr} {n c : Nat} {xs : List Value} {w : World} (h : OwnAt size (.slice A n c) xs w) (hc : c ≠ 0) : ∃ g off, A = some ⟨g, off, none⟩ := by
  obtain ⟨_, _, _, e, _, _, _, _, h4⟩ := h
  cases e
  rcases h4 with h4 | ⟨g, off, t, cur, rfl, _⟩
  · exact (hc h4).elim
  · exact ⟨g, off, rfl⟩
theorem OwnAt.cap {size : Nat} {A : Option Addr} {n c : Nat} {xs : List Value} {w : World} (h : OwnAt size (.slice A n c) xs w) : n ≤ c ∧ c ≤ maxLen := by
  obtain ⟨_, _, _, e, _, h2, h3, _⟩ := h
  cases e
  exact ⟨h2, h3⟩
theorem OwnAt.len {size : Nat} {A : Option Addr} {n c : Nat} {xs : List Value} {w : World} (h : OwnAt size (.slice A n c) xs w) : xs.length = n * size := h.rd.len
theorem Mem.own_cell {w0 w : World} {L : List Chunk} {size g off n c : Nat} {xs : List Value} (h : Mem w0 w L) (hm : Own size (.slice (some ⟨g, off, none⟩) n c) xs ∈ L) (j : Nat) {u : Value} (hj : xs[j]? = some u) :
    w.cell? ⟨g, off + j, none⟩ = some u ∧ w.frozen? ⟨g, off + j, none⟩ = false := by
  have ho := h.ok _ hm
  obtain ⟨_, _, _, e, _, _, _, _, hr⟩ := ho.rd
  cases e
  obtain ⟨ad, e, hc⟩ := hr j u hj
  cases e
  rw [add_lit] at hc
  refine ⟨hc, ?_⟩
  obtain ⟨_, _, _, e, h1, h2, h3, _, h4⟩ := ho
  cases e
  rcases h4 with h4 | ⟨g', off', t, cur, e, hg, _⟩
  · subst h4
    obtain rfl : n = 0 := by omega
    have : xs = [] := List.eq_nil_of_length_eq_zero (by simpa using h1)
    subst this
    simp at hj
  · cases e
    simp [World.frozen?, hg]
/-- A store into a slice of one's own, the first chunk. -/
theorem Mem.own_set {w0 w : World} {L : List Chunk} {size g off n c : Nat} {xs : List Value} (h : Mem w0 w (Own size (.slice (some ⟨g, off, none⟩) n c) xs :: L)) (j : Nat) (hj : j < xs.length) (v : Value) (hv : v.oneCell' = true) :
    Mem w0 (w.setCell ⟨g, off + j, none⟩ v) (Own size (.slice (some ⟨g, off, none⟩) n c) (xs.set j v) :: L) := by
  obtain ⟨_, _, _, e, h1, h2, h3, ho, h4⟩ := h.ok _ m0
  cases e
  have hn : n ≠ 0 := by rintro rfl; simp at h1; subst h1; simp at hj
  have hc0 : c ≠ 0 := by omega
  rcases h4 with h4 | ⟨g', off', t, cur, e, hg, h5, h6⟩
  · exact (hc0 h4).elim
  cases e
  have hle : n * size ≤ c * size := Nat.mul_le_mul_right _ h2
  refine h.upd ⟨rfl, rfl, rfl, by simp [World.setCell], fun k _ hk => Below.heap_setCell _ _ _ _ (fun e => hk ⟨off, n, c, by rw [e], hc0⟩)⟩ ?_ (fun k hk => .inl hk)
  refine ⟨_, _, _, rfl, by simpa using h1, h2, h3, ?_, .inr ⟨g, off, t, cur.setIfInBounds (off + j) v, rfl, ?_, by simpa using h5, ?_⟩⟩
  · intro u hu
    rcases List.mem_or_eq_of_mem_set hu with hu | rfl
    · exact ho u hu
    · exact hv
  · simp [World.setCell, Array.getElem?_modify, hg]
  · rw [Array.toList_setIfInBounds, List.drop_set, if_neg (by omega), List.take_set, h6]
    congr 1
    omega

theorem nums_append (k : IntKind) (xs ys : List Int) : nums k (xs ++ ys) = nums k xs ++ nums k ys := by simp [nums]
theorem nums_take (k : IntKind) (xs : List Int) (n : Nat) : nums k (xs.take n) = (nums k xs).take n := by simp [nums, List.map_take]
theorem RdC.nlen {w : World} {A : Option Addr} {n c : Nat} {k : IntKind} {xs : List Int} (h : RdC w 1 (.slice A n c) (nums k xs)) : xs.length = n := by simpa using h.len
theorem take_snoc {α : Type} (l : List α) (d : α) (k : Nat) (h : k < l.length) : l.take (k + 1) = l.take k ++ [l.getD k d] := by
  rw [List.take_succ_eq_append_getElem h]
  simp [h]
/-- Number k of a slice of numbers. -/
theorem RdC.num {w : World} {A : Option Addr} {n c : Nat} {q : IntKind} {xs : List Int} (h : RdC w 1 (.slice A n c) (nums q xs)) (k : Nat) (hk : k < n) :
    ∃ b o, A = some ⟨b, o, none⟩ ∧ w.cell? ⟨b, o + k, none⟩ = some (.int q (xs.getD k 0)) ∧ xs.take (k + 1) = xs.take k ++ [xs.getD k 0] := by
  obtain ⟨b, o, c0, e, h1, h2, _⟩ := h.at1 k hk
  have hl := h.nlen
  rw [nums_getD q xs k (by omega)] at h2
  cases h2
  exact ⟨b, o, e, h1, take_snoc _ 0 _ (by omega)⟩

theorem Mem.only {w0 w : World} {c : Chunk} {L : List Chunk} (h : Mem w0 w (c :: L)) : Mem w0 w [c] := h.sub (by simp)
theorem Mem.first2 {w0 w : World} {c d : Chunk} {L : List Chunk} (h : Mem w0 w (c :: d :: L)) : Mem w0 w [c, d] := h.sub (by simp)

/-- The beginning of a slice. -/
theorem RdC.pre {w : World} {size : Nat} {A : Option Addr} {m c : Nat} {cs : List Value} (h : RdC w size (.slice A m c) cs) (k : Nat) (hk : k ≤ m) : RdC w size (.slice A k c) (cs.take (k * size)) := by
  obtain ⟨_, _, _, e, h1, h2, h3, ho, hr⟩ := h
  cases e
  refine ⟨A, k, c, rfl, ?_, by omega, h3, ho.take _, fun j u hj => ?_⟩
  · rw [List.length_take, h1]
    have := Nat.mul_le_mul_right size hk
    omega
  · rw [List.getElem?_take] at hj
    split at hj
    · exact hr j u hj
    · cases hj
theorem RdC.npre {w : World} {A : Option Addr} {m c : Nat} {q : IntKind} {xs ys : List Int} (h : RdC w 1 (.slice A m c) (nums q (xs ++ ys))) (hk : xs.length ≤ m) : RdC w 1 (.slice A xs.length c) (nums q xs) := by
  have := h.pre xs.length hk
  rwa [Nat.mul_one, ← nums_take, List.take_left' rfl] at this

theorem perm3 {α : Type} (a b c : α) : [a, b, c].Perm [c, a, b] := ((List.Perm.swap c b []).cons a).trans (List.Perm.swap c a [b])
/-- A known block reads as a slice over all of it. -/
theorem Mem.rdblk {w0 w : World} {L : List Chunk} (h : Mem w0 w L) {g : Nat} {cs : List Value} {t : TypeId} {fr : Nat × Nat} (hm : Blk g (.cells cs.toArray t fr) ∈ L) (n size : Nat) (hl : cs.length = n * size) (hn : n ≤ maxLen) (ho : One cs) :
    RdC w size (.slice (some ⟨g, 0, none⟩) n n) cs :=
  ⟨_, _, _, rfl, hl, Nat.le_refl _, hn, ho, fun j u hj => ⟨_, rfl, by rw [add_lit, Nat.zero_add]; exact h.cell hm j hj⟩⟩

theorem run_conv_rd {P : Program} (W : World) (src e dst : TypeId) (hs : P.underlying src = some (.slice e)) (he : P.underlying e = some (.int .u8)) (hd : P.underlying dst = some .string) (A : Option Addr) (n c : Nat) (xs : List Int)
    (h : RdC W 1 (.slice A n c) (nums .u8 xs)) : (convert src dst (.slice A n c)).run P W = .ok (.string (strOfNums xs)) W := by
  have h' := h
  obtain ⟨_, _, _, e1, hl, _, _, _, hr⟩ := h
  cases e1
  rw [length_nums, Nat.mul_one] at hl
  cases A with
  | none =>
    have : xs = [] := by
      cases xs with
      | nil => rfl
      | cons x xs => obtain ⟨ad, e1, _⟩ := hr 0 _ (by simp [nums]; rfl); cases e1
    subst this
    rw [run_convert_bytes_nil W src e hs he n c dst hd]
    rfl
  | some ad =>
    rcases Nat.eq_zero_or_pos n with h0 | h0
    · subst h0
      have : xs = [] := List.eq_nil_of_length_eq_zero hl
      subst this
      obtain ⟨b, o, sp⟩ := ad
      rw [run_convert_bytes_string W src dst e _ _ _ hs he hd]
      simp [Conv.bytesToString, loadCells, loadCellsFrom, strOfNums]
      rfl
    · obtain ⟨b, o, c0, e2, _⟩ := h'.at1 0 h0
      cases e2
      refine run_convert_bytes_arg W src e hs he b o n c xs hl (fun i hi => ?_) dst hd
      obtain ⟨b', o', c1, e3, h4, h5, _⟩ := h'.at1 i hi
      cases e3
      rw [h4]
      rw [nums_at .u8 xs i (by omega)] at h5
      cases h5
      simp [List.getD_eq_getElem?_getD, show i < xs.length by omega]

/-- The block that a literal of elements has just been laid in. -/
theorem RdC.lit (w : World) (us : List Value) (e : TypeId) (m size : Nat) (hl : us.length = m * size) (hm : m ≤ maxLen) (ho : One us) :
    RdC (w.alloc (.cells us.toArray e)) size (.slice (some ⟨w.heap.size, 0, none⟩) m m) us :=
  ⟨_, _, _, rfl, hl, Nat.le_refl _, hm, ho, fun j u hj => ⟨_, rfl, by rw [add_lit, Nat.zero_add, World.cell?_alloc_new]; simpa using hj⟩⟩

end Go.Mm
