/- Lemmas of the heap (a part of the heap's texts; written by slice.py). -/
import Derived.BigQuiet
import Derived.Carry
import Derived.ChangeKeysEq
import Derived.Deep.CutBlock
import Derived.Deep.DeepCutAuto
import Derived.Deep.DeepFit
import Derived.Deep.DeepMust
import Derived.Deep.Draws
import Derived.Deep.LoopGhost
import Derived.Deep.MidRow
import Derived.Deep.QuietTactic
import Derived.Deep.RegionHeld3
import Derived.Deep.RegionLaw
import Derived.Deep.Slices
import Derived.KernelRfl
import Derived.Laws.MakeOwn
import Derived.Lib.SliceRun
import Derived.Maps.Own
import Derived.Maps.OwnSet
import Derived.Maps.Views
import Derived.OpenShut
import Derived.OrdersHeld
import Derived.Outline
import Derived.OwnWalk
import Derived.SizedLaws
import Derived.StillTail
import Derived.StillTailTactics
import Derived.WalkKit
import Derived.WalkSpells
import Derived.Test.YtgflfpepfpekhaaGreatProg
set_option linter.unusedVariables false
set_option linter.unusedSimpArgs false
namespace Go.Mm
open Go.RowKit
/-- A fact that the walk's simp does not look into. -/
structure Fact (p : Prop) : Prop where mk :: (out : p)
/-- Nothing that was there has changed; there may be more. -/
abbrev Gr (w w' : World) : Prop := Below w.heap.size w w'
theorem Gr.refl (w : World) : Gr w w := Below.refl _ _
theorem Gr.trans {a b c : World} (h : Gr a b) (k : Gr b c) : Gr a c := Below.trans h (Below.mono k h.size)
theorem Gr.alloc {a b : World} (h : Gr a b) (o : Obj) : Gr a (b.alloc o) := Below.alloc h h.size o
theorem Gr.drew {a b : World} (h : Gr a b) : Gr a b.drew := Below.drew h
theorem Gr.drewN {a b : World} (h : Gr a b) (n : Nat) : Gr a (b.drewN n) := ⟨h.os, h.tape, h.output, h.size, h.block⟩
theorem Gr.cell {w w' : World} (h : Gr w w') {a : Addr} {v : Value} (hc : w.cell? a = some v) : w'.cell? a = some v :=
  (Below.cell h (World.block_lt_of_cell? w a hc)).trans hc
theorem Gr.heap {w w' : World} (h : Gr w w') {k : Nat} {o : Obj} (hc : w.heap[k]? = some o) : w'.heap[k]? = some o := by
  rw [h.block k (Array.getElem?_eq_some_iff.1 hc).1]; exact hc
/-- What stands in some blocks. -/
structure Chunk where
  foot : Nat → Prop
  ok : World → Prop
  loc : ∀ w w' : World, (∀ k, foot k → w'.heap[k]? = w.heap[k]?) → ok w → ok w'
/-- One block, known whole. -/
def Blk (g : Nat) (o : Obj) : Chunk := ⟨fun k => k = g, fun w => w.heap[g]? = some o, fun w w' h hw => by rw [h g rfl]; exact hw⟩
/-- The block of a slice that has room. -/
def sfoot (v : Value) (k : Nat) : Prop := ∃ off n c, v = .slice (some ⟨k, off, none⟩) n c ∧ c ≠ 0
/-- Each of them is one cell. -/
def One (xs : List Value) : Prop := ∀ u, u ∈ xs → u.oneCell' = true
theorem One.nil : One [] := by simp [One]
theorem One.append {xs ys : List Value} (h : One xs) (k : One ys) : One (xs ++ ys) := fun u hu => (List.mem_append.1 hu).elim (h u) (k u)
theorem One.take {xs : List Value} (h : One xs) (n : Nat) : One (xs.take n) := fun u hu => h u (List.mem_of_mem_take hu)
theorem One.drop {xs : List Value} (h : One xs) (n : Nat) : One (xs.drop n) := fun u hu => h u (List.mem_of_mem_drop hu)
def OwnAt (size : Nat) (v : Value) (xs : List Value) (w : World) : Prop :=
  ∃ a n c, v = .slice a n c ∧ xs.length = n * size ∧ n ≤ c ∧ c ≤ maxLen ∧ One xs ∧
    (c = 0 ∨ ∃ g off t cur, a = some ⟨g, off, none⟩ ∧ w.heap[g]? = some (.cells cur t (0, 0)) ∧ off + c * size ≤ cur.size ∧ (cur.toList.drop off).take (n * size) = xs)
/-- A slice whose memory is its own. -/
def Own (size : Nat) (v : Value) (xs : List Value) : Chunk :=
  ⟨sfoot v, OwnAt size v xs, by
    rintro w w' h ⟨a, n, c, rfl, h1, h2, h3, ho, h4⟩
    refine ⟨a, n, c, rfl, h1, h2, h3, ho, ?_⟩
    rcases h4 with h4 | ⟨g, off, t, cur, rfl, hg, h5, h6⟩
    · exact .inl h4
    · by_cases hc : c = 0
      · exact .inl hc
      · exact .inr ⟨g, off, t, cur, rfl, by rw [h g ⟨off, n, c, rfl, hc⟩]; exact hg, h5, h6⟩⟩
/-- A slice that reads as these cells. -/
def RdC (w : World) (size : Nat) (v : Value) (xs : List Value) : Prop :=
  ∃ a n c, v = .slice a n c ∧ xs.length = n * size ∧ n ≤ c ∧ c ≤ maxLen ∧ One xs ∧ ∀ j u, xs[j]? = some u → ∃ ad, a = some ad ∧ w.cell? (ad.add j) = some u
theorem add_lit (g o j : Nat) : (⟨g, o, none⟩ : Addr).add j = ⟨g, o + j, none⟩ := by unfold Addr.add; split <;> simp_all
theorem OwnAt.rd {size : Nat} {v : Value} {xs : List Value} {w : World} (h : OwnAt size v xs w) : RdC w size v xs := by
  obtain ⟨a, n, c, rfl, h1, h2, h3, ho, h4⟩ := h
  refine ⟨a, n, c, rfl, h1, h2, h3, ho, fun j u hj => ?_⟩
  rcases h4 with h4 | ⟨g, off, t, cur, rfl, hg, h5, h6⟩
  · have : n = 0 := by omega
    subst this
    have : xs = [] := List.eq_nil_of_length_eq_zero (by simpa using h1)
    subst this
    simp at hj
  · refine ⟨_, rfl, ?_⟩
    rw [add_lit, cell_of_row w g _ cur t (0, 0) hg]
    rw [← h6, List.getElem?_take] at hj
    split at hj
    · simpa using hj
    · cases hj
theorem RdC.gr {w w' : World} {size : Nat} {v : Value} {xs : List Value} (h : RdC w size v xs) (hg : Gr w w') : RdC w' size v xs := by
  obtain ⟨a, n, c, rfl, h1, h2, h3, ho, h4⟩ := h
  exact ⟨a, n, c, rfl, h1, h2, h3, ho, fun j u hj => let ⟨ad, e, hc⟩ := h4 j u hj; ⟨ad, e, hg.cell hc⟩⟩
theorem RdC.nil (w : World) (size : Nat) : RdC w size (.slice none 0 0) [] := ⟨none, 0, 0, rfl, by simp, Nat.le_refl _, by simp [maxLen], One.nil, by simp⟩
/-- Memory: below w0 as it was; behind it, apart from one another, these chunks. -/
structure Mem (w0 w : World) (L : List Chunk) : Prop where
  below : Below w0.heap.size w0 w
  ok : ∀ c, c ∈ L → c.ok w
  rng : ∀ c, c ∈ L → ∀ k, c.foot k → w0.heap.size ≤ k ∧ k < w.heap.size
  dis : L.Pairwise fun c d => ∀ k, c.foot k → ¬ d.foot k
theorem Mem.start (w : World) : Mem w w [] := ⟨Below.refl _ _, by simp, by simp, .nil⟩
theorem Mem.gr {w0 w w' : World} {L : List Chunk} (h : Mem w0 w L) (hg : Gr w w') : Mem w0 w' L :=
  ⟨h.below.trans (hg.mono h.below.size), fun c hc => c.loc w w' (fun k hk => hg.block k (h.rng c hc k hk).2) (h.ok c hc),
    fun c hc k hk => ⟨(h.rng c hc k hk).1, Nat.lt_of_lt_of_le (h.rng c hc k hk).2 hg.size⟩, h.dis⟩
theorem Mem.drew {w0 w : World} {L : List Chunk} (h : Mem w0 w L) : Mem w0 w.drew L := h.gr (Gr.refl w).drew
theorem Mem.drewN {w0 w : World} {L : List Chunk} (h : Mem w0 w L) (n : Nat) : Mem w0 (w.drewN n) L := h.gr ((Gr.refl w).drewN n)
theorem Mem.sub {w0 w : World} {L L' : List Chunk} (h : Mem w0 w L) (hs : L'.Sublist L) : Mem w0 w L' :=
  ⟨h.below, fun c hc => h.ok c (hs.subset hc), fun c hc => h.rng c (hs.subset hc), h.dis.sublist hs⟩
theorem Mem.tail {w0 w : World} {c : Chunk} {L : List Chunk} (h : Mem w0 w (c :: L)) : Mem w0 w L := h.sub (List.sublist_cons_self _ _)
theorem Mem.perm {w0 w : World} {L L' : List Chunk} (h : Mem w0 w L) (hp : L.Perm L') : Mem w0 w L' :=
  ⟨h.below, fun c hc => h.ok c (hp.mem_iff.2 hc), fun c hc => h.rng c (hp.mem_iff.2 hc), (List.Perm.pairwise_iff (fun {_ _} hxy k h1 h2 => hxy k h2 h1) hp).1 h.dis⟩
theorem Mem.swap {w0 w : World} {a b : Chunk} {L : List Chunk} (h : Mem w0 w (a :: b :: L)) : Mem w0 w (b :: a :: L) := h.perm (.swap _ _ _)
theorem perm_front {α : Type} : ∀ (L : List α) (i : Nat) (hi : i < L.length), L.Perm (L[i] :: L.eraseIdx i)
  | _ :: _, 0, _ => .refl _
  | a :: L, i + 1, hi => by
    simp only [List.getElem_cons_succ, List.eraseIdx_cons_succ]
    exact ((perm_front L i (by simpa using hi)).cons a).trans (.swap _ _ _)
theorem Mem.front (i : Nat) {w0 w : World} {L : List Chunk} (h : Mem w0 w L) (hi : i < L.length) : Mem w0 w (L[i] :: L.eraseIdx i) := h.perm (perm_front L i hi)
/-- Nothing has changed but in S; there may be more. -/
structure Upd (S : Nat → Prop) (w w' : World) : Prop where
  os : w'.os = w.os
  tape : w'.tape = w.tape
  output : w'.output = w.output
  size : w.heap.size ≤ w'.heap.size
  block : ∀ k, k < w.heap.size → ¬ S k → w'.heap[k]? = w.heap[k]?
/-- The first chunk is changed, and may take new blocks. -/
theorem Mem.upd {w0 w w' : World} {c c' : Chunk} {L : List Chunk} (h : Mem w0 w (c :: L)) (hu : Upd c.foot w w') (hok : c'.ok w')
    (hf : ∀ k, c'.foot k → c.foot k ∨ (w.heap.size ≤ k ∧ k < w'.heap.size)) : Mem w0 w' (c' :: L) := by
  have hd := List.pairwise_cons.1 h.dis
  have hlt : ∀ d, d ∈ L → ∀ k, d.foot k → k < w.heap.size := fun d hd k hk => (h.rng d (by simp [hd]) k hk).2
  refine ⟨⟨hu.os.trans h.below.os, hu.tape.trans h.below.tape, hu.output.trans h.below.output, Nat.le_trans h.below.size hu.size, fun k hk => ?_⟩, ?_, ?_, ?_⟩
  · rw [hu.block k (Nat.lt_of_lt_of_le hk h.below.size) (fun hc => by have := (h.rng c (by simp) k hc).1; omega)]
    exact h.below.block k hk
  · intro d hd'
    rcases List.mem_cons.1 hd' with rfl | hd'
    · exact hok
    · exact d.loc w w' (fun k hk => hu.block k (hlt d hd' k hk) (fun hc => hd.1 d hd' k hc hk)) (h.ok d (by simp [hd']))
  · intro d hd' k hk
    rcases List.mem_cons.1 hd' with rfl | hd'
    · rcases hf k hk with h1 | h1
      · have := h.rng c (by simp) k h1
        exact ⟨this.1, Nat.lt_of_lt_of_le this.2 hu.size⟩
      · exact ⟨Nat.le_trans h.below.size h1.1, h1.2⟩
    · have := h.rng d (by simp [hd']) k hk
      exact ⟨this.1, Nat.lt_of_lt_of_le this.2 hu.size⟩
  · refine List.pairwise_cons.2 ⟨fun d hd' k hk hk' => ?_, hd.2⟩
    rcases hf k hk with h1 | h1
    · exact hd.1 d hd' k h1 hk'
    · have := hlt d hd' k hk'
      omega
/-- A new chunk. -/
structure New (w w' : World) (c : Chunk) : Prop where
  gr : Gr w w'
  ok : c.ok w'
  rng : ∀ k, c.foot k → w.heap.size ≤ k ∧ k < w'.heap.size
theorem Mem.new {w0 w w' : World} {c : Chunk} {L : List Chunk} (h : Mem w0 w L) (hn : New w w' c) : Mem w0 w' (c :: L) := by
  have h' := h.gr hn.gr
  refine ⟨h'.below, ?_, ?_, List.pairwise_cons.2 ⟨fun d hd k hk hk' => ?_, h.dis⟩⟩
  · intro d hd
    rcases List.mem_cons.1 hd with rfl | hd
    · exact hn.ok
    · exact h'.ok d hd
  · intro d hd k hk
    rcases List.mem_cons.1 hd with rfl | hd
    · exact ⟨Nat.le_trans h.below.size (hn.rng k hk).1, (hn.rng k hk).2⟩
    · exact h'.rng d hd k hk
  · have := (h.rng d hd k hk').2
    have := (hn.rng k hk).1
    omega
theorem Mem.alloc {w0 w : World} {L : List Chunk} (h : Mem w0 w L) (o : Obj) : Mem w0 (w.alloc o) (Blk w.heap.size o :: L) :=
  h.new ⟨(Gr.refl w).alloc o, heap_alloc_new w o, fun k hk => by cases hk; simp⟩
theorem Mem.new_of {w w' : World} {c : Chunk} (h : Mem w w' [c]) : New w w' c := ⟨h.below, h.ok c (by simp), h.rng c (by simp)⟩
theorem Mem.rd {w0 w : World} {L : List Chunk} (h : Mem w0 w L) {size : Nat} {v : Value} {xs : List Value} (hm : Own size v xs ∈ L) : RdC w size v xs := (h.ok _ hm).rd
theorem Mem.nil {w0 w : World} {L : List Chunk} (h : Mem w0 w L) (size : Nat) (a : Option Addr) : Mem w0 w (Own size (.slice a 0 0) [] :: L) :=
  h.new ⟨Gr.refl w, ⟨a, 0, 0, rfl, by simp, Nat.le_refl _, by simp [maxLen], One.nil, .inl rfl⟩, fun k hk => by obtain ⟨_, _, _, e, hc⟩ := hk; cases e; exact (hc rfl).elim⟩
theorem run_first {P : Program} (w : World) (size n : Nat) (a : Option Addr) (len cap : Nat) (cs : List Value) (hl : cs.length = n * size)
    (h : ∀ j u, cs[j]? = some u → ∃ ad, a = some ad ∧ w.cell? (ad.add j) = some u) :
    (Builtin.firstCells size n (.slice a len cap)).run P w = .ok cs.toArray w := by
  cases a with
  | none =>
    have : cs = [] := by
      cases cs with
      | nil => rfl
      | cons u us => obtain ⟨ad, e, _⟩ := h 0 u rfl; cases e
    subst this
    exact run_firstCells_none w size n len cap
  | some ad => exact run_firstCells_some w size n ad len cap cs hl fun j v hj => let ⟨ad', e, hc⟩ := h j v hj; by cases e; exact hc
theorem run_app_grow {P : Program} (w : World) (t ty e : TypeId) (i : TypeInfo) (z : Value) (ht : P.underlying t = some (.slice e)) (hi : P.info? e = some i) (hz : i.zero = some z)
    (b : Option Addr) (sLen sCap : Nat) (olds : List Value) (hlo : olds.length = sLen * i.size) (holds : ∀ j v, olds[j]? = some v → ∃ ad, b = some ad ∧ w.cell? (ad.add j) = some v)
    (a : Option Addr) (n c : Nat) (news : List Value) (hl : news.length = n * i.size) (hnews : ∀ j v, news[j]? = some v → ∃ ad, a = some ad ∧ w.cell? (ad.add j) = some v)
    (hg : sCap < sLen + n) (h63 : ((sLen + n : Nat) : Int) ≤ 9223372036854775807) (hfit : Builtin.nextslicecap (sLen + n) sCap * i.bytes ≤ 281474976710656) :
    (Builtin.append_ #[t, t] ty #[.slice b sLen sCap, .slice a n c]).run P w =
      .ok (.slice (some ⟨w.heap.size, 0, none⟩) (sLen + n) (grownCap w (sLen + n) sCap e))
        (w.drew.alloc (.cells (olds.toArray ++ news.toArray ++ Builtin.zeroCells z.cells (grownCap w (sLen + n) sCap e - (sLen + n))) e)) := by
  have hn : ¬ (sLen + n ≤ sCap) := by omega
  have h63' : ¬ (9223372036854775807 < ((sLen : Int) + (n : Int))) := by omega
  have h48' : ¬ (281474976710656 < Builtin.nextslicecap (sLen + n) sCap * i.bytes) := by omega
  have hf := run_first (P := P) w.drew i.size n a n c news hl (by simpa using hnews)
  have hfo := run_first (P := P) w.drew i.size sLen b sLen sCap olds hlo (by simpa using holds)
  simp [Builtin.append_, run_underlying ht, sizeOf, typeInfo, zeroValue, hi, hz, Builtin.lenOf, hn, h63', h48', Question.forced, hf, hfo, newRow, grownCap]
  congr 2
  apply Array.ext'
  simp [List.append_assoc]
theorem run_app {P : Program} (w : World) (t ty e : TypeId) (i : TypeInfo) (z : Value) (size bytes : Nat) (ht : P.underlying t = some (.slice e)) (hi : P.info? e = some i) (hz : i.zero = some z)
    (hsize : i.size = size) (hby : i.bytes = bytes) (hzs : z.cells.size = size)
    (b : Option Addr) (n c : Nat) (xs : List Value) (hown : OwnAt size (.slice b n c) xs w)
    (a : Option Addr) (m d : Nat) (news : List Value) (hnews : RdC w size (.slice a m d) news)
    (h63 : n + m ≤ maxLen) (hbytes : (n + m) * bytes ≤ 140737488355328) :
    ∃ b' c' w', (Builtin.append_ #[t, t] ty #[.slice b n c, .slice a m d]).run P w = .ok (.slice b' (n + m) c') w' ∧ OwnAt size (.slice b' (n + m) c') (xs ++ news) w' ∧
      Upd (sfoot (.slice b n c)) w w' ∧ ∀ k, sfoot (.slice b' (n + m) c') k → sfoot (.slice b n c) k ∨ (w.heap.size ≤ k ∧ k < w'.heap.size) := by
  subst hsize
  subst hby
  have hrd := hown.rd
  obtain ⟨_, _, _, e1, hxl, hnc, hcm, hox, hrx⟩ := hrd
  cases e1
  obtain ⟨_, _, _, e2, hl, _, _, h1, hrn⟩ := hnews
  cases e2
  have hsmall : n + m ≤ 9223372036854775807 := by simp only [maxLen] at h63; omega
  have hlen : (xs ++ news).length = (n + m) * i.size := by rw [List.length_append, hxl, hl, Nat.add_mul]
  by_cases hroom : n + m ≤ c
  · obtain ⟨_, _, _, e3, _, _, _, _, h4⟩ := hown
    cases e3
    by_cases hc0 : c = 0
    · obtain rfl : n = 0 := by omega
      obtain rfl : m = 0 := by omega
      subst hc0
      have hx0 : xs = [] := List.eq_nil_of_length_eq_zero (by simpa using hxl)
      have hn0 : news = [] := List.eq_nil_of_length_eq_zero (by simpa using hl)
      subst hx0
      subst hn0
      refine ⟨b, 0, w, ?_, ⟨b, 0, 0, rfl, by simp, Nat.le_refl _, by simp [maxLen], One.nil, .inl rfl⟩, ⟨rfl, rfl, rfl, Nat.le_refl _, fun _ _ _ => rfl⟩, fun k hk => .inl hk⟩
      have hf := run_first (P := P) w i.size 0 a 0 d [] (by simp) (by simp)
      cases b <;> simp [Builtin.append_, run_underlying ht, sizeOf, typeInfo, hi, Builtin.lenOf, hf, storeCells]
    · rcases h4 with h4 | ⟨g, off, tt, cur, rfl, hg, h5, h6⟩
      · exact (hc0 h4).elim
      have hf := run_first (P := P) w i.size m a m d news hl hrn
      have hle : n * i.size + news.length ≤ c * i.size := by rw [hl, ← Nat.add_mul]; exact Nat.mul_le_mul_right _ hroom
      have hst := run_storeCells_at P g (off + n * i.size) tt news 0 cur w hg (by omega) h1
      simp only [Nat.add_zero] at hst
      generalize hcur : (cur.toList.take (off + n * i.size) ++ news ++ cur.toList.drop (off + n * i.size + news.length)).toArray = cur' at hst
      refine ⟨some ⟨g, off, none⟩, c, w.setRow g cur', ?_, ⟨_, _, _, rfl, hlen, hroom, hcm, hox.append h1, .inr ⟨g, off, tt, cur', rfl, setRow_heap w g cur cur' tt _ hg, ?_, ?_⟩⟩,
        ⟨rfl, rfl, rfl, by simp, fun k _ hk => setRow_other w g k cur' (fun e => hk ⟨off, n, c, by rw [e], hc0⟩)⟩, fun k hk => .inl ?_⟩
      · simp [Builtin.append_, run_underlying ht, sizeOf, typeInfo, hi, Builtin.lenOf, hroom, hf, add_lit, hst]
      · subst hcur
        simp only [List.size_toArray, List.length_append, List.length_take, List.length_drop, Array.length_toList]
        omega
      · have hlx : xs.length = n * i.size := hxl
        rw [hlen.symm]
        subst hcur
        have hpre : (cur.toList.take (off + n * i.size)).drop off = xs := by
          rw [← h6, List.drop_take]
          congr 1
          omega
        rw [List.append_assoc, List.drop_append_of_le_length (by simp; omega), hpre, ← List.append_assoc]
        exact List.take_left
      · obtain ⟨o', n', c', e', hc'⟩ := hk
        cases e'
        exact ⟨off, n, c, rfl, hc0⟩
  · have hr := run_app_grow (P := P) w t ty e i z ht hi hz b n c xs hxl hrx a m d news hl hrn (by omega) (by omega) (growslice_fits (by omega) hbytes)
    have hge := grownCap_ge w (n + m) c e
    have hcm' : grownCap w (n + m) c e ≤ maxLen := grownCap_le_maxLen w (n + m) c e h63
    refine ⟨_, _, _, hr, ⟨_, _, _, rfl, hlen, hge, hcm', hox.append h1, .inr ⟨w.heap.size, 0, e, _, rfl, heap_alloc_new w.drew _, ?_, ?_⟩⟩,
      ⟨rfl, rfl, rfl, by simp, fun k hk _ => Below.heap_alloc w.drew _ k hk⟩, fun k hk => .inr ?_⟩
    · simp only [Array.size_append, List.size_toArray, size_zeroCells, hzs, hxl, hl, ← Nat.add_mul]
      rw [Nat.zero_add]
      exact Nat.mul_le_mul_right _ (by omega)
    · simp only [Array.toList_append, List.append_assoc, List.drop_zero]
      rw [← List.append_assoc, ← hlen]
      exact List.take_left
    · obtain ⟨o', n', c', e', hc'⟩ := hk
      cases e'
      simp
/-- append as one step of a region that draws its order ('go_region_law'). -/
theorem step_app {P : Program} {ops : Array Oper} {o : Oper} {a : Act} {K : Act → World → Prop} {Q : Exit → Act → World → Prop} {E : Prop} {w0 w : World} {L : List Chunk} (hgd : o.guard = none) (s x : Operand) (t : TypeId)
    (ho : o.op = .call { callee := .builtin .append, args := #[s, x], argTypes := #[t, t] })
    (e : TypeId) (i : TypeInfo) (z : Value) (size bytes : Nat) (ht : P.underlying t = some (.slice e)) (hi : P.info? e = some i) (hz : i.zero = some z)
    (hsize : i.size = size) (hby : i.bytes = bytes) (hzs : z.cells.size = size)
    (b : Option Addr) (n c : Nat) (xs : List Value) (hs : a.eval s = .slice b n c) (hm : Mem w0 w (Own size (.slice b n c) xs :: L))
    (ad : Option Addr) (m d : Nat) (news : List Value) (hx : a.eval x = .slice ad m d) (hnews : RdC w size (.slice ad m d) news)
    (h63 : n + m ≤ maxLen) (hbytes : (n + m) * bytes ≤ 140737488355328)
    (h : ∀ b' c' w', Mem w0 w' (Own size (.slice b' (n + m) c') (xs ++ news) :: L) → K (a.put o.dst (.slice b' (n + m) c')) w') :
    if Region.wanted o (yielded ops a.tmps) = true then Oper.wp P o a w K Q else E := by
  have hw : Region.wanted o (yielded ops a.tmps) = true := by simp [Region.wanted, hgd]
  rw [if_pos hw]
  obtain ⟨b', c', w', hr, h2, h3, h4⟩ := run_app (P := P) w t o.type e i z size bytes ht hi hz hsize hby hzs b n c xs (hm.ok _ (List.mem_cons_self ..)) ad m d news hnews h63 hbytes
  unfold Oper.wp execOp
  simp only [ho, resolve, invoke, builtin, Sem.run_bind, Sem.run_pure, Result.andThen_ok, List.map_toArray, List.map_cons, List.map_nil, hs, hx, hr]
  exact h b' c' w' (hm.upd h3 h2 h4)
/-- append(v, news..) onto a slice of one's own, the first chunk. -/
theorem wp_app {P : Program} {ops : Array Oper} {rest : List Oper} {o : Oper} {a : Act} {Q : Exit → Act → World → Prop} {w0 w : World} {L : List Chunk} (hgd : o.guard = none) (s x : Operand) (t : TypeId)
    (ho : o.op = .call { callee := .builtin .append, args := #[s, x], argTypes := #[t, t] })
    (e : TypeId) (i : TypeInfo) (z : Value) (size bytes : Nat) (ht : P.underlying t = some (.slice e)) (hi : P.info? e = some i) (hz : i.zero = some z)
    (hsize : i.size = size) (hby : i.bytes = bytes) (hzs : z.cells.size = size)
    (b : Option Addr) (n c : Nat) (xs : List Value) (hs : a.eval s = .slice b n c) (hm : Mem w0 w (Own size (.slice b n c) xs :: L))
    (ad : Option Addr) (m d : Nat) (news : List Value) (hx : a.eval x = .slice ad m d) (hnews : RdC w size (.slice ad m d) news)
    (h63 : n + m ≤ maxLen) (hbytes : (n + m) * bytes ≤ 140737488355328)
    (h : ∀ b' c' w', Mem w0 w' (Own size (.slice b' (n + m) c') (xs ++ news) :: L) → wpList P ops Q rest (a.put o.dst (.slice b' (n + m) c')) w') : wpList P ops Q (o :: rest) a w :=
  wpList_plain hgd fun K hK => by
    obtain ⟨b', c', w', hr, h2, h3, h4⟩ := run_app (P := P) w t o.type e i z size bytes ht hi hz hsize hby hzs b n c xs (hm.ok _ (List.mem_cons_self ..)) ad m d news hnews h63 hbytes
    unfold Oper.wp execOp
    simp only [ho, resolve, invoke, builtin, Sem.run_bind, Sem.run_pure, Result.andThen_ok, List.map_toArray, List.map_cons, List.map_nil, hs, hx, hr]
    exact hK _ _ (h b' c' w' (hm.upd h3 h2 h4))
theorem spot_of_cell {w : World} {a : Addr} {u : Value} (h : w.cell? a = some u) : a.spot = none := by
  unfold World.cell? at h
  split at h
  · cases hs : a.spot with
    | none => rfl
    | some s => simp [hs] at h
  · cases h
/-- Element k of a slice that reads as these cells. -/
theorem RdC.at {w : World} {size : Nat} {A : Option Addr} {n c : Nat} {cs : List Value} (h : RdC w size (.slice A n c) cs) (hs : 0 < size) (k : Nat) (hk : k < n) :
    ∃ b o us, A = some ⟨b, o, none⟩ ∧ us.length = size ∧ (∀ j u, us[j]? = some u → w.cell? ⟨b, o + k * size + j, none⟩ = some u) ∧ cs.take ((k + 1) * size) = cs.take (k * size) ++ us ∧ us = (cs.drop (k * size)).take size ∧ One us := by
  obtain ⟨_, _, _, e, hl, hnc, hcm, ho, hr⟩ := h
  cases e
  have hle : k * size + size ≤ cs.length := by
    rw [hl, ← Nat.succ_mul]
    exact Nat.mul_le_mul_right _ hk
  obtain ⟨ad, rfl, h0⟩ := hr 0 _ (List.getElem?_eq_getElem (by omega))
  have hsp := spot_of_cell h0
  obtain ⟨b, o, sp⟩ := ad
  have hsp : sp = none := by simpa [Addr.add] using hsp
  subst hsp
  refine ⟨b, o, (cs.drop (k * size)).take size, rfl, by simp; omega, fun j u hj => ?_, ?_, rfl, (ho.drop _).take _⟩
  · rw [List.getElem?_take] at hj
    split at hj
    · rw [List.getElem?_drop] at hj
      obtain ⟨ad', e, hc⟩ := hr _ _ hj
      cases e
      rw [add_lit] at hc
      rw [Nat.add_assoc]
      exact hc
    · cases hj
  · rw [Nat.succ_mul, List.take_add]
theorem list1 {α : Type} {l : List α} (h : l.length = 1) : ∃ a, l = [a] := by
  match l, h with
  | [a], _ => exact ⟨a, rfl⟩
/-- Element k of a slice of one-cell elements. -/
theorem RdC.at1 {w : World} {A : Option Addr} {n c : Nat} {cs : List Value} (h : RdC w 1 (.slice A n c) cs) (k : Nat) (hk : k < n) :
    ∃ b o c0, A = some ⟨b, o, none⟩ ∧ w.cell? ⟨b, o + k, none⟩ = some c0 ∧ cs[k]? = some c0 ∧ cs.take (k + 1) = cs.take k ++ [c0] ∧ One [c0] := by
  obtain ⟨b, o, us, rfl, hl, hc, ht, hu, ho⟩ := h.at (by omega) k hk
  obtain ⟨c0, rfl⟩ := list1 hl
  simp only [Nat.mul_one] at hc ht hu
  have h2 : ((cs.drop k).take 1)[0]? = some c0 := by rw [← hu]; rfl
  exact ⟨b, o, c0, rfl, hc 0 c0 rfl, by simpa using h2, ht, ho⟩
theorem wp_world {P : Program} {c : Code} {Q : Exit → Act → World → Prop} {a : Act} {w w1 : World} (h : w = w1) (H : c.wp P Q a w1) : c.wp P Q a w := by subst h; exact H
/-- Whole numbers as values. -/
def nums (k : IntKind) (xs : List Int) : List Value := xs.map (.int k)
@[simp] theorem length_nums (k : IntKind) (xs : List Int) : (nums k xs).length = xs.length := by simp [nums]
theorem nums_getD (k : IntKind) (xs : List Int) (i : Nat) (h : i < xs.length) : (nums k xs)[i]? = some (.int k (xs.getD i 0)) := by simp [nums, h]
theorem nums_set (k : IntKind) (xs : List Int) (i : Nat) (x : Int) : (nums k xs).set i (.int k x) = nums k (xs.set i x) := by simp [nums, List.map_set]
theorem One.nums (k : IntKind) (xs : List Int) : One (nums k xs) := fun u hu => by
  obtain ⟨x, _, rfl⟩ := List.mem_map.1 hu
  rfl
theorem m0 {α : Type} {a : α} {l : List α} : a ∈ a :: l := .head _
theorem m1 {α : Type} {a b : α} {l : List α} : a ∈ b :: a :: l := .tail _ m0
theorem m2 {α : Type} {a b c : α} {l : List α} : a ∈ b :: c :: a :: l := .tail _ m1
theorem m3 {α : Type} {a b c d : α} {l : List α} : a ∈ b :: c :: d :: a :: l := .tail _ m2
theorem m4 {α : Type} {a b c d e : α} {l : List α} : a ∈ b :: c :: d :: e :: a :: l := .tail _ m3
theorem m5 {α : Type} {a b c d e f : α} {l : List α} : a ∈ b :: c :: d :: e :: f :: a :: l := .tail _ m4
theorem m6 {α : Type} {a b c d e f g : α} {l : List α} : a ∈ b :: c :: d :: e :: f :: g :: a :: l := .tail _ m5
theorem Mem.blk {w0 w : World} {L : List Chunk} (h : Mem w0 w L) {g : Nat} {o : Obj} (hm : Blk g o ∈ L) : w.heap[g]? = some o := h.ok _ hm
theorem Mem.cell {w0 w : World} {L : List Chunk} (h : Mem w0 w L) {g : Nat} {cs : List Value} {t : TypeId} {fr : Nat × Nat} (hm : Blk g (.cells cs.toArray t fr) ∈ L) (i : Nat) {u : Value} (hu : cs[i]? = some u) : w.cell? ⟨g, i, none⟩ = some u := by
  rw [cell_of_row w g i cs.toArray t fr (h.blk hm)]; simpa using hu
theorem Mem.free {w0 w : World} {L : List Chunk} (h : Mem w0 w L) {g : Nat} {cs : List Value} {t : TypeId} (hm : Blk g (.cells cs.toArray t) ∈ L) (i : Nat) : w.frozen? ⟨g, i, none⟩ = false := by
  simp [World.frozen?, h.blk hm]
/-- A store into a known block, the first chunk. -/
theorem Mem.set {w0 w : World} {L : List Chunk} {g : Nat} {cs : List Value} {t : TypeId} (h : Mem w0 w (Blk g (.cells cs.toArray t) :: L)) (i : Nat) (u : Value) :
    Mem w0 (w.setCell ⟨g, i, none⟩ u) (Blk g (.cells (cs.set i u).toArray t) :: L) := by
  have hg := h.blk (List.mem_cons_self ..)
  refine h.upd ⟨rfl, rfl, rfl, by simp [World.setCell], fun k _ hk => Below.heap_setCell _ _ _ _ hk⟩ ?_ (fun k hk => .inl hk)
  show (w.setCell ⟨g, i, none⟩ u).heap[g]? = _
  simp [World.setCell, Array.getElem?_modify, hg]
section quiet
variable {P : Program} {ops : Array Oper} {C : World → Prop} {Q : Act → Prop} {rest : List Oper} {o : Oper} {a : Act}
theorem run_call (f : FuncId) (fn : Func) (hf : P.funcs[f]? = some fn) (hn : (fn.name == "runtime.NumGoroutine") = false) (hb : fn.body.isNone = false) (args : Array Value) (w : World) : (callFunc f args).run P w = .ok (.enter f args) w := by
  have hn' : ¬ fn.name = "runtime.NumGoroutine" := by simpa using hn
  have hb' : ¬ fn.body = none := by intro e; rw [e] at hb; simp at hb
  simp [callFunc, program, Sem.run, hf, hn', hb']
end quiet
theorem RdC.len {w : World} {size : Nat} {A : Option Addr} {n c : Nat} {cs : List Value} (h : RdC w size (.slice A n c) cs) : cs.length = n * size := by
  obtain ⟨_, _, _, e, hl, _⟩ := h
  cases e
  exact hl
theorem OwnAt.addr {size : Nat} {A : Option Addr} {n c : Nat} {xs : List Value} {w : World} (h : OwnAt size (.slice A n c) xs w) (hc : c ≠ 0) : ∃ g off, A = some ⟨g, off, none⟩ := by
  obtain ⟨_, _, _, e, _, _, _, _, h4⟩ := h
  cases e
  rcases h4 with h4 | ⟨g, off, t, cur, rfl, _⟩
  · exact (hc h4).elim
  · exact ⟨g, off, rfl⟩
theorem OwnAt.cap {size : Nat} {A : Option Addr} {n c : Nat} {xs : List Value} {w : World} (h : OwnAt size (.slice A n c) xs w) : n ≤ c ∧ c ≤ maxLen := by
  obtain ⟨_, _, _, e, _, h2, h3, _⟩ := h
  cases e
  exact ⟨h2, h3⟩
theorem OwnAt.len {size : Nat} {A : Option Addr} {n c : Nat} {xs : List Value} {w : World} (h : OwnAt size (.slice A n c) xs w) : xs.length = n * size := h.rd.len
theorem Mem.own_cell {w0 w : World} {L : List Chunk} {size g off n c : Nat} {xs : List Value} (h : Mem w0 w L) (hm : Own size (.slice (some ⟨g, off, none⟩) n c) xs ∈ L) (j : Nat) {u : Value} (hj : xs[j]? = some u) :
    w.cell? ⟨g, off + j, none⟩ = some u ∧ w.frozen? ⟨g, off + j, none⟩ = false := by
  have ho := h.ok _ hm
  obtain ⟨_, _, _, e, _, _, _, _, hr⟩ := ho.rd
  cases e
  obtain ⟨ad, e, hc⟩ := hr j u hj
  cases e
  rw [add_lit] at hc
  refine ⟨hc, ?_⟩
  obtain ⟨_, _, _, e, h1, h2, h3, _, h4⟩ := ho
  cases e
  rcases h4 with h4 | ⟨g', off', t, cur, e, hg, _⟩
  · subst h4
    obtain rfl : n = 0 := by omega
    have : xs = [] := List.eq_nil_of_length_eq_zero (by simpa using h1)
    subst this
    simp at hj
  · cases e
    simp [World.frozen?, hg]
/-- A store into a slice of one's own, the first chunk. -/
theorem Mem.own_set {w0 w : World} {L : List Chunk} {size g off n c : Nat} {xs : List Value} (h : Mem w0 w (Own size (.slice (some ⟨g, off, none⟩) n c) xs :: L)) (j : Nat) (hj : j < xs.length) (v : Value) (hv : v.oneCell' = true) :
    Mem w0 (w.setCell ⟨g, off + j, none⟩ v) (Own size (.slice (some ⟨g, off, none⟩) n c) (xs.set j v) :: L) := by
  obtain ⟨_, _, _, e, h1, h2, h3, ho, h4⟩ := h.ok _ m0
  cases e
  have hn : n ≠ 0 := by rintro rfl; simp at h1; subst h1; simp at hj
  have hc0 : c ≠ 0 := by omega
  rcases h4 with h4 | ⟨g', off', t, cur, e, hg, h5, h6⟩
  · exact (hc0 h4).elim
  cases e
  have hle : n * size ≤ c * size := Nat.mul_le_mul_right _ h2
  refine h.upd ⟨rfl, rfl, rfl, by simp [World.setCell], fun k _ hk => Below.heap_setCell _ _ _ _ (fun e => hk ⟨off, n, c, by rw [e], hc0⟩)⟩ ?_ (fun k hk => .inl hk)
  refine ⟨_, _, _, rfl, by simpa using h1, h2, h3, ?_, .inr ⟨g, off, t, cur.setIfInBounds (off + j) v, rfl, ?_, by simpa using h5, ?_⟩⟩
  · intro u hu
    rcases List.mem_or_eq_of_mem_set hu with hu | rfl
    · exact ho u hu
    · exact hv
  · simp [World.setCell, Array.getElem?_modify, hg]
  · rw [Array.toList_setIfInBounds, List.drop_set, if_neg (by omega), List.take_set, h6]
    congr 1
    omega
theorem nums_append (k : IntKind) (xs ys : List Int) : nums k (xs ++ ys) = nums k xs ++ nums k ys := by simp [nums]
theorem nums_take (k : IntKind) (xs : List Int) (n : Nat) : nums k (xs.take n) = (nums k xs).take n := by simp [nums, List.map_take]
theorem RdC.nlen {w : World} {A : Option Addr} {n c : Nat} {k : IntKind} {xs : List Int} (h : RdC w 1 (.slice A n c) (nums k xs)) : xs.length = n := by simpa using h.len
theorem take_snoc {α : Type} (l : List α) (d : α) (k : Nat) (h : k < l.length) : l.take (k + 1) = l.take k ++ [l.getD k d] := by
  rw [List.take_succ_eq_append_getElem h]
  simp [h]
/-- Number k of a slice of numbers. -/
theorem RdC.num {w : World} {A : Option Addr} {n c : Nat} {q : IntKind} {xs : List Int} (h : RdC w 1 (.slice A n c) (nums q xs)) (k : Nat) (hk : k < n) :
    ∃ b o, A = some ⟨b, o, none⟩ ∧ w.cell? ⟨b, o + k, none⟩ = some (.int q (xs.getD k 0)) ∧ xs.take (k + 1) = xs.take k ++ [xs.getD k 0] := by
  obtain ⟨b, o, c0, e, h1, h2, _⟩ := h.at1 k hk
  have hl := h.nlen
  rw [nums_getD q xs k (by omega)] at h2
  cases h2
  exact ⟨b, o, e, h1, take_snoc _ 0 _ (by omega)⟩
theorem Mem.only {w0 w : World} {c : Chunk} {L : List Chunk} (h : Mem w0 w (c :: L)) : Mem w0 w [c] := h.sub (by simp)
/-- The beginning of a slice. -/
theorem RdC.pre {w : World} {size : Nat} {A : Option Addr} {m c : Nat} {cs : List Value} (h : RdC w size (.slice A m c) cs) (k : Nat) (hk : k ≤ m) : RdC w size (.slice A k c) (cs.take (k * size)) := by
  obtain ⟨_, _, _, e, h1, h2, h3, ho, hr⟩ := h
  cases e
  refine ⟨A, k, c, rfl, ?_, by omega, h3, ho.take _, fun j u hj => ?_⟩
  · rw [List.length_take, h1]
    have := Nat.mul_le_mul_right size hk
    omega
  · rw [List.getElem?_take] at hj
    split at hj
    · exact hr j u hj
    · cases hj
theorem RdC.npre {w : World} {A : Option Addr} {m c : Nat} {q : IntKind} {xs ys : List Int} (h : RdC w 1 (.slice A m c) (nums q (xs ++ ys))) (hk : xs.length ≤ m) : RdC w 1 (.slice A xs.length c) (nums q xs) := by
  have := h.pre xs.length hk
  rwa [Nat.mul_one, ← nums_take, List.take_left' rfl] at this
/-- A known block reads as a slice over all of it. -/
theorem Mem.rdblk {w0 w : World} {L : List Chunk} (h : Mem w0 w L) {g : Nat} {cs : List Value} {t : TypeId} {fr : Nat × Nat} (hm : Blk g (.cells cs.toArray t fr) ∈ L) (n size : Nat) (hl : cs.length = n * size) (hn : n ≤ maxLen) (ho : One cs) :
    RdC w size (.slice (some ⟨g, 0, none⟩) n n) cs :=
  ⟨_, _, _, rfl, hl, Nat.le_refl _, hn, ho, fun j u hj => ⟨_, rfl, by rw [add_lit, Nat.zero_add]; exact h.cell hm j hj⟩⟩
/-- The block that a literal of elements has just been laid in. -/
theorem RdC.lit (w : World) (us : List Value) (e : TypeId) (m size : Nat) (hl : us.length = m * size) (hm : m ≤ maxLen) (ho : One us) :
    RdC (w.alloc (.cells us.toArray e)) size (.slice (some ⟨w.heap.size, 0, none⟩) m m) us :=
  ⟨_, _, _, rfl, hl, Nat.le_refl _, hm, ho, fun j u hj => ⟨_, rfl, by rw [add_lit, Nat.zero_add, World.cell?_alloc_new]; simpa using hj⟩⟩
end Go.Mm
namespace Go.Mm
open Go.RowKit Go.Deep Go.WideShapes Go.ChangeShapes
section
variable {H : Type} {enc : TypeId × Value → H} {P : Program} {w : World}
theorem flatMap_at {α : Type} (f : α → List Value) (size : Nat) (hf : ∀ x, (f x).length = size) : ∀ (xs : List α) (i j : Nat), j < size → (xs.flatMap f)[i * size + j]? = (xs[i]?).bind fun x => (f x)[j]?
  | [], i, j, _ => by simp
  | x :: xs, 0, j, hj => by
    rw [List.flatMap_cons, List.getElem?_append_left (by rw [hf]; omega)]
    simp
  | x :: xs, i + 1, j, hj => by
    have hl := hf x
    rw [List.flatMap_cons, List.getElem?_append_right (by rw [hl, Nat.succ_mul]; omega), hl]
    rw [show (i + 1) * size + j - size = i * size + j by rw [Nat.succ_mul]; omega, flatMap_at f size hf xs i j hj]
    simp
theorem flatMap_length {α : Type} (f : α → List Value) (size : Nat) (hf : ∀ x, (f x).length = size) : ∀ (xs : List α), (xs.flatMap f).length = xs.length * size
  | [] => by simp
  | x :: xs => by rw [List.flatMap_cons, List.length_append, hf, flatMap_length f size hf xs, List.length_cons, Nat.succ_mul]; omega
end
theorem getD_some {α : Type} (l : List α) (d : α) (k : Nat) (h : k < l.length) : l[k]? = some (l.getD k d) := by simp [h]
theorem One.flatMap {α : Type} {f : α → List Value} (h : ∀ x, One (f x)) (xs : List α) : One (xs.flatMap f) := fun u hu => by
  obtain ⟨x, _, hx⟩ := List.mem_flatMap.1 hu
  exact h x u hx
theorem rd_len {α : Type} {f : α → List Value} {size : Nat} (hf : ∀ x, (f x).length = size) (hs : 0 < size) {w : World} {A : Option Addr} {n c : Nat} {xs : List α} (h : RdC w size (.slice A n c) (xs.flatMap f)) : xs.length = n := by
  have hl := h.len
  rw [flatMap_length f size hf] at hl
  exact Nat.eq_of_mul_eq_mul_right hs hl
/-- Element k of a slice that reads as a list. -/
theorem rd_at {α : Type} {f : α → List Value} {size : Nat} (hf : ∀ x, (f x).length = size) (hs : 0 < size) (d : α) {w : World} {A : Option Addr} {n c : Nat} {xs : List α} (h : RdC w size (.slice A n c) (xs.flatMap f)) (k : Nat) (hk : k < n) :
    ∃ b o, A = some ⟨b, o, none⟩ ∧ (∀ j u, (f (xs.getD k d))[j]? = some u → w.cell? ⟨b, o + k * size + j, none⟩ = some u) ∧ xs.take (k + 1) = xs.take k ++ [xs.getD k d] ∧ k < xs.length := by
  have hl := rd_len hf hs h
  have hlt : k < xs.length := by omega
  obtain ⟨b, o, us, rfl, hul, hc, _, hu, _⟩ := h.at hs k hk
  refine ⟨b, o, rfl, fun j u hj => hc j u ?_, take_snoc xs d k hlt, hlt⟩
  have hjs : j < size := by have := (List.getElem?_eq_some_iff.1 hj).1; rw [hf] at this; exact this
  rw [hu, List.getElem?_take_of_lt hjs, List.getElem?_drop, flatMap_at f size hf xs k j hjs, getD_some xs d k hlt]
  exact hj
end Go.Mm
namespace Go.Proofs.YtgflfpepfpekhaaGreat
open Go.RowKit Go.Mm
/-! ### Types -/
theorem ty_int : Tryz.prog.underlying 3 = some (.int .i64) := by kernel_rfl
theorem ty_Vs : Tryz.prog.underlying 28 = some (.slice 36) := by kernel_rfl
theorem inf_V : (Tryz.prog.info? 36).map (fun i => (i.zero, i.size, i.bytes)) = some (some (.agg #[.int .i64 0, .int .i64 0]), 2, 16) := by kernel_rfl
theorem sz_V : (Tryz.prog.info? 36).map (·.size) = some 2 := by kernel_rfl
/-! ### Values, two numbers each -/
abbrev V2 := Int × Int
def cV (x : V2) : List Value := [.int .i64 x.1, .int .i64 x.2]
theorem cV_len (x : V2) : (cV x).length = 2 := rfl
theorem cV_one (x : V2) : One (cV x) := fun u hu => by simp [cV] at hu; rcases hu with rfl | rfl <;> rfl
def fV (xs : List V2) : List Value := xs.flatMap cV
theorem fV_len (xs : List V2) : (fV xs).length = xs.length * 2 := flatMap_length cV 2 cV_len xs
theorem fV_app (xs ys : List V2) : fV (xs ++ ys) = fV xs ++ fV ys := by simp [fV]
/-- Element k of a list of values. -/
theorem rdV_at {w : World} {A : Option Addr} {n c : Nat} {xs : List V2} (h : RdC w 2 (.slice A n c) (fV xs)) (k : Nat) (hk : k < n) :
    ∃ b o, A = some ⟨b, o, none⟩ ∧ w.cell? ⟨b, o + k * 2, none⟩ = some (.int .i64 (xs.getD k (0, 0)).1) ∧ w.cell? ⟨b, o + k * 2 + 1, none⟩ = some (.int .i64 (xs.getD k (0, 0)).2) ∧ xs.take (k + 1) = xs.take k ++ [xs.getD k (0, 0)] ∧ k < xs.length := by
  obtain ⟨b, o, e, hc, h1, h2⟩ := rd_at cV_len (by omega) (0, 0) h k hk
  exact ⟨b, o, e, hc 0 _ rfl, hc 1 _ rfl, h1, h2⟩
theorem rdV_len {w : World} {A : Option Addr} {n c : Nat} {xs : List V2} (h : RdC w 2 (.slice A n c) (fV xs)) : xs.length = n := rd_len cV_len (by omega) h
/-! ### Handlers, four numbers each -/
abbrev H4 := Int × Int × Int × Int
def cH (x : H4) : List Value := [.int .i64 x.1, .int .i64 x.2.1, .int .i64 x.2.2.1, .int .i64 x.2.2.2]
theorem cH_len (x : H4) : (cH x).length = 4 := rfl
theorem cH_one (x : H4) : One (cH x) := fun u hu => by simp [cH] at hu; rcases hu with rfl | rfl | rfl | rfl <;> rfl
def fH (xs : List H4) : List Value := xs.flatMap cH
theorem fH_app (xs ys : List H4) : fH (xs ++ ys) = fH xs ++ fH ys := by simp [fH]
theorem rdH_at {w : World} {A : Option Addr} {n c : Nat} {xs : List H4} (h : RdC w 4 (.slice A n c) (fH xs)) (k : Nat) (hk : k < n) :
    ∃ b o, A = some ⟨b, o, none⟩ ∧ w.cell? ⟨b, o + k * 4, none⟩ = some (.int .i64 (xs.getD k (0, 0, 0, 0)).1) ∧ w.cell? ⟨b, o + k * 4 + 1, none⟩ = some (.int .i64 (xs.getD k (0, 0, 0, 0)).2.1) ∧
      w.cell? ⟨b, o + k * 4 + 2, none⟩ = some (.int .i64 (xs.getD k (0, 0, 0, 0)).2.2.1) ∧ w.cell? ⟨b, o + k * 4 + 3, none⟩ = some (.int .i64 (xs.getD k (0, 0, 0, 0)).2.2.2) ∧ xs.take (k + 1) = xs.take k ++ [xs.getD k (0, 0, 0, 0)] ∧ k < xs.length := by
  obtain ⟨b, o, e, hc, h1, h2⟩ := rd_at cH_len (by omega) (0, 0, 0, 0) h k hk
  exact ⟨b, o, e, hc 0 _ rfl, hc 1 _ rfl, hc 2 _ rfl, hc 3 _ rfl, h1, h2⟩
theorem rdH_len {w : World} {A : Option Addr} {n c : Nat} {xs : List H4} (h : RdC w 4 (.slice A n c) (fH xs)) : xs.length = n := rd_len cH_len (by omega) h
set_option maxHeartbeats 400000 in
set_option maxRecDepth 100000 in
theorem copyValues_ok (w : World) (A : Option Addr) (n c : Nat) (xs : List V2) (hx : Fact (RdC w 2 (.slice A n c) (fV xs))) (hn : n ≤ 4194304) :
    Calls Tryz.prog 65 #[.slice A n c] w fun e w' => ∃ A' c', e = .returned (.slice A' n c') ∧ New w w' (Own 2 (.slice A' n c') (fV xs)) := by
  obtain ⟨iV, hi, hz0, hz1, hz2⟩ := info_parts inf_V
  go_enter Tryz.func65, Tryz.ntmps65
  go_wp2
  go_loopw [3, 4] (fun l v w' => ∃ (k : Nat) (A' : Option Addr) (c' : Nat), v = .int .i64 k ∧ k ≤ n ∧ l = .slice A' k c' ∧ Mem w w' [Own 2 (.slice A' k c') (fV (xs.take k))]) (fun _ v _ => n - (intOf v).toNat)
  case atStart => exact ⟨0, none, 0, rfl, by omega, rfl, (Mem.start w).nil 2 none⟩
  case round =>
    obtain ⟨k, A', c', rfl, hk, rfl, hm⟩ := hrel
    by_cases hlt : k < n
    · obtain ⟨b, o, rfl, g1, g2, ht, _⟩ := rdV_at hx.out k hlt
      have g1 := Gr.cell hm.below g1
      have g2 := Gr.cell hm.below g2
      have ht := Fact.mk ht
      generalize xs.getD k (0, 0) = x at g1 g2 ht
      go_wp2_with (at_builtin; refine wp_app rfl _ _ _ rfl 36 iV _ 2 16 ty_Vs hi hz0 hz1 hz2 rfl A' k c' _ rfl (L := [Blk _ _]) (hm.alloc _).swap _ 1 1 (cV x) rfl (RdC.lit _ _ _ _ _ rfl (by simp [maxLen]) (cV_one x)) (by unfold maxLen; omega) (by omega) ?_; intro A1 c1 w1 HM1)
      go_roundw
      case rel => exact ⟨k + 1, A1, c1, by go_num, by omega, rfl, by rw [ht.out, fV_app]; exact HM1.only⟩
      case measure => simp [intOf]; omega
    · go_wp2
      go_ret
      obtain rfl : k = n := by omega
      have hl := rdV_len hx.out
      rw [List.take_of_length_le (by omega)] at hm
      exact ⟨A', c', rfl, hm.new_of⟩
def markV (i : Nat) : V2 := (-9, i)
def marksV (k : Nat) : List V2 := (List.range k).map markV
theorem marksV_succ (k : Nat) : marksV (k + 1) = marksV k ++ [markV k] := by simp [marksV, List.range_succ]
set_option maxHeartbeats 400000 in
set_option maxRecDepth 100000 in
theorem lentValues_ok (w : World) (A : Option Addr) (n c : Nat) (xs : List V2) (hx : Fact (RdC w 2 (.slice A n c) (fV xs))) (hn : n ≤ 4194304) :
    Calls Tryz.prog 29 #[.slice A n c] w fun e w' => ∃ A' c', e = .returned (.slice A' (n + 64) c') ∧ New w w' (Own 2 (.slice A' (n + 64) c') (fV (xs ++ marksV 64))) := by
  obtain ⟨iV, hi, hz0, hz1, hz2⟩ := info_parts inf_V
  go_enter Tryz.func29, Tryz.ntmps29
  go_wp2
  go_loopw [3, 4] (fun l v w' => ∃ (k : Nat) (A' : Option Addr) (c' : Nat), v = .int .i64 k ∧ k ≤ n ∧ l = .slice A' k c' ∧ Mem w w' [Own 2 (.slice A' k c') (fV (xs.take k))]) (fun _ v _ => n - (intOf v).toNat)
  case atStart => exact ⟨0, none, 0, rfl, by omega, rfl, (Mem.start w).nil 2 none⟩
  case round =>
    obtain ⟨k, A', c', rfl, hk, rfl, hm⟩ := hrel
    by_cases hlt : k < n
    · obtain ⟨b, o, rfl, g1, g2, ht, _⟩ := rdV_at hx.out k hlt
      have g1 := Gr.cell hm.below g1
      have g2 := Gr.cell hm.below g2
      have ht := Fact.mk ht
      generalize xs.getD k (0, 0) = x at g1 g2 ht
      go_wp2_with (at_builtin; refine wp_app rfl _ _ _ rfl 36 iV _ 2 16 ty_Vs hi hz0 hz1 hz2 rfl A' k c' _ rfl (L := [Blk _ _]) (hm.alloc _).swap _ 1 1 (cV x) rfl (RdC.lit _ _ _ _ _ rfl (by simp [maxLen]) (cV_one x)) (by unfold maxLen; omega) (by omega) ?_; intro A1 c1 w1 HM1)
      go_roundw
      case rel => exact ⟨k + 1, A1, c1, by go_num, by omega, rfl, by rw [ht.out, fV_app]; exact HM1.only⟩
      case measure => simp [intOf]; omega
    · obtain rfl : k = n := by omega
      have hl := rdV_len hx.out
      rw [List.take_of_length_le (by omega)] at hm
      go_wp2
      go_loopw [3, 5] (fun l v w' => ∃ (j : Nat) (A' : Option Addr) (c' : Nat), v = .int .i64 j ∧ j ≤ 64 ∧ l = .slice A' (k + j) c' ∧ Mem w w' [Own 2 (.slice A' (k + j) c') (fV (xs ++ marksV j))]) (fun _ v _ => 64 - (intOf v).toNat)
      case atStart => exact ⟨0, A', c', rfl, by omega, rfl, by simpa [marksV] using hm⟩
      case round =>
        clear hm hl
        obtain ⟨j, A', c', rfl, hj, rfl, hm⟩ := hrel
        by_cases hlt2 : j < 64
        · go_wp2_with (at_builtin; refine wp_app rfl _ _ _ rfl 36 iV _ 2 16 ty_Vs hi hz0 hz1 hz2 rfl A' (k + j) c' _ rfl (L := [Blk _ _]) (hm.alloc _).swap _ 1 1 [.int .i64 (-9), .int .i64 (j : Int)] rfl (RdC.lit _ _ _ _ _ rfl (by simp [maxLen]) (cV_one (-9, (j : Int)))) (by unfold maxLen; omega) (by omega) ?_; intro A1 c1 w1 HM1)
          go_roundw
          case rel => exact ⟨j + 1, A1, c1, by go_num, by omega, rfl, by rw [marksV_succ, ← List.append_assoc, fV_app]; exact HM1.only⟩
          case measure => simp [intOf]; omega
        · go_wp2
          go_ret
          obtain rfl : j = 64 := by omega
          exact ⟨A', c', rfl, hm.new_of⟩
end Go.Proofs.YtgflfpepfpekhaaGreat
namespace Go.Proofs.YtgflfpepfpekhaaGreat
open Go.RowKit Go.Mm
set_option maxHeartbeats 400000
set_option maxRecDepth 100000
theorem ty_Is : Tryz.prog.underlying 45 = some (.slice 142) := by kernel_rfl
theorem inf_I : (Tryz.prog.info? 142).map (fun i => (i.zero, i.size, i.bytes)) = some (some (.agg #[.int .i64 0, .int .i64 0]), 2, 16) := by kernel_rfl
theorem ty_Hs : Tryz.prog.underlying 44 = some (.slice 43) := by kernel_rfl
theorem inf_H : (Tryz.prog.info? 43).map (fun i => (i.zero, i.size, i.bytes)) = some (some (.agg #[.int .i64 0, .int .i64 0, .int .i64 0, .int .i64 0]), 4, 32) := by kernel_rfl
/-- Two lists that are the same. -/
theorem sameValues_ok (w : World) (A B : Option Addr) (n c d : Nat) (xs : List V2) (hx : Fact (RdC w 2 (.slice A n c) (fV xs))) (hy : Fact (RdC w 2 (.slice B n d) (fV xs))) (hn : n ≤ 16777216) :
    Calls Tryz.prog 9 #[.slice A n c, .slice B n d] w fun e w' => e = .returned (.bool true) ∧ Gr w w' := by
  have hl := Fact.mk (rdV_len hx.out)
  go_enter Tryz.func9, Tryz.ntmps9
  go_wp2
  go_loopw [5] (fun v w' => ∃ (k : Nat), v = .int .i64 k ∧ k ≤ n ∧ ∃ m, w' = w.drewN m) (fun v _ => n - (intOf v).toNat)
  case atStart => exact ⟨0, rfl, by omega, 0, rfl⟩
  case round =>
    obtain ⟨k, rfl, hk, m, rfl⟩ := hrel
    by_cases hlt : k < n
    · obtain ⟨b, o, rfl, g1, g2, ht, _⟩ := rdV_at hx.out k hlt
      obtain ⟨bb, ob, rfl, g1b, g2b, htb, _⟩ := rdV_at hy.out k hlt
      generalize xs.getD k (0, 0) = x at g1 g2 g1b g2b ht htb
      clear ht htb
      go_upto_region 6 with (fail)
      go_quiet (fail)
      go_wp2
      go_roundw
      case rel => exact ⟨k + 1, by go_num, by omega, _, rfl⟩
      case measure => simp [intOf]; omega
    · go_wp2
      go_ret
      exact ⟨rfl, (Gr.refl _).drewN _⟩
/-- Two lists that are the same. -/
theorem sameInstrs_ok (w : World) (A B : Option Addr) (n c d : Nat) (xs : List V2) (hx : Fact (RdC w 2 (.slice A n c) (fV xs))) (hy : Fact (RdC w 2 (.slice B n d) (fV xs))) (hn : n ≤ 16777216) :
    Calls Tryz.prog 66 #[.slice A n c, .slice B n d] w fun e w' => e = .returned (.bool true) ∧ Gr w w' := by
  have hl := Fact.mk (rdV_len hx.out)
  go_enter Tryz.func66, Tryz.ntmps66
  go_wp2
  go_loopw [5] (fun v w' => ∃ (k : Nat), v = .int .i64 k ∧ k ≤ n ∧ ∃ m, w' = w.drewN m) (fun v _ => n - (intOf v).toNat)
  case atStart => exact ⟨0, rfl, by omega, 0, rfl⟩
  case round =>
    obtain ⟨k, rfl, hk, m, rfl⟩ := hrel
    by_cases hlt : k < n
    · obtain ⟨b, o, rfl, g1, g2, ht, _⟩ := rdV_at hx.out k hlt
      obtain ⟨bb, ob, rfl, g1b, g2b, htb, _⟩ := rdV_at hy.out k hlt
      generalize xs.getD k (0, 0) = x at g1 g2 g1b g2b ht htb
      clear ht htb
      go_upto_region 6 with (fail)
      go_quiet (fail)
      go_wp2
      go_roundw
      case rel => exact ⟨k + 1, by go_num, by omega, _, rfl⟩
      case measure => simp [intOf]; omega
    · go_wp2
      go_ret
      exact ⟨rfl, (Gr.refl _).drewN _⟩
/-- Two lists that are the same. -/
theorem sameHandlers_ok (w : World) (A B : Option Addr) (n c d : Nat) (xs : List H4) (hx : Fact (RdC w 4 (.slice A n c) (fH xs))) (hy : Fact (RdC w 4 (.slice B n d) (fH xs))) (hn : n ≤ 16777216) :
    Calls Tryz.prog 67 #[.slice A n c, .slice B n d] w fun e w' => e = .returned (.bool true) ∧ Gr w w' := by
  have hl := Fact.mk (rdH_len hx.out)
  go_enter Tryz.func67, Tryz.ntmps67
  go_wp2
  go_loopw [5] (fun v w' => ∃ (k : Nat), v = .int .i64 k ∧ k ≤ n ∧ ∃ m, w' = w.drewN m) (fun v _ => n - (intOf v).toNat)
  case atStart => exact ⟨0, rfl, by omega, 0, rfl⟩
  case round =>
    obtain ⟨k, rfl, hk, m, rfl⟩ := hrel
    by_cases hlt : k < n
    · obtain ⟨b, o, rfl, g1, g2, g3, g4, ht, _⟩ := rdH_at hx.out k hlt
      obtain ⟨bb, ob, rfl, g1b, g2b, g3b, g4b, htb, _⟩ := rdH_at hy.out k hlt
      generalize xs.getD k (0, 0, 0, 0) = x at g1 g2 g3 g4 g1b g2b g3b g4b ht htb
      clear ht htb
      go_upto_region 6 with (fail)
      go_quiet (fail)
      go_wp2
      go_roundw
      case rel => exact ⟨k + 1, by go_num, by omega, _, rfl⟩
      case measure => simp [intOf]; omega
    · go_wp2
      go_ret
      exact ⟨rfl, (Gr.refl _).drewN _⟩
def marksI (k : Nat) : List V2 := (List.range k).map fun (i : Nat) => (-7, (i : Int))
theorem marksI_succ (k : Nat) : marksI (k + 1) = marksI k ++ [(-7, (k : Int))] := by simp [marksI, List.range_succ]
/-- The same list in memory of its own, with marks behind it. -/
theorem fullInstrs_ok (w : World) (A : Option Addr) (n c : Nat) (xs : List V2) (hx : Fact (RdC w 2 (.slice A n c) (fV xs))) (hn : n ≤ 4194304) :
    Calls Tryz.prog 62 #[.slice A n c] w fun e w' => ∃ A' c', e = .returned (.slice A' (n + 64) c') ∧ New w w' (Own 2 (.slice A' (n + 64) c') (fV (xs ++ marksI 64))) := by
  obtain ⟨iV, hi, hz0, hz1, hz2⟩ := info_parts inf_I
  go_enter Tryz.func62, Tryz.ntmps62
  go_wp2
  go_loopw [3, 4] (fun l v w' => ∃ (k : Nat) (A' : Option Addr) (c' : Nat), v = .int .i64 k ∧ k ≤ n ∧ l = .slice A' k c' ∧ Mem w w' [Own 2 (.slice A' k c') (fV (xs.take k))]) (fun _ v _ => n - (intOf v).toNat)
  case atStart => exact ⟨0, none, 0, rfl, by omega, rfl, (Mem.start w).nil 2 none⟩
  case round =>
    obtain ⟨k, A', c', rfl, hk, rfl, hm⟩ := hrel
    by_cases hlt : k < n
    · obtain ⟨b, o, rfl, g1, g2, ht, _⟩ := rdV_at hx.out k hlt
      have g1 := Gr.cell hm.below g1
      have g2 := Gr.cell hm.below g2
      have ht := Fact.mk ht
      generalize xs.getD k (0, 0) = x at g1 g2 ht
      go_wp2_with (at_builtin; refine wp_app rfl _ _ _ rfl 142 iV _ 2 16 ty_Is hi hz0 hz1 hz2 rfl A' k c' _ rfl (L := [Blk _ _]) (hm.alloc _).swap _ 1 1 (cV x) rfl (RdC.lit _ _ _ _ _ rfl (by simp [maxLen]) (cV_one x)) (by unfold maxLen; omega) (by omega) ?_; intro A1 c1 w1 HM1)
      go_roundw
      case rel => exact ⟨k + 1, A1, c1, by go_num, by omega, rfl, by rw [ht.out, fV_app]; exact HM1.only⟩
      case measure => simp [intOf]; omega
    · obtain rfl : k = n := by omega
      have hl := rdV_len hx.out
      rw [List.take_of_length_le (by omega)] at hm
      go_wp2
      go_loopw [3, 5] (fun l v w' => ∃ (j : Nat) (A' : Option Addr) (c' : Nat), v = .int .i64 j ∧ j ≤ 64 ∧ l = .slice A' (k + j) c' ∧ Mem w w' [Own 2 (.slice A' (k + j) c') (fV (xs ++ marksI j))]) (fun _ v _ => 64 - (intOf v).toNat)
      case atStart => exact ⟨0, A', c', rfl, by omega, rfl, by simpa [marksI] using hm⟩
      case round =>
        clear hm hl
        obtain ⟨j, A', c', rfl, hj, rfl, hm⟩ := hrel
        by_cases hlt2 : j < 64
        · go_wp2_with (at_builtin; refine wp_app rfl _ _ _ rfl 142 iV _ 2 16 ty_Is hi hz0 hz1 hz2 rfl A' (k + j) c' _ rfl (L := [Blk _ _]) (hm.alloc _).swap _ 1 1 [.int .i64 (-7), .int .i64 (j : Int)] rfl (RdC.lit _ _ _ _ _ rfl (by simp [maxLen]) (cV_one (-7, (j : Int)))) (by unfold maxLen; omega) (by omega) ?_; intro A1 c1 w1 HM1)
          go_roundw
          case rel => exact ⟨j + 1, A1, c1, by go_num, by omega, rfl, by rw [marksI_succ, ← List.append_assoc, fV_app]; exact HM1.only⟩
          case measure => simp [intOf]; omega
        · go_wp2
          go_ret
          obtain rfl : j = 64 := by omega
          exact ⟨A', c', rfl, hm.new_of⟩
def marksH (k : Nat) : List H4 := (List.range k).map fun (i : Nat) => (-7, (i : Int), 0, 0)
theorem marksH_succ (k : Nat) : marksH (k + 1) = marksH k ++ [(-7, (k : Int), 0, 0)] := by simp [marksH, List.range_succ]
/-- The same list in memory of its own, with marks behind it. -/
theorem fullHandlers_ok (w : World) (A : Option Addr) (n c : Nat) (xs : List H4) (hx : Fact (RdC w 4 (.slice A n c) (fH xs))) (hn : n ≤ 4194304) :
    Calls Tryz.prog 63 #[.slice A n c] w fun e w' => ∃ A' c', e = .returned (.slice A' (n + 64) c') ∧ New w w' (Own 4 (.slice A' (n + 64) c') (fH (xs ++ marksH 64))) := by
  obtain ⟨iV, hi, hz0, hz1, hz2⟩ := info_parts inf_H
  go_enter Tryz.func63, Tryz.ntmps63
  go_wp2
  go_loopw [3, 4] (fun l v w' => ∃ (k : Nat) (A' : Option Addr) (c' : Nat), v = .int .i64 k ∧ k ≤ n ∧ l = .slice A' k c' ∧ Mem w w' [Own 4 (.slice A' k c') (fH (xs.take k))]) (fun _ v _ => n - (intOf v).toNat)
  case atStart => exact ⟨0, none, 0, rfl, by omega, rfl, (Mem.start w).nil 4 none⟩
  case round =>
    obtain ⟨k, A', c', rfl, hk, rfl, hm⟩ := hrel
    by_cases hlt : k < n
    · obtain ⟨b, o, rfl, g1, g2, g3, g4, ht, _⟩ := rdH_at hx.out k hlt
      have g1 := Gr.cell hm.below g1
      have g2 := Gr.cell hm.below g2
      have g3 := Gr.cell hm.below g3
      have g4 := Gr.cell hm.below g4
      have ht := Fact.mk ht
      generalize xs.getD k (0, 0, 0, 0) = x at g1 g2 g3 g4 ht
      go_wp2_with (at_builtin; refine wp_app rfl _ _ _ rfl 43 iV _ 4 32 ty_Hs hi hz0 hz1 hz2 rfl A' k c' _ rfl (L := [Blk _ _]) (hm.alloc _).swap _ 1 1 (cH x) rfl (RdC.lit _ _ _ _ _ rfl (by simp [maxLen]) (cH_one x)) (by unfold maxLen; omega) (by omega) ?_; intro A1 c1 w1 HM1)
      go_roundw
      case rel => exact ⟨k + 1, A1, c1, by go_num, by omega, rfl, by rw [ht.out, fH_app]; exact HM1.only⟩
      case measure => simp [intOf]; omega
    · obtain rfl : k = n := by omega
      have hl := rdH_len hx.out
      rw [List.take_of_length_le (by omega)] at hm
      go_wp2
      go_loopw [3, 5] (fun l v w' => ∃ (j : Nat) (A' : Option Addr) (c' : Nat), v = .int .i64 j ∧ j ≤ 64 ∧ l = .slice A' (k + j) c' ∧ Mem w w' [Own 4 (.slice A' (k + j) c') (fH (xs ++ marksH j))]) (fun _ v _ => 64 - (intOf v).toNat)
      case atStart => exact ⟨0, A', c', rfl, by omega, rfl, by simpa [marksH] using hm⟩
      case round =>
        clear hm hl
        obtain ⟨j, A', c', rfl, hj, rfl, hm⟩ := hrel
        by_cases hlt2 : j < 64
        · go_wp2_with (at_builtin; refine wp_app rfl _ _ _ rfl 43 iV _ 4 32 ty_Hs hi hz0 hz1 hz2 rfl A' (k + j) c' _ rfl (L := [Blk _ _]) (hm.alloc _).swap _ 1 1 [.int .i64 (-7), .int .i64 (j : Int), .int .i64 0, .int .i64 0] rfl (RdC.lit _ _ _ _ _ rfl (by simp [maxLen]) (cH_one (-7, (j : Int), 0, 0))) (by unfold maxLen; omega) (by omega) ?_; intro A1 c1 w1 HM1)
          go_roundw
          case rel => exact ⟨j + 1, A1, c1, by go_num, by omega, rfl, by rw [marksH_succ, ← List.append_assoc, fH_app]; exact HM1.only⟩
          case measure => simp [intOf]; omega
        · go_wp2
          go_ret
          obtain rfl : j = 64 := by omega
          exact ⟨A', c', rfl, hm.new_of⟩
end Go.Proofs.YtgflfpepfpekhaaGreat
namespace Go.Mm
open Go.RowKit
section
variable {P : Program} {ops : Array Oper} {rest : List Oper} {o : Oper} {a : Act} {Q : Exit → Act → World → Prop} {w0 w : World} {L : List Chunk}
/-- An operation that is wanted. -/
theorem wpList_want (hw : Region.wanted o (yielded ops a.tmps) = true) (h : ∀ K : Act → World → Prop, (∀ a w, wpList P ops Q rest a w → K a w) → o.wp P a w K Q) : wpList P ops Q (o :: rest) a w :=
  wpList_step fun K hK => by rw [if_pos hw]; exact h K hK
/-- A whole array or struct stored over a known block, the first chunk. -/
theorem wp_setrow (hgd : o.guard = none) (ty : TypeId) (p x : Operand) (ho : o.op = .store ty p x) (g : Nat) (hp : a.eval p = .pointer (some ⟨g, 0, none⟩)) (t : TypeId) (cs us : List Value) (hx : a.eval x = .agg us.toArray)
    (hm : Mem w0 w (Blk g (.cells cs.toArray t) :: L)) (hi : (P.info? ty).map (·.size) = some us.length) (hl : cs.length = us.length) (h1 : One us)
    (h : ∀ w', Mem w0 w' (Blk g (.cells us.toArray t) :: L) → wpList P ops Q rest (a.put o.dst undef) w') : wpList P ops Q (o :: rest) a w :=
  wpList_plain hgd fun K hK => by
    obtain ⟨inf, hi1, hi2⟩ : ∃ inf, P.info? ty = some inf ∧ inf.size = us.length := by
      cases h : P.info? ty with
      | none => rw [h] at hi; simp at hi
      | some inf => rw [h] at hi; exact ⟨inf, rfl, by simpa using hi⟩
    have hg := hm.blk m0
    have hst := run_storeCells_at P g 0 t us 0 cs.toArray w hg (by simp [hl]) h1
    simp only [Nat.zero_add, List.take_zero, List.nil_append] at hst
    have e : cs.drop us.length = [] := by rw [List.drop_eq_nil_iff]; omega
    simp only [e, List.append_nil] at hst
    unfold Oper.wp execOp
    simp only [ho, hp, hx]
    simp [Instr.storeAt, Instr.sureAddr, storeVar, sizeOf, typeInfo, hi1, hi2, Value.cells, hst]
    refine hK _ _ (h _ (hm.upd ⟨rfl, rfl, rfl, by simp, fun k _ hk => setRow_other w g k _ (fun e => hk e)⟩ ?_ (fun k hk => .inl hk)))
    exact setRow_heap w g cs.toArray us.toArray t _ hg
end
end Go.Mm
namespace Go.Mm
open Go.RowKit
section
variable {P : Program} {ops : Array Oper} {rest : List Oper} {o : Oper} {a : Act} {Q : Exit → Act → World → Prop} {w0 w : World} {L : List Chunk}
/-- A whole struct or array read, its cells known one by one. -/
theorem wp_rng (hgd : Region.wanted o (yielded ops a.tmps) = true) (ty : TypeId) (x : Operand) (ho : o.op = .load ty x) (b q : Nat) (hx : a.eval x = .pointer (some ⟨b, q, none⟩)) (cs : List Value)
    (hc : w.rangeAt b q cs) (hd : (P.underlying ty).map (·.isRow) = some true) (hi : (P.info? ty).map (·.size) = some cs.length)
    (h : wpList P ops Q rest (a.put o.dst (.agg cs.toArray)) w) : wpList P ops Q (o :: rest) a w := by
  obtain ⟨d, hu, hr⟩ : ∃ d, P.underlying ty = some d ∧ d.isRow = true := by
    cases e : P.underlying ty with
    | none => rw [e] at hd; simp at hd
    | some d => rw [e] at hd; exact ⟨d, rfl, by simpa using hd⟩
  exact wpList_want hgd fun K hK => wp_load_mid ty x ho b q hx cs d hc hu hr hi (hK _ _ h)
theorem rng_gr {w w' : World} {b q : Nat} {cs : List Value} (h : w.rangeAt b q cs) (hg : Gr w w') : w'.rangeAt b q cs := fun j v hv => hg.cell (h j v hv)
theorem rng_blk {w0 w : World} {L : List Chunk} (h : Mem w0 w L) {g : Nat} {cs : List Value} {t : TypeId} {fr : Nat × Nat} (hm : Blk g (.cells cs.toArray t fr) ∈ L) : w.rangeAt g 0 cs := fun j v hv => by
  simpa using h.cell hm j hv
/-- Two blocks of one memory are two. -/
theorem Mem.ne {w0 w : World} {g g' : Nat} {o o' : Obj} {L : List Chunk} (h : Mem w0 w (Blk g o :: L)) (hm : Blk g' o' ∈ L) : g ≠ g' := fun e => (List.pairwise_cons.1 h.dis).1 _ hm g rfl e
/-- A store behind what is kept. -/
theorem Gr.setc {a b : World} (h : Gr a b) {g i : Nat} (hg : a.heap.size ≤ g) (u : Value) : Gr a (b.setCell ⟨g, i, none⟩ u) :=
  ⟨h.os, h.tape, h.output, by simpa [World.setCell] using h.size, fun k hk => by
    rw [← h.block k hk]
    exact Below.heap_setCell _ _ _ _ (by show k ≠ g; omega)⟩
theorem row_desc {ty : TypeId} (hd : (P.underlying ty).map (·.isRow) = some true) : ∃ d, P.underlying ty = some d ∧ d.isRow = true := by
  cases e : P.underlying ty with
  | none => rw [e] at hd; simp at hd
  | some d => rw [e] at hd; exact ⟨d, rfl, by simpa using hd⟩
/-- Results: a struct in a cell, alone and with others. -/
theorem res_cell {fn : Func} {p : Tmp} {ty : TypeId} (h : fn.results = #[.cell p ty]) (tmps : Array Value) (g : Nat) (t : TypeId) (cs : List Value) (fr : Nat × Nat)
    (hp : tmps.getD p undef = .pointer (some ⟨g, 0, none⟩)) (hm : Mem w0 w L) (hg : Blk g (.cells cs.toArray t fr) ∈ L) (hd : (P.underlying ty).map (·.isRow) = some true) (hi : (P.info? ty).map (·.size) = some cs.length) :
    (results fn tmps).run P w = .ok (.agg cs.toArray) w := by
  obtain ⟨d, hu, hr⟩ := row_desc hd
  have hp' : tmps[p]?.getD undef = .pointer (some ⟨g, 0, none⟩) := by simpa using hp
  have hv := run_loadVar_mid (P := P) w g 0 ty cs d (rng_blk hm hg) hu hr hi
  simp [results, h, hp', asAddr, hv]
theorem res_cell_tmp {fn : Func} {p q : Tmp} {ty : TypeId} (h : fn.results = #[.cell p ty, .tmp q]) (tmps : Array Value) (g : Nat) (t : TypeId) (cs : List Value) (fr : Nat × Nat)
    (hp : tmps.getD p undef = .pointer (some ⟨g, 0, none⟩)) (hm : Mem w0 w L) (hg : Blk g (.cells cs.toArray t fr) ∈ L) (hd : (P.underlying ty).map (·.isRow) = some true) (hi : (P.info? ty).map (·.size) = some cs.length) :
    (results fn tmps).run P w = .ok (.tuple #[.agg cs.toArray, tmps.getD q undef]) w := by
  obtain ⟨d, hu, hr⟩ := row_desc hd
  have hp' : tmps[p]?.getD undef = .pointer (some ⟨g, 0, none⟩) := by simpa using hp
  have hv := run_loadVar_mid (P := P) w g 0 ty cs d (rng_blk hm hg) hu hr hi
  simp [results, h, hp', asAddr, hv]
theorem res_cell_tmp2 {fn : Func} {p q r : Tmp} {ty : TypeId} (h : fn.results = #[.cell p ty, .tmp q, .tmp r]) (tmps : Array Value) (g : Nat) (t : TypeId) (cs : List Value) (fr : Nat × Nat)
    (hp : tmps.getD p undef = .pointer (some ⟨g, 0, none⟩)) (hm : Mem w0 w L) (hg : Blk g (.cells cs.toArray t fr) ∈ L) (hd : (P.underlying ty).map (·.isRow) = some true) (hi : (P.info? ty).map (·.size) = some cs.length) :
    (results fn tmps).run P w = .ok (.tuple #[.agg cs.toArray, tmps.getD q undef, tmps.getD r undef]) w := by
  obtain ⟨d, hu, hr⟩ := row_desc hd
  have hp' : tmps[p]?.getD undef = .pointer (some ⟨g, 0, none⟩) := by simpa using hp
  have hv := run_loadVar_mid (P := P) w g 0 ty cs d (rng_blk hm hg) hu hr hi
  simp [results, h, hp', asAddr, hv]
/-- The same memory, less of it. -/
theorem Mem.recut {w0 w : World} {L : List Chunk} {size n c : Nat} {A : Option Addr} {xs : List Value} (h : Mem w0 w (Own size (.slice A n c) xs :: L)) (k c' : Nat) (hk : k ≤ n) (hk' : k ≤ c') (hc' : c' ≤ c) :
    Mem w0 w (Own size (.slice A k c') (xs.take (k * size)) :: L) := by
  refine h.upd ⟨rfl, rfl, rfl, Nat.le_refl _, fun _ _ _ => rfl⟩ ?_ ?_
  · obtain ⟨_, _, _, e, h1, h2, h3, ho, h4⟩ := h.ok _ m0
    cases e
    have hle : k * size ≤ n * size := Nat.mul_le_mul_right _ hk
    refine ⟨A, k, c', rfl, by rw [List.length_take]; omega, hk', by omega, ho.take _, ?_⟩
    rcases h4 with h4 | ⟨g, off, t, cur, rfl, hg, h5, h6⟩
    · left; omega
    · right
      refine ⟨g, off, t, cur, rfl, hg, by have := Nat.mul_le_mul_right size hc'; omega, ?_⟩
      rw [← h6, List.take_take, Nat.min_eq_left hle]
  · rintro j ⟨off, n', c1, e, hc⟩
    cases e
    exact .inl ⟨off, n, c, rfl, by omega⟩
/-- What lies behind the first k elements. -/
theorem RdC.behind {w : World} {size : Nat} {b o n c : Nat} {cs : List Value} (h : RdC w size (.slice (some ⟨b, o, none⟩) n c) cs) (k : Nat) (hk : k ≤ n) :
    RdC w size (.slice (some ⟨b, o + k * size, none⟩) (n - k) (c - k)) (cs.drop (k * size)) := by
  obtain ⟨_, _, _, e, h1, h2, h3, ho, h4⟩ := h
  cases e
  refine ⟨_, _, _, rfl, by rw [List.length_drop, h1, Nat.sub_mul], by omega, by omega, ho.drop _, fun j u hj => ?_⟩
  rw [List.getElem?_drop] at hj
  obtain ⟨ad, e, hc⟩ := h4 _ u hj
  cases e
  refine ⟨_, rfl, ?_⟩
  rw [add_lit] at hc ⊢
  rwa [Nat.add_assoc]
theorem RdC.empty (w : World) (size : Nat) (A : Option Addr) (c : Nat) (hc : c ≤ maxLen) : RdC w size (.slice A 0 c) [] := ⟨A, 0, c, rfl, by simp, by omega, hc, One.nil, by simp⟩
theorem Mem.back2 {w0 w : World} {a b c : Chunk} {L : List Chunk} (h : Mem w0 w (a :: b :: c :: L)) : Mem w0 w (b :: c :: a :: L) := h.perm ((List.Perm.swap b a (c :: L)).trans ((List.Perm.swap c a L).cons b))
theorem Mem.pull2 {w0 w : World} {a b c : Chunk} {L : List Chunk} (h : Mem w0 w (a :: b :: c :: L)) : Mem w0 w (c :: a :: b :: L) := h.perm (((List.Perm.swap c b L).cons a).trans (List.Perm.swap c a (b :: L)))
theorem Mem.pull3 {w0 w : World} {a b c d : Chunk} {L : List Chunk} (h : Mem w0 w (a :: b :: c :: d :: L)) : Mem w0 w (d :: a :: b :: c :: L) :=
  h.perm ((((List.Perm.swap d c L).cons b).cons a).trans (((List.Perm.swap d b (c :: L)).cons a).trans (List.Perm.swap d a (b :: c :: L))))
theorem Mem.pull4 {w0 w : World} {a b c d e : Chunk} {L : List Chunk} (h : Mem w0 w (a :: b :: c :: d :: e :: L)) : Mem w0 w (e :: a :: b :: c :: d :: L) :=
  h.perm (((((List.Perm.swap e d L).cons c).cons b).cons a).trans ((((List.Perm.swap e c (d :: L)).cons b).cons a).trans (((List.Perm.swap e b (c :: d :: L)).cons a).trans (List.Perm.swap e a (b :: c :: d :: L)))))
end
end Go.Mm
namespace Go.Proofs.YtgflfpepfpekhaaGreat
open Go.RowKit Go.Mm
set_option maxHeartbeats 400000
set_option maxRecDepth 100000
theorem row_V : (Tryz.prog.underlying 36).map (·.isRow) = some true := by kernel_rfl
theorem marksV_at (xs : List V2) (n j : Nat) (hn : xs.length = n) (hj : j < 64) : (xs ++ marksV 64).getD (n + j) (0, 0) = (-9, (j : Int)) := by
  rw [List.getD_eq_getElem?_getD, List.getElem?_append_right (by omega), hn, Nat.add_sub_cancel_left]
  simp [marksV, hj, markV]
/-- What is asked is so: a list, and the same with the marks behind it. -/
theorem keptValues_ok (w : World) (A : Option Addr) (n c : Nat) (B : Option Addr) (d : Nat) (xs : List V2) (hx : Fact (RdC w 2 (.slice A (n + 64) c) (fV (xs ++ marksV 64)))) (hy : Fact (RdC w 2 (.slice B n d) (fV xs))) (hn : n ≤ 4194304) :
    Calls Tryz.prog 32 #[.slice A (n + 64) c, .slice B n d] w fun e w' => e = .returned (.bool true) ∧ Gr w w' := by
  have hl := Fact.mk (rdV_len hy.out)
  have hne : (((n + 64 : Nat) : Int) != (n : Int) + 64) = false := by simp
  go_enter Tryz.func32, Tryz.ntmps32
  go_wp2
  go_loopw [5] (fun v w' => ∃ (k : Nat), v = .int .i64 k ∧ k ≤ n + 64 ∧ Gr w w') (fun v _ => n + 64 - (intOf v).toNat)
  case atStart => exact ⟨0, rfl, by omega, Gr.refl _⟩
  case round =>
    clear hne
    obtain ⟨k, rfl, hk, hg⟩ := hrel
    by_cases hlt : k < n + 64
    · obtain ⟨b, o, rfl, r1, _, _⟩ := rd_at cV_len (by omega) (0, 0) hx.out k hlt
      have r1 := rng_gr r1 hg
      by_cases hin : k < n
      · obtain ⟨bb, ob, rfl, r2, _, _⟩ := rd_at cV_len (by omega) (0, 0) hy.out k hin
        have r2 := rng_gr r2 hg
        have e1 : (xs ++ marksV 64).getD k (0, 0) = xs.getD k (0, 0) := by simp [List.getD_eq_getElem?_getD, List.getElem?_append, show k < xs.length by have := hl.out; omega]
        rw [e1] at r1
        clear e1
        generalize xs.getD k (0, 0) = x at r1 r2
        go_upto_region 8 with (fail)
        have hm := (Mem.start wr).alloc (.cells [.int .i64 (-9), .int .i64 ((k : Int) - (n : Int))].toArray 36)
        generalize hg1 : wr.heap.size = g0 at hm ⊢
        generalize hw1 : wr.alloc (.cells [.int .i64 (-9), .int .i64 ((k : Int) - (n : Int))].toArray 36) = w1 at hm
        clear hw1 hg1
        have r1 := Fact.mk r1
        have r2 := Fact.mk (rng_gr r2 hm.below)
        go_upto_region 9 with (first | (refine wp_rng rfl 36 _ rfl bb _ rfl (cV x) r2.out row_V sz_V ?_) | (refine wp_setrow rfl 36 _ _ rfl g0 rfl 36 _ (cV x) rfl hm sz_V rfl (cV_one x) ?_; intro w2 hm2))
        have g1 := Gr.cell hm2.below (r1.out 0 _ rfl)
        have g1b := hm2.cell m0 0 rfl
        have g2 := Gr.cell hm2.below (r1.out 1 _ rfl)
        have g2b := hm2.cell m0 1 rfl
        simp only [Nat.add_zero] at g1
        have hgr := hg.trans hm2.below
        clear r1 r2 hm hm2
        go_quiet (fail)
        go_wp2
        go_roundw
        case rel => exact ⟨k + 1, by go_num, by omega, Gr.drewN hgr _⟩
        case measure => simp [intOf]; omega
      · obtain ⟨j, rfl⟩ : ∃ j, k = n + j := ⟨k - n, by omega⟩
        rw [marksV_at xs n j hl.out (by omega)] at r1
        have e4 : ((n + j : Nat) : Int) - (n : Int) = (j : Int) := by omega
        have e5 : (n : Int) + (j : Int) - (n : Int) = (j : Int) := by omega
        go_upto_region 9 with (fail)
        have hm := (Mem.start wr).alloc (.cells [.int .i64 (-9), .int .i64 (j : Int)].toArray 36)
        generalize hg1 : wr.heap.size = g0 at hm ⊢
        generalize hw1 : wr.alloc (.cells [.int .i64 (-9), .int .i64 (j : Int)].toArray 36) = w1 at hm
        try refine wp_world hw1 ?_
        clear hw1 hg1
        have g1 := Gr.cell hm.below (r1 0 _ rfl)
        have g1b := hm.cell m0 0 rfl
        have g2 := Gr.cell hm.below (r1 1 _ rfl)
        have g2b := hm.cell m0 1 rfl
        simp only [Nat.add_zero] at g1
        have hgr := hg.trans hm.below
        clear r1 hm
        go_quiet (fail)
        go_wp2
        go_roundw
        case rel => exact ⟨n + j + 1, by go_num, by omega, Gr.drewN hgr _⟩
        case measure => simp [intOf]; omega
    · go_wp2
      go_ret
      exact ⟨rfl, hg⟩
theorem row_I : (Tryz.prog.underlying 142).map (·.isRow) = some true := by kernel_rfl
theorem szi : (Tryz.prog.info? 142).map (·.size) = some 2 := by kernel_rfl
theorem row_H : (Tryz.prog.underlying 43).map (·.isRow) = some true := by kernel_rfl
theorem szh : (Tryz.prog.info? 43).map (·.size) = some 4 := by kernel_rfl
theorem marksI_at (xs : List V2) (n j : Nat) (hn : xs.length = n) (hj : j < 64) : (xs ++ marksI 64).getD (n + j) (0, 0) = (-7, (j : Int)) := by
  rw [List.getD_eq_getElem?_getD, List.getElem?_append_right (by omega), hn, Nat.add_sub_cancel_left]
  simp [marksI, hj, markV]
/-- What is asked is so: a list, and the same with the marks behind it. -/
theorem keptInstrs_ok (w : World) (A : Option Addr) (n c : Nat) (B : Option Addr) (d : Nat) (xs : List V2) (hx : Fact (RdC w 2 (.slice A (n + 64) c) (fV (xs ++ marksI 64)))) (hy : Fact (RdC w 2 (.slice B n d) (fV xs))) (hn : n ≤ 4194304) :
    Calls Tryz.prog 68 #[.slice A (n + 64) c, .slice B n d] w fun e w' => e = .returned (.bool true) ∧ Gr w w' := by
  have hl := Fact.mk (rdV_len hy.out)
  have hne : (((n + 64 : Nat) : Int) != (n : Int) + 64) = false := by simp
  go_enter Tryz.func68, Tryz.ntmps68
  go_wp2
  go_loopw [5] (fun v w' => ∃ (k : Nat), v = .int .i64 k ∧ k ≤ n + 64 ∧ Gr w w') (fun v _ => n + 64 - (intOf v).toNat)
  case atStart => exact ⟨0, rfl, by omega, Gr.refl _⟩
  case round =>
    clear hne
    obtain ⟨k, rfl, hk, hg⟩ := hrel
    by_cases hlt : k < n + 64
    · obtain ⟨b, o, rfl, r1, _, _⟩ := rd_at cV_len (by omega) (0, 0) hx.out k hlt
      have r1 := rng_gr r1 hg
      by_cases hin : k < n
      · obtain ⟨bb, ob, rfl, r2, _, _⟩ := rd_at cV_len (by omega) (0, 0) hy.out k hin
        have r2 := rng_gr r2 hg
        have e1 : (xs ++ marksI 64).getD k (0, 0) = xs.getD k (0, 0) := by simp [List.getD_eq_getElem?_getD, List.getElem?_append, show k < xs.length by have := hl.out; omega]
        rw [e1] at r1
        clear e1
        generalize xs.getD k (0, 0) = x at r1 r2
        go_upto_region 8 with (fail)
        have hm := (Mem.start wr).alloc (.cells [.int .i64 (-7), .int .i64 ((k : Int) - (n : Int))].toArray 142)
        generalize hg1 : wr.heap.size = g0 at hm ⊢
        generalize hw1 : wr.alloc (.cells [.int .i64 (-7), .int .i64 ((k : Int) - (n : Int))].toArray 142) = w1 at hm
        clear hw1 hg1
        have r1 := Fact.mk r1
        have r2 := Fact.mk (rng_gr r2 hm.below)
        go_upto_region 9 with (first | (refine wp_rng rfl 142 _ rfl bb _ rfl (cV x) r2.out row_I szi ?_) | (refine wp_setrow rfl 142 _ _ rfl g0 rfl 142 _ (cV x) rfl hm szi rfl (cV_one x) ?_; intro w2 hm2))
        have g1 := Gr.cell hm2.below (r1.out 0 _ rfl)
        have g1b := hm2.cell m0 0 rfl
        have g2 := Gr.cell hm2.below (r1.out 1 _ rfl)
        have g2b := hm2.cell m0 1 rfl
        simp only [Nat.add_zero] at g1
        have hgr := hg.trans hm2.below
        clear r1 r2 hm hm2
        go_quiet (fail)
        go_wp2
        go_roundw
        case rel => exact ⟨k + 1, by go_num, by omega, Gr.drewN hgr _⟩
        case measure => simp [intOf]; omega
      · obtain ⟨j, rfl⟩ : ∃ j, k = n + j := ⟨k - n, by omega⟩
        rw [marksI_at xs n j hl.out (by omega)] at r1
        have e4 : ((n + j : Nat) : Int) - (n : Int) = (j : Int) := by omega
        have e5 : (n : Int) + (j : Int) - (n : Int) = (j : Int) := by omega
        go_upto_region 9 with (fail)
        have hm := (Mem.start wr).alloc (.cells [.int .i64 (-7), .int .i64 (j : Int)].toArray 142)
        generalize hg1 : wr.heap.size = g0 at hm ⊢
        generalize hw1 : wr.alloc (.cells [.int .i64 (-7), .int .i64 (j : Int)].toArray 142) = w1 at hm
        try refine wp_world hw1 ?_
        clear hw1 hg1
        have g1 := Gr.cell hm.below (r1 0 _ rfl)
        have g1b := hm.cell m0 0 rfl
        have g2 := Gr.cell hm.below (r1 1 _ rfl)
        have g2b := hm.cell m0 1 rfl
        simp only [Nat.add_zero] at g1
        have hgr := hg.trans hm.below
        clear r1 hm
        go_quiet (fail)
        go_wp2
        go_roundw
        case rel => exact ⟨n + j + 1, by go_num, by omega, Gr.drewN hgr _⟩
        case measure => simp [intOf]; omega
    · go_wp2
      go_ret
      exact ⟨rfl, hg⟩
theorem marksH_at (xs : List H4) (n j : Nat) (hn : xs.length = n) (hj : j < 64) : (xs ++ marksH 64).getD (n + j) (0, 0, 0, 0) = (-7, (j : Int), 0, 0) := by
  rw [List.getD_eq_getElem?_getD, List.getElem?_append_right (by omega), hn, Nat.add_sub_cancel_left]
  simp [marksH, hj, markV]
/-- What is asked is so: a list, and the same with the marks behind it. -/
theorem keptHandlers_ok (w : World) (A : Option Addr) (n c : Nat) (B : Option Addr) (d : Nat) (xs : List H4) (hx : Fact (RdC w 4 (.slice A (n + 64) c) (fH (xs ++ marksH 64)))) (hy : Fact (RdC w 4 (.slice B n d) (fH xs))) (hn : n ≤ 4194304) :
    Calls Tryz.prog 69 #[.slice A (n + 64) c, .slice B n d] w fun e w' => e = .returned (.bool true) ∧ Gr w w' := by
  have hl := Fact.mk (rdH_len hy.out)
  have hne : (((n + 64 : Nat) : Int) != (n : Int) + 64) = false := by simp
  go_enter Tryz.func69, Tryz.ntmps69
  go_wp2
  go_loopw [5] (fun v w' => ∃ (k : Nat), v = .int .i64 k ∧ k ≤ n + 64 ∧ Gr w w') (fun v _ => n + 64 - (intOf v).toNat)
  case atStart => exact ⟨0, rfl, by omega, Gr.refl _⟩
  case round =>
    clear hne
    obtain ⟨k, rfl, hk, hg⟩ := hrel
    by_cases hlt : k < n + 64
    · obtain ⟨b, o, rfl, r1, _, _⟩ := rd_at cH_len (by omega) (0, 0, 0, 0) hx.out k hlt
      have r1 := rng_gr r1 hg
      by_cases hin : k < n
      · obtain ⟨bb, ob, rfl, r2, _, _⟩ := rd_at cH_len (by omega) (0, 0, 0, 0) hy.out k hin
        have r2 := rng_gr r2 hg
        have e1 : (xs ++ marksH 64).getD k (0, 0, 0, 0) = xs.getD k (0, 0, 0, 0) := by simp [List.getD_eq_getElem?_getD, List.getElem?_append, show k < xs.length by have := hl.out; omega]
        rw [e1] at r1
        clear e1
        generalize xs.getD k (0, 0, 0, 0) = x at r1 r2
        go_upto_region 8 with (fail)
        have hm := (Mem.start wr).alloc (.cells [.int .i64 (-7), .int .i64 ((k : Int) - (n : Int)), .int .i64 0, .int .i64 0].toArray 43)
        generalize hg1 : wr.heap.size = g0 at hm ⊢
        generalize hw1 : wr.alloc (.cells [.int .i64 (-7), .int .i64 ((k : Int) - (n : Int)), .int .i64 0, .int .i64 0].toArray 43) = w1 at hm
        clear hw1 hg1
        have r1 := Fact.mk r1
        have r2 := Fact.mk (rng_gr r2 hm.below)
        go_upto_region 9 with (first | (refine wp_rng rfl 43 _ rfl bb _ rfl (cH x) r2.out row_H szh ?_) | (refine wp_setrow rfl 43 _ _ rfl g0 rfl 43 _ (cH x) rfl hm szh rfl (cH_one x) ?_; intro w2 hm2))
        have g1 := Gr.cell hm2.below (r1.out 0 _ rfl)
        have g1b := hm2.cell m0 0 rfl
        have g2 := Gr.cell hm2.below (r1.out 1 _ rfl)
        have g2b := hm2.cell m0 1 rfl
        have g3 := Gr.cell hm2.below (r1.out 2 _ rfl)
        have g3b := hm2.cell m0 2 rfl
        have g4 := Gr.cell hm2.below (r1.out 3 _ rfl)
        have g4b := hm2.cell m0 3 rfl
        simp only [Nat.add_zero] at g1
        have hgr := hg.trans hm2.below
        clear r1 r2 hm hm2
        go_quiet (fail)
        go_wp2
        go_roundw
        case rel => exact ⟨k + 1, by go_num, by omega, Gr.drewN hgr _⟩
        case measure => simp [intOf]; omega
      · obtain ⟨j, rfl⟩ : ∃ j, k = n + j := ⟨k - n, by omega⟩
        rw [marksH_at xs n j hl.out (by omega)] at r1
        have e4 : ((n + j : Nat) : Int) - (n : Int) = (j : Int) := by omega
        have e5 : (n : Int) + (j : Int) - (n : Int) = (j : Int) := by omega
        go_upto_region 9 with (fail)
        have hm := (Mem.start wr).alloc (.cells [.int .i64 (-7), .int .i64 (j : Int), .int .i64 0, .int .i64 0].toArray 43)
        generalize hg1 : wr.heap.size = g0 at hm ⊢
        generalize hw1 : wr.alloc (.cells [.int .i64 (-7), .int .i64 (j : Int), .int .i64 0, .int .i64 0].toArray 43) = w1 at hm
        try refine wp_world hw1 ?_
        clear hw1 hg1
        have g1 := Gr.cell hm.below (r1 0 _ rfl)
        have g1b := hm.cell m0 0 rfl
        have g2 := Gr.cell hm.below (r1 1 _ rfl)
        have g2b := hm.cell m0 1 rfl
        have g3 := Gr.cell hm.below (r1 2 _ rfl)
        have g3b := hm.cell m0 2 rfl
        have g4 := Gr.cell hm.below (r1 3 _ rfl)
        have g4b := hm.cell m0 3 rfl
        simp only [Nat.add_zero] at g1
        have hgr := hg.trans hm.below
        clear r1 hm
        go_quiet (fail)
        go_wp2
        go_roundw
        case rel => exact ⟨n + j + 1, by go_num, by omega, Gr.drewN hgr _⟩
        case measure => simp [intOf]; omega
    · go_wp2
      go_ret
      exact ⟨rfl, hg⟩
end Go.Proofs.YtgflfpepfpekhaaGreat
namespace Go.Proofs.YtgflfpepfpekhaaGreat
open Go.RowKit Go.Mm
/-! ### Constants, three cells each -/
abbrev C3 := Int × Int × ByteArray
def cC (x : C3) : List Value := [.int .i64 x.1, .int .i64 x.2.1, .string x.2.2]
theorem cC_len (x : C3) : (cC x).length = 3 := rfl
theorem cC_one (x : C3) : One (cC x) := fun u hu => by simp [cC] at hu; rcases hu with rfl | rfl | rfl <;> rfl
def fC (xs : List C3) : List Value := xs.flatMap cC
/-! ### Functions, five cells each -/
structure Fn where
  name : ByteArray
  params : Int
  locals : Int
  cA : Option Addr
  cn : Nat
  cc : Nat
  code : List V2
  hA : Option Addr
  hn : Nat
  hc : Nat
  hands : List H4
def cF (f : Fn) : List Value := [.string f.name, .int .i64 f.params, .int .i64 f.locals, .slice f.cA f.cn f.cc, .slice f.hA f.hn f.hc]
theorem cF_len (x : Fn) : (cF x).length = 5 := rfl
theorem cF_one (x : Fn) : One (cF x) := fun u hu => by simp [cF] at hu; rcases hu with rfl | rfl | rfl | rfl | rfl <;> rfl
def fF (xs : List Fn) : List Value := xs.flatMap cF
def FnOk (w : World) (f : Fn) : Prop := RdC w 2 (.slice f.cA f.cn f.cc) (fV f.code) ∧ RdC w 4 (.slice f.hA f.hn f.hc) (fH f.hands)
theorem FnOk.gr {w w' : World} {f : Fn} (h : FnOk w f) (hg : Gr w w') : FnOk w' f := ⟨h.1.gr hg, h.2.gr hg⟩
def fn0 : Fn := ⟨⟨#[]⟩, 0, 0, none, 0, 0, [], none, 0, 0, []⟩
/-! ### Programs -/
structure Pg where
  kA : Option Addr
  kn : Nat
  kc : Nat
  consts : List C3
  fA : Option Addr
  fn : Nat
  fc : Nat
  fns : List Fn
def vP (p : Pg) : Value := .agg #[.slice p.kA p.kn p.kc, .slice p.fA p.fn p.fc]
structure PgOk (w : World) (p : Pg) : Prop where
  consts : RdC w 3 (.slice p.kA p.kn p.kc) (fC p.consts)
  fns : RdC w 5 (.slice p.fA p.fn p.fc) (fF p.fns)
  each : ∀ f, f ∈ p.fns → FnOk w f
  small : p.fn ≤ 1048576 ∧ ∀ f, f ∈ p.fns → f.hn ≤ 1048576 ∧ f.cn ≤ 1048576
theorem PgOk.gr {w w' : World} {p : Pg} (h : PgOk w p) (hg : Gr w w') : PgOk w' p := ⟨h.consts.gr hg, h.fns.gr hg, fun f hf => (h.each f hf).gr hg, h.small⟩
/-! ### Frames, three cells each -/
structure Fr where
  fn : Int
  pc : Int
  A : Option Addr
  n : Nat
  c : Nat
  sl : List V2
def cR (f : Fr) : List Value := [.int .i64 f.fn, .int .i64 f.pc, .slice f.A f.n f.c]
theorem cR_len (x : Fr) : (cR x).length = 3 := rfl
theorem cR_one (x : Fr) : One (cR x) := fun u hu => by simp [cR] at hu; rcases hu with rfl | rfl | rfl <;> rfl
def fR (xs : List Fr) : List Value := xs.flatMap cR
theorem fR_app (xs ys : List Fr) : fR (xs ++ ys) = fR xs ++ fR ys := by simp [fR]
theorem fR_one (xs : List Fr) : One (fR xs) := One.flatMap cR_one xs
def FrOk (N : Nat) (w : World) (f : Fr) : Prop := RdC w 2 (.slice f.A f.n f.c) (fV f.sl) ∧ f.n ≤ N
theorem FrOk.gr {N : Nat} {w w' : World} {f : Fr} (h : FrOk N w f) (hg : Gr w w') : FrOk N w' f := ⟨h.1.gr hg, h.2⟩
theorem FrOk.len {N : Nat} {w : World} {f : Fr} (h : FrOk N w f) : f.sl.length = f.n := rdV_len h.1
def fr0 : Fr := ⟨0, 0, none, 0, 0, []⟩
/-- What a frame says. -/
abbrev FrD := Int × Int × List V2
def Fr.data (f : Fr) : FrD := (f.fn, f.pc, f.sl)
structure FrsOk (N : Nat) (w : World) (A : Option Addr) (n c : Nat) (xs : List Fr) : Prop where
  rd : RdC w 3 (.slice A n c) (fR xs)
  each : ∀ f, f ∈ xs → FrOk N w f
theorem FrsOk.gr {N : Nat} {w w' : World} {A : Option Addr} {n c : Nat} {xs : List Fr} (h : FrsOk N w A n c xs) (hg : Gr w w') : FrsOk N w' A n c xs := ⟨h.rd.gr hg, fun f hf => (h.each f hf).gr hg⟩
theorem FrsOk.len {N : Nat} {w : World} {A : Option Addr} {n c : Nat} {xs : List Fr} (h : FrsOk N w A n c xs) : xs.length = n := rd_len cR_len (by omega) h.rd
theorem FrsOk.at {N : Nat} {w : World} {A : Option Addr} {n c : Nat} {xs : List Fr} (h : FrsOk N w A n c xs) (k : Nat) (hk : k < n) :
    ∃ b o, A = some ⟨b, o, none⟩ ∧ w.rangeAt b (o + k * 3) (cR (xs.getD k fr0)) ∧ FrOk N w (xs.getD k fr0) ∧ xs.take (k + 1) = xs.take k ++ [xs.getD k fr0] := by
  obtain ⟨b, o, e, hc, h1, h2⟩ := rd_at cR_len (by omega) fr0 h.rd k hk
  refine ⟨b, o, e, hc, h.each _ ?_, h1⟩
  have := getD_some xs fr0 k h2
  exact List.mem_of_getElem? this
end Go.Proofs.YtgflfpepfpekhaaGreat
namespace Go.Mm
open Go.RowKit
theorem Mem.join {w0 w w' : World} {L M : List Chunk} (h : Mem w0 w L) (hn : Mem w w' M) : Mem w0 w' (M ++ L) := by
  have h' := h.gr hn.below
  refine ⟨h'.below, ?_, ?_, List.pairwise_append.2 ⟨hn.dis, h'.dis, fun c hc d hd k hk hk' => ?_⟩⟩
  · intro d hd
    rcases List.mem_append.1 hd with hd | hd
    · exact hn.ok d hd
    · exact h'.ok d hd
  · intro d hd k hk
    rcases List.mem_append.1 hd with hd | hd
    · exact ⟨Nat.le_trans h.below.size (hn.rng d hd k hk).1, (hn.rng d hd k hk).2⟩
    · exact h'.rng d hd k hk
  · have := (h.rng d hd k hk').2
    have := (hn.rng c hc k hk).1
    omega
/-- Two chunks seen as one. -/
theorem Mem.merge {w0 w : World} {a b : Chunk} {L : List Chunk} (c : Chunk) (h : Mem w0 w (a :: b :: L)) (hf : ∀ k, c.foot k → a.foot k ∨ b.foot k) (ho : a.ok w → b.ok w → c.ok w) : Mem w0 w (c :: L) := by
  have hd := List.pairwise_cons.1 h.dis
  have hd2 := List.pairwise_cons.1 hd.2
  refine ⟨h.below, ?_, ?_, List.pairwise_cons.2 ⟨fun d hd' k hk hk' => ?_, hd2.2⟩⟩
  · intro d hd'
    rcases List.mem_cons.1 hd' with rfl | hd'
    · exact ho (h.ok a (by simp)) (h.ok b (by simp))
    · exact h.ok d (by simp [hd'])
  · intro d hd' k hk
    rcases List.mem_cons.1 hd' with rfl | hd'
    · rcases hf k hk with h1 | h1
      · exact h.rng a (by simp) k h1
      · exact h.rng b (by simp) k h1
    · exact h.rng d (by simp [hd']) k hk
  · rcases hf k hk with h1 | h1
    · exact hd.1 d (by simp [hd']) k h1 hk'
    · exact hd2.1 d hd' k h1 hk'
/-- Many slices: v: an element's slice; f: its cells. -/
def Many {α : Type} (size : Nat) (v : α → Value) (f : α → List Value) (ys : List α) : Chunk :=
  ⟨fun k => ∃ y, y ∈ ys ∧ sfoot (v y) k, fun w => ∀ y, y ∈ ys → OwnAt size (v y) (f y) w, fun w w' h hw y hy => (Own size (v y) (f y)).loc w w' (fun k hk => h k ⟨y, hy, hk⟩) (hw y hy)⟩
theorem Mem.many0 {α : Type} {w0 w : World} {L : List Chunk} (h : Mem w0 w L) (size : Nat) (v : α → Value) (f : α → List Value) : Mem w0 w (Many size v f [] :: L) := by
  refine ⟨h.below, ?_, ?_, List.pairwise_cons.2 ⟨fun d _ k hk => ?_, h.dis⟩⟩
  · intro d hd
    rcases List.mem_cons.1 hd with rfl | hd
    · intro y hy; cases hy
    · exact h.ok d hd
  · intro d hd k hk
    rcases List.mem_cons.1 hd with rfl | hd
    · obtain ⟨y, hy, _⟩ := hk; cases hy
    · exact h.rng d hd k hk
  · obtain ⟨y, hy, _⟩ := hk; cases hy
theorem Mem.many1 {α : Type} {w0 w : World} {L : List Chunk} {size : Nat} {v : α → Value} {f : α → List Value} {ys : List α} (y : α) (h : Mem w0 w (Own size (v y) (f y) :: Many size v f ys :: L)) : Mem w0 w (Many size v f (ys ++ [y]) :: L) := by
  refine h.merge _ (fun k hk => ?_) (fun h1 h2 => ?_)
  · obtain ⟨z, hz, hk⟩ := hk
    rcases List.mem_append.1 hz with hz | hz
    · exact .inr ⟨z, hz, hk⟩
    · simp at hz; subst hz; exact .inl hk
  · intro z hz
    rcases List.mem_append.1 hz with hz | hz
    · exact h2 z hz
    · simp at hz; subst hz; exact h1
section
variable {P : Program} {ops : Array Oper} {rest : List Oper} {o : Oper} {a : Act} {Q : Exit → Act → World → Prop} {w0 w : World} {L : List Chunk}
theorem madeCells_flat {α : Type} (f : α → List Value) (z : α) (size : Nat) (hs : 0 < size) (hf : ∀ x, (f x).length = size) (n : Nat) : (madeCells (f z).toArray (n * size)).toList = (List.replicate n z).flatMap f := by
  apply List.ext_getElem?
  intro i
  by_cases hi : i < n * size
  · have hd : i = (i / size) * size + i % size := by rw [Nat.mul_comm, Nat.div_add_mod]
    have hlt : i % size < size := Nat.mod_lt _ hs
    have hdl : i / size < n := by rw [Nat.div_lt_iff_lt_mul hs]; exact hi
    rw [show (List.flatMap f (List.replicate n z))[i]? = (List.flatMap f (List.replicate n z))[(i / size) * size + i % size]? by rw [← hd], flatMap_at f size hf _ _ _ hlt]
    simp [madeCells, hi, hdl, hf, hlt]
  · rw [List.getElem?_eq_none (by simp [madeCells]; omega), List.getElem?_eq_none (by rw [flatMap_length f size hf]; simp; omega)]
/-- make([]T, n): the elements are the zero. -/
theorem wp_make {α : Type} (f : α → List Value) (zx : α) (size bytes : Nat) (hs : 0 < size) (hf : ∀ x, (f x).length = size) (h1 : ∀ x, One (f x)) (hgd : o.guard = none) (l c : Operand) (t e : TypeId) (ho : o.op = .makeSlice t l c) (ht : P.underlying t = some (.slice e))
    (i : TypeInfo) (z : Value) (hi : P.info? e = some i) (hz : i.zero = some z) (hsz : i.size = size) (hby : i.bytes = bytes) (hzc : z.cells = (f zx).toArray) (N : Int) (n : Nat) (hN : N = n) (hl : a.eval l = .int .i64 N) (hc : a.eval c = .int .i64 N) (hb : bytes * n ≤ 281474976710656) (hn : n ≤ maxLen) (hm : Mem w0 w L)
    (h : ∀ g w', Mem w0 w' (Own size (.slice (some ⟨g, 0, none⟩) n n) ((List.replicate n zx).flatMap f) :: L) → wpList P ops Q rest (a.put o.dst (.slice (some ⟨g, 0, none⟩) n n)) w') : wpList P ops Q (o :: rest) a w :=
  wpList_plain hgd fun K hK => by
    subst hN; subst hsz; subst hby
    have hb' : (i.bytes : Int) * (n : Int) ≤ 281474976710656 := by
      have h : ((i.bytes * n : Nat) : Int) ≤ 281474976710656 := by omega
      rwa [Int.natCast_mul] at h
    have hr := run_make (P := P) w t e i z ht hi hz .i64 .i64 n n (by omega) (Int.le_refl _) hb' (by simp [maxLen] at hn; omega)
    simp only [Int.toNat_natCast] at hr
    unfold Oper.wp execOp
    simp only [ho, hl, hc, Sem.run_bind, hr, Result.andThen_ok, Sem.run_pure]
    refine hK _ _ (h w.heap.size _ (hm.new ⟨(Gr.refl w).alloc _, ?_, fun k hk => ?_⟩))
    · refine ⟨_, _, _, rfl, by rw [flatMap_length f i.size hf]; simp, Nat.le_refl _, hn, One.flatMap h1 _, .inr ⟨w.heap.size, 0, e, _, rfl, heap_alloc_new w _, by rw [size_madeCells]; omega, ?_⟩⟩
      rw [hzc, madeCells_flat f zx i.size hs hf, List.drop_zero, List.take_of_length_le (by rw [flatMap_length f i.size hf]; simp)]
    · obtain ⟨_, _, _, e, _⟩ := hk
      cases e
      simp
theorem splice_cells {cur xs us : List Value} {off m j : Nat} (h : (cur.drop off).take m = xs) (hl : xs.length = m) (hj : j + us.length ≤ m) (hoff : off ≤ cur.length) :
    ((cur.take (off + j) ++ us ++ cur.drop (off + j + us.length)).drop off).take m = xs.take j ++ us ++ xs.drop (j + us.length) := by
  have hB : cur.drop off = xs ++ (cur.drop off).drop m := by rw [← h, List.take_append_drop]
  have hcur : cur = cur.take off ++ (xs ++ (cur.drop off).drop m) := by rw [← hB, List.take_append_drop]
  generalize (cur.drop off).drop m = C at hB hcur
  generalize hA : cur.take off = A at hcur
  have hAl : A.length = off := by rw [← hA, List.length_take, Nat.min_eq_left hoff]
  clear hA hB h
  subst hcur; subst hAl; subst hl
  have e1 : (A ++ (xs ++ C)).take (A.length + j) = A ++ xs.take j := by
    rw [List.take_append, List.take_of_length_le (by omega), Nat.add_sub_cancel_left, List.take_append_of_le_length (by omega)]
  have e2 : (A ++ (xs ++ C)).drop (A.length + j + us.length) = xs.drop (j + us.length) ++ C := by
    rw [List.drop_append, List.drop_eq_nil_of_le (by omega), List.nil_append, show A.length + j + us.length - A.length = j + us.length by omega, List.drop_append_of_le_length (by omega)]
  rw [e1, e2]
  have e3 : A ++ xs.take j ++ us ++ (xs.drop (j + us.length) ++ C) = A ++ ((xs.take j ++ us ++ xs.drop (j + us.length)) ++ C) := by simp
  rw [e3, List.drop_left, List.take_append_of_le_length (by simp; omega), List.take_of_length_le (by simp; omega)]
/-- A row of cells stored into a slice of one's own, the first chunk. -/
theorem Mem.own_row {size g off n c : Nat} {xs : List Value} (hm : Mem w0 w (Own size (.slice (some ⟨g, off, none⟩) n c) xs :: L)) (j : Nat) (us : List Value) (hj : j + us.length ≤ xs.length) (h1 : One us) :
    ∃ w', (storeCells ⟨g, off + j, none⟩ us 0).run P w = .ok () w' ∧ Mem w0 w' (Own size (.slice (some ⟨g, off, none⟩) n c) (xs.take j ++ us ++ xs.drop (j + us.length)) :: L) := by
  have hown := hm.ok _ m0
  obtain ⟨_, _, _, e, hxl, hnc, hcm, hox, h4⟩ := hown
  cases e
  by_cases hc0 : c = 0
  · obtain rfl : n = 0 := by omega
    obtain rfl : xs = [] := List.eq_nil_of_length_eq_zero (by simpa using hxl)
    obtain rfl : us = [] := List.eq_nil_of_length_eq_zero (by simp only [List.length_nil] at hj; omega)
    exact ⟨w, by simp [storeCells], by simpa using hm⟩
  rcases h4 with h4 | ⟨g', off', t, cur, e, hg, h5, h6⟩
  · exact (hc0 h4).elim
  cases e
  have hle : n * size ≤ c * size := Nat.mul_le_mul_right _ hnc
  have hst := run_storeCells_at P g (off + j) t us 0 cur w hg (by omega) h1
  simp only [Nat.add_zero] at hst
  refine ⟨_, hst, hm.upd ⟨rfl, rfl, rfl, by simp, fun k _ hk => setRow_other w g k _ (fun e => hk ⟨off, n, c, by rw [e], hc0⟩)⟩ ?_ (fun k hk => .inl hk)⟩
  refine ⟨_, _, _, rfl, by simp; omega, hnc, hcm, ((hox.take j).append h1).append (hox.drop _), .inr ⟨g, off, t, _, rfl, setRow_heap w g cur _ t _ hg, ?_, ?_⟩⟩
  · simp only [List.size_toArray, List.length_append, List.length_take, List.length_drop, Array.length_toList]
    omega
  · exact splice_cells h6 hxl (by omega) (by simp; omega)
/-- A whole struct stored over element k of a slice of one's own, the first chunk. -/
theorem wp_ownrow {size g off n c : Nat} {xs : List Value} (hgd : o.guard = none) (ty : TypeId) (p x : Operand) (ho : o.op = .store ty p x) (q j : Nat) (hq : q = off + j) (hp : a.eval p = .pointer (some ⟨g, q, none⟩)) (us : List Value) (hx : a.eval x = .agg us.toArray)
    (hm : Mem w0 w (Own size (.slice (some ⟨g, off, none⟩) n c) xs :: L)) (hi : (P.info? ty).map (·.size) = some us.length) (hj : j + us.length ≤ xs.length) (h1 : One us)
    (h : ∀ w', Mem w0 w' (Own size (.slice (some ⟨g, off, none⟩) n c) (xs.take j ++ us ++ xs.drop (j + us.length)) :: L) → wpList P ops Q rest (a.put o.dst undef) w') : wpList P ops Q (o :: rest) a w :=
  wpList_plain hgd fun K hK => by
    subst hq
    obtain ⟨inf, hi1, hi2⟩ : ∃ inf, P.info? ty = some inf ∧ inf.size = us.length := by
      cases h : P.info? ty with
      | none => rw [h] at hi; simp at hi
      | some inf => rw [h] at hi; exact ⟨inf, rfl, by simpa using hi⟩
    obtain ⟨w', hst, hm'⟩ := hm.own_row (P := P) j us hj h1
    unfold Oper.wp execOp
    simp only [ho, hp, hx]
    simp [Instr.storeAt, Instr.sureAddr, storeVar, sizeOf, typeInfo, hi1, hi2, Value.cells, hst]
    exact hK _ _ (h _ hm')
/-- copy into a slice of one's own, the first chunk, of what is no longer. -/
theorem wp_copy_own {size g off D cap : Nat} {cs : List Value} (hgd : o.guard = none) (d s : Operand) (dT sT : TypeId) (ho : o.op = .call { callee := .builtin .copy, args := #[d, s], argTypes := #[dT, sT] })
    (elem : TypeId) (hu : P.underlying dT = some (.slice elem)) (hsz : (P.info? elem).map (·.size) = some size) (hd : a.eval d = .slice (some ⟨g, off, none⟩) D cap)
    (A : Option Addr) (m c : Nat) (ys : List Value) (hs : a.eval s = .slice A m c) (hr : RdC w size (.slice A m c) ys) (hm : Mem w0 w (Own size (.slice (some ⟨g, off, none⟩) D cap) cs :: L)) (hfit : m ≤ D)
    (h : ∀ w', Mem w0 w' (Own size (.slice (some ⟨g, off, none⟩) D cap) (ys ++ cs.drop (m * size)) :: L) → wpList P ops Q rest (a.put o.dst (.int .i64 (m : Int))) w') : wpList P ops Q (o :: rest) a w :=
  wpList_plain hgd fun K hK => by
    obtain ⟨inf, hi1, hi2⟩ : ∃ inf, P.info? elem = some inf ∧ inf.size = size := by
      cases h : P.info? elem with
      | none => rw [h] at hsz; simp at hsz
      | some inf => rw [h] at hsz; exact ⟨inf, rfl, by simpa using hsz⟩
    obtain ⟨_, _, _, e, hl, _, _, h1, hrr⟩ := hr
    cases e
    have hcl := OwnAt.len (hm.ok _ m0)
    have hle2 : m * size ≤ D * size := Nat.mul_le_mul_right _ hfit
    have hf := run_first (P := P) w size m A m c ys hl hrr
    obtain ⟨w', hst, hm'⟩ := hm.own_row (P := P) 0 ys (by omega) h1
    unfold Oper.wp execOp
    simp only [ho, resolve, invoke, builtin, Sem.run_bind, Sem.run_pure, Result.andThen_ok, List.map_toArray, List.map_cons, List.map_nil, hd, hs]
    have hmin : Nat.min m D = m := Nat.min_eq_left hfit
    simp only [Nat.add_zero] at hst
    simp [Builtin.copy_, run_underlying hu, Builtin.lenOf, sizeOf, typeInfo, hi1, hi2, hmin, hf, hst, goInt]
    have := h w' (by simpa [hl] using hm')
    refine hK _ _ ?_
    simpa using this
/-- append(v, news..) onto a full slice of whomever: memory of its own. -/
theorem run_fresh (t ty e : TypeId) (i : TypeInfo) (z : Value) (size bytes : Nat) (ht : P.underlying t = some (.slice e)) (hi : P.info? e = some i) (hz : i.zero = some z)
    (hsize : i.size = size) (hby : i.bytes = bytes) (hzs : z.cells.size = size)
    (b : Option Addr) (n c : Nat) (xs : List Value) (hown : RdC w size (.slice b n c) xs)
    (ad : Option Addr) (m d : Nat) (news : List Value) (hnews : RdC w size (.slice ad m d) news)
    (h63 : n + m ≤ maxLen) (hbytes : (n + m) * bytes ≤ 140737488355328) (hfull : c < n + m) :
    ∃ b' c' w', (Builtin.append_ #[t, t] ty #[.slice b n c, .slice ad m d]).run P w = .ok (.slice b' (n + m) c') w' ∧ New w w' (Own size (.slice b' (n + m) c') (xs ++ news)) := by
  subst hsize
  subst hby
  obtain ⟨_, _, _, e1, hxl, hnc, hcm, hox, hrx⟩ := hown
  cases e1
  obtain ⟨_, _, _, e2, hl, _, _, h1, hrn⟩ := hnews
  cases e2
  have hsmall : n + m ≤ 9223372036854775807 := by simp only [maxLen] at h63; omega
  have hlen : (xs ++ news).length = (n + m) * i.size := by rw [List.length_append, hxl, hl, Nat.add_mul]
  have hr := run_app_grow (P := P) w t ty e i z ht hi hz b n c xs hxl hrx ad m d news hl hrn (by omega) (by omega) (growslice_fits (by omega) hbytes)
  have hge := grownCap_ge w (n + m) c e
  have hcm' : grownCap w (n + m) c e ≤ maxLen := grownCap_le_maxLen w (n + m) c e h63
  refine ⟨_, _, _, hr, ⟨((Gr.refl w).drew).alloc _, ⟨_, _, _, rfl, hlen, hge, hcm', hox.append h1, .inr ⟨w.heap.size, 0, e, _, rfl, heap_alloc_new w.drew _, ?_, ?_⟩⟩, fun k hk => ?_⟩⟩
  · simp only [Array.size_append, List.size_toArray, size_zeroCells, hzs, hxl, hl, ← Nat.add_mul]
    rw [Nat.zero_add]
    exact Nat.mul_le_mul_right _ (by omega)
  · simp only [Array.toList_append, List.append_assoc, List.drop_zero]
    rw [← List.append_assoc, ← hlen]
    exact List.take_left
  · obtain ⟨o', n', c', e', hc'⟩ := hk
    cases e'
    simp
theorem step_fresh {K : Act → World → Prop} {E : Prop} (hgd : o.guard = none) (s x : Operand) (t : TypeId)
    (ho : o.op = .call { callee := .builtin .append, args := #[s, x], argTypes := #[t, t] })
    (e : TypeId) (i : TypeInfo) (z : Value) (size bytes : Nat) (ht : P.underlying t = some (.slice e)) (hi : P.info? e = some i) (hz : i.zero = some z)
    (hsize : i.size = size) (hby : i.bytes = bytes) (hzs : z.cells.size = size)
    (b : Option Addr) (n c : Nat) (xs : List Value) (hs : a.eval s = .slice b n c) (hown : RdC w size (.slice b n c) xs) (hm : Mem w0 w L)
    (ad : Option Addr) (m d : Nat) (news : List Value) (hx : a.eval x = .slice ad m d) (hnews : RdC w size (.slice ad m d) news)
    (h63 : n + m ≤ maxLen) (hbytes : (n + m) * bytes ≤ 140737488355328) (hfull : c < n + m)
    (h : ∀ b' c' w', Mem w0 w' (Own size (.slice b' (n + m) c') (xs ++ news) :: L) → K (a.put o.dst (.slice b' (n + m) c')) w') :
    if Region.wanted o (yielded ops a.tmps) = true then Oper.wp P o a w K Q else E := by
  have hw : Region.wanted o (yielded ops a.tmps) = true := by simp [Region.wanted, hgd]
  rw [if_pos hw]
  obtain ⟨b', c', w', hr, hn⟩ := run_fresh (P := P) (w := w) t o.type e i z size bytes ht hi hz hsize hby hzs b n c xs hown ad m d news hnews h63 hbytes hfull
  unfold Oper.wp execOp
  simp only [ho, resolve, invoke, builtin, Sem.run_bind, Sem.run_pure, Result.andThen_ok, List.map_toArray, List.map_cons, List.map_nil, hs, hx, hr]
  exact h b' c' w' (hm.new hn)
end
theorem RdC.recap {w : World} {size : Nat} {A : Option Addr} {n c : Nat} {xs : List Value} (h : RdC w size (.slice A n c) xs) (c' : Nat) (h1 : n ≤ c') (h2 : c' ≤ maxLen) : RdC w size (.slice A n c') xs := by
  obtain ⟨_, _, _, e, hl, _, _, ho, hr⟩ := h
  cases e
  exact ⟨_, _, _, rfl, hl, h1, h2, ho, hr⟩
theorem RdC.none0 {w : World} {size : Nat} {n c : Nat} {xs : List Value} (hs : 0 < size) (h : RdC w size (.slice none n c) xs) : n = 0 := by
  obtain ⟨_, _, _, e, hl, _, _, ho, hr⟩ := h
  cases e
  cases xs with
  | nil =>
    have : n * size = 0 := by simpa using hl.symm
    rcases Nat.mul_eq_zero.1 this with h | h
    · exact h
    · omega
  | cons u us => obtain ⟨ad, e, _⟩ := hr 0 u rfl; cases e
end Go.Mm
namespace Go.Proofs.YtgflfpepfpekhaaGreat
open Go.RowKit Go.Mm
set_option maxHeartbeats 400000
set_option maxRecDepth 100000
theorem row_F : (Tryz.prog.underlying 47).map (·.isRow) = some true := by kernel_rfl
theorem szF : (Tryz.prog.info? 47).map (·.size) = some 5 := by kernel_rfl
theorem row_R : (Tryz.prog.underlying 30).map (·.isRow) = some true := by kernel_rfl
theorem szR : (Tryz.prog.info? 30).map (·.size) = some 3 := by kernel_rfl
theorem row_Hh : (Tryz.prog.underlying 43).map (·.isRow) = some true := by kernel_rfl
theorem szHh : (Tryz.prog.info? 43).map (·.size) = some 4 := by kernel_rfl
theorem row_Vv : (Tryz.prog.underlying 36).map (·.isRow) = some true := by kernel_rfl
/-- The function with a number. -/
def fnAt (p : Pg) (i : Int) : Option Fn := if 0 ≤ i ∧ i < p.fn then some (p.fns.getD i.toNat fn0) else none
theorem function_ok (w : World) (p : Pg) (hp : Fact (PgOk w p)) (i : Int) :
    Calls Tryz.prog 17 #[vP p, .int .i64 i] w fun e w' => e = .returned (.tuple #[.agg (cF ((fnAt p i).getD fn0)).toArray, .bool (fnAt p i).isSome]) ∧ Gr w w' := by
  have hsm := hp.out.small.1
  by_cases hi : 0 ≤ i ∧ i < p.fn
  · have hfa : Fact (fnAt p i = some (p.fns.getD i.toNat fn0)) := ⟨by unfold fnAt; rw [if_pos hi]⟩
    obtain ⟨k, rfl⟩ : ∃ k : Nat, i = (k : Int) := ⟨i.toNat, by omega⟩
    obtain ⟨b, o, eA, hr, _, _⟩ := rd_at cF_len (by omega) fn0 hp.out.fns k (by omega)
    rw [Int.toNat_natCast] at hfa
    generalize p.fns.getD k fn0 = x at hr hfa
    rw [hfa.out]
    obtain ⟨kA, kn, kc, consts, fA, fnn, fc, fns⟩ := p
    cases eA
    simp only [vP] at hi hsm ⊢
    have h1 : ((k : Int) < 0) = False := by simp
    have h2 : ((k : Int) ≥ (fnn : Int)) = False := by simp; omega
    go_enter Tryz.func17, Tryz.ntmps17
    go_upto_region 1 with (fail)
    have hm := (((Mem.start w).alloc (.cells [.slice kA kn kc, .slice (some ⟨b, o, none⟩) fnn fc].toArray 26)).alloc (.cells (cF fn0).toArray 47))
    simp only [World.size_alloc] at hm
    generalize hgX : w.heap.size = g at hm ⊢
    generalize hwX : ((w.alloc (.cells [.slice kA kn kc, .slice (some ⟨b, o, none⟩) fnn fc].toArray 26)).alloc (.cells (cF fn0).toArray 47)) = w1 at hm
    try refine wp_world hwX ?_
    clear hwX hgX
    have c1 := hm.cell m1 1 rfl
    have hr1 := Fact.mk (rng_gr hr hm.below)
    go_wp2_with (first | (refine wp_rng rfl 47 _ rfl b _ rfl (cF x) hr1.out row_F szF ?_) | (refine wp_setrow rfl 47 _ _ rfl (g + 1) rfl 47 _ (cF x) rfl hm szF rfl (cF_one x) ?_; intro w2 hm2))
    refine bodyPost_ret (Mm.res_cell_tmp rfl _ (g + 1) 47 (cF x) (0, 0) rfl hm2 m0 row_F szF) rfl ⟨rfl, hm2.below⟩
  · have hfa : Fact (fnAt p i = none) := ⟨by unfold fnAt; rw [if_neg hi]⟩
    rw [hfa.out]
    obtain ⟨kA, kn, kc, consts, fA, fnn, fc, fns⟩ := p
    simp only [vP] at hi hsm ⊢
    by_cases h0 : i < 0
    · go_enter Tryz.func17, Tryz.ntmps17
      go_upto_region 1 with (fail)
      have hm := (((Mem.start w).alloc (.cells [.slice kA kn kc, .slice fA fnn fc].toArray 26)).alloc (.cells (cF fn0).toArray 47))
      simp only [World.size_alloc] at hm
      generalize hgX : w.heap.size = g at hm ⊢
      generalize hwX : ((w.alloc (.cells [.slice kA kn kc, .slice fA fnn fc].toArray 26)).alloc (.cells (cF fn0).toArray 47)) = w1 at hm
      try refine wp_world hwX ?_
      clear hwX hgX
      go_wp2_with (refine wp_setrow rfl 47 _ _ rfl (g + 1) rfl 47 _ (cF fn0) rfl hm szF rfl (cF_one _) ?_; intro w2 hm2)
      refine bodyPost_ret (Mm.res_cell_tmp rfl _ (g + 1) 47 (cF fn0) (0, 0) rfl hm2 m0 row_F szF) rfl ⟨rfl, hm2.below⟩
    · have h2 : (i ≥ (fnn : Int)) = True := by simp; omega
      have h1 : (i < 0) = False := by simp; omega
      go_enter Tryz.func17, Tryz.ntmps17
      go_upto_region 1 with (fail)
      have hm := (((Mem.start w).alloc (.cells [.slice kA kn kc, .slice fA fnn fc].toArray 26)).alloc (.cells (cF fn0).toArray 47))
      simp only [World.size_alloc] at hm
      generalize hgX : w.heap.size = g at hm ⊢
      generalize hwX : ((w.alloc (.cells [.slice kA kn kc, .slice fA fnn fc].toArray 26)).alloc (.cells (cF fn0).toArray 47)) = w1 at hm
      try refine wp_world hwX ?_
      clear hwX hgX
      have c1 := hm.cell m1 1 rfl
      go_wp2_with (refine wp_setrow rfl 47 _ _ rfl (g + 1) rfl 47 _ (cF fn0) rfl hm szF rfl (cF_one _) ?_; intro w2 hm2)
      refine bodyPost_ret (Mm.res_cell_tmp rfl _ (g + 1) 47 (cF fn0) (0, 0) rfl hm2 m0 row_F szF) rfl ⟨rfl, hm2.below⟩
theorem fV_take (xs : List V2) (n : Nat) : fV (xs.take n) = (fV xs).take (n * 2) := by
  induction xs generalizing n with
  | nil => simp [fV]
  | cons x xs ih =>
    cases n with
    | zero => simp [fV]
    | succ n => simp only [List.take_succ_cons, fV, List.flatMap_cons] at ih ⊢; rw [ih, show (n + 1) * 2 = (cV x).length + n * 2 by rw [cV_len]; omega, List.take_append, List.take_of_length_le (l := cV x) (Nat.le_add_right _ _), Nat.add_sub_cancel_left]
theorem fV_one1 (v : V2) : fV [v] = cV v := by simp [fV]
theorem laid_ok (w : World) (A : Option Addr) (m c : Nat) (xs : List V2) (hx : Fact (RdC w 2 (.slice A m c) (fV xs))) (n : Nat) (N : Int) (hN : N = n) (hn : n ≤ m) (hs : m ≤ 2000000) (v : V2) :
    Calls Tryz.prog 20 #[.slice A m c, .int .i64 N, .agg (cV v).toArray] w fun e w' => ∃ A' c', e = .returned (.slice A' (n + 1) c') ∧ New w w' (Own 2 (.slice A' (n + 1) c') (fV (xs.take n ++ [v]))) := by
  subst hN
  obtain ⟨iV, hi, hz0, hz1, hz2⟩ := info_parts inf_V
  have hr := ((hx.out.pre n hn).recap n (Nat.le_refl _) (by unfold maxLen; omega))
  rw [← fV_take] at hr
  have hcap : m ≤ c := by obtain ⟨_, _, _, e, _, h, _⟩ := hx.out; cases e; exact h
  simp only [cV]
  go_enter Tryz.func20, Tryz.ntmps20
  go_upto_region 1 with (fail)
  have hm := ((Mem.start w).alloc (.cells (cV v).toArray 36))
  generalize hgX : w.heap.size = g at hm ⊢
  generalize hwX : (w.alloc (.cells (cV v).toArray 36)) = w1 at hm
  try refine wp_world hwX ?_
  clear hwX hgX
  have c1 := hm.cell m0 0 rfl
  have c2 := hm.cell m0 1 rfl
  cases A with
  | none =>
    obtain rfl : m = 0 := hx.out.none0 (by omega)
    obtain rfl : n = 0 := by omega
    go_region_law (refine step_fresh rfl _ _ _ rfl 36 iV _ 2 16 ty_Vs hi hz0 hz1 hz2 rfl none 0 0 _ rfl (hr.gr (hm.drew.alloc _).below) (hm.drew.alloc _) _ 1 1 (cV v) rfl (RdC.lit _ (cV v) _ 1 2 rfl (by simp [maxLen]) (cV_one v)) (by unfold maxLen; omega) (by omega) (by omega) ?_; intro A1 c1 w1 HM1)
    go_wp2
    go_ret
    exact ⟨A1, c1, rfl, by rw [fV_app, fV_one1]; simpa using HM1.only.new_of⟩
  | some a =>
    have hnc : n ≤ c := by omega
    go_region_law (refine step_fresh rfl _ _ _ rfl 36 iV _ 2 16 ty_Vs hi hz0 hz1 hz2 rfl (some a) n n _ rfl (hr.gr (hm.drew.alloc _).below) (hm.drew.alloc _) _ 1 1 (cV v) rfl (RdC.lit _ (cV v) _ 1 2 rfl (by simp [maxLen]) (cV_one v)) (by unfold maxLen; omega) (by omega) (by omega) ?_; intro A1 c1 w1 HM1)
    go_wp2
    go_ret
    exact ⟨A1, c1, rfl, by rw [fV_app, fV_one1]; simpa using HM1.only.new_of⟩
end Go.Proofs.YtgflfpepfpekhaaGreat
namespace Go.Mm
open Go.RowKit
theorem run_app2 {P : Program} (w : World) (t ty e : TypeId) (i : TypeInfo) (z : Value) (size bytes : Nat) (ht : P.underlying t = some (.slice e)) (hi : P.info? e = some i) (hz : i.zero = some z)
    (hsize : i.size = size) (hby : i.bytes = bytes) (hzs : z.cells.size = size)
    (b : Option Addr) (n c : Nat) (xs : List Value) (hown : OwnAt size (.slice b n c) xs w)
    (a : Option Addr) (m d : Nat) (news : List Value) (hnews : RdC w size (.slice a m d) news)
    (h63 : n + m ≤ maxLen) (hbytes : (n + m) * bytes ≤ 140737488355328) :
    ∃ b' c' w', (Builtin.append_ #[t, t] ty #[.slice b n c, .slice a m d]).run P w = .ok (.slice b' (n + m) c') w' ∧ OwnAt size (.slice b' (n + m) c') (xs ++ news) w' ∧
      Upd (sfoot (.slice b n c)) w w' ∧ ((b' = b ∧ c' = c) ∨ (Gr w w' ∧ ∀ k, sfoot (.slice b' (n + m) c') k → w.heap.size ≤ k ∧ k < w'.heap.size)) := by
  by_cases hroom : n + m ≤ c
  · subst hsize
    subst hby
    have hrd := hown.rd
    obtain ⟨_, _, _, e1, hxl, hnc, hcm, hox, hrx⟩ := hrd
    cases e1
    obtain ⟨_, _, _, e2, hl, _, _, h1, hrn⟩ := hnews
    cases e2
    have hlen : (xs ++ news).length = (n + m) * i.size := by rw [List.length_append, hxl, hl, Nat.add_mul]
    obtain ⟨_, _, _, e3, _, _, _, _, h4⟩ := hown
    cases e3
    by_cases hc0 : c = 0
    · obtain rfl : n = 0 := by omega
      obtain rfl : m = 0 := by omega
      subst hc0
      have hx0 : xs = [] := List.eq_nil_of_length_eq_zero (by simpa using hxl)
      have hn0 : news = [] := List.eq_nil_of_length_eq_zero (by simpa using hl)
      subst hx0
      subst hn0
      refine ⟨b, 0, w, ?_, ⟨b, 0, 0, rfl, by simp, Nat.le_refl _, by simp [maxLen], One.nil, .inl rfl⟩, ⟨rfl, rfl, rfl, Nat.le_refl _, fun _ _ _ => rfl⟩, .inl ⟨rfl, rfl⟩⟩
      have hf := run_first (P := P) w i.size 0 a 0 d [] (by simp) (by simp)
      cases b <;> simp [Builtin.append_, run_underlying ht, sizeOf, typeInfo, hi, Builtin.lenOf, hf, storeCells]
    · rcases h4 with h4 | ⟨g, off, tt, cur, rfl, hg, h5, h6⟩
      · exact (hc0 h4).elim
      have hf := run_first (P := P) w i.size m a m d news hl hrn
      have hle : n * i.size + news.length ≤ c * i.size := by rw [hl, ← Nat.add_mul]; exact Nat.mul_le_mul_right _ hroom
      have hst := run_storeCells_at P g (off + n * i.size) tt news 0 cur w hg (by omega) h1
      simp only [Nat.add_zero] at hst
      generalize hcur : (cur.toList.take (off + n * i.size) ++ news ++ cur.toList.drop (off + n * i.size + news.length)).toArray = cur' at hst
      refine ⟨some ⟨g, off, none⟩, c, w.setRow g cur', ?_, ⟨_, _, _, rfl, hlen, hroom, hcm, hox.append h1, .inr ⟨g, off, tt, cur', rfl, setRow_heap w g cur cur' tt _ hg, ?_, ?_⟩⟩,
        ⟨rfl, rfl, rfl, by simp, fun k _ hk => setRow_other w g k cur' (fun e => hk ⟨off, n, c, by rw [e], hc0⟩)⟩, .inl ⟨rfl, rfl⟩⟩
      · simp [Builtin.append_, run_underlying ht, sizeOf, typeInfo, hi, Builtin.lenOf, hroom, hf, add_lit, hst]
      · subst hcur
        simp only [List.size_toArray, List.length_append, List.length_take, List.length_drop, Array.length_toList]
        omega
      · have hlx : xs.length = n * i.size := hxl
        rw [hlen.symm]
        subst hcur
        have hpre : (cur.toList.take (off + n * i.size)).drop off = xs := by
          rw [← h6, List.drop_take]
          congr 1
          omega
        rw [List.append_assoc, List.drop_append_of_le_length (by simp; omega), hpre, ← List.append_assoc]
        exact List.take_left
  · obtain ⟨b', c', w', hr, hn⟩ := run_fresh (P := P) (w := w) t ty e i z size bytes ht hi hz hsize hby hzs b n c xs hown.rd a m d news hnews h63 hbytes (by omega)
    exact ⟨b', c', w', hr, hn.ok, ⟨hn.gr.os, hn.gr.tape, hn.gr.output, hn.gr.size, fun k hk _ => hn.gr.block k hk⟩, .inr ⟨hn.gr, hn.rng⟩⟩
theorem OwnAt.short {size : Nat} {A : Option Addr} {n c : Nat} {xs : List Value} {w : World} (h : OwnAt size (.slice A n c) xs w) (k c' : Nat) (hk : k ≤ n) (hk' : k ≤ c') (hc' : c' ≤ c) : OwnAt size (.slice A k c') (xs.take (k * size)) w := by
  obtain ⟨_, _, _, e, h1, h2, h3, ho, h4⟩ := h
  cases e
  have hle : k * size ≤ n * size := Nat.mul_le_mul_right _ hk
  refine ⟨A, k, c', rfl, by rw [List.length_take]; omega, hk', by omega, ho.take _, ?_⟩
  rcases h4 with h4 | ⟨g, off, t, cur, rfl, hg, h5, h6⟩
  · left; omega
  · right
    refine ⟨g, off, t, cur, rfl, hg, by have := Nat.mul_le_mul_right size hc'; omega, ?_⟩
    rw [← h6, List.take_take, Nat.min_eq_left hle]
/-- A slice v of one's own that has grown from v0, which reads as it did. -/
def ExtAt (size : Nat) (v : Value) (xs : List Value) (v0 : Value) (xs0 : List Value) (w : World) : Prop :=
  OwnAt size v xs w ∧ ((∃ A n c n0 c0, v = .slice A n c ∧ v0 = .slice A n0 c0 ∧ n0 ≤ n ∧ n0 ≤ c0 ∧ c0 ≤ c ∧ xs0 = xs.take (n0 * size)) ∨ (OwnAt size v0 xs0 w ∧ ∀ k, sfoot v k → ¬ sfoot v0 k))
def Ext (size : Nat) (v : Value) (xs : List Value) (v0 : Value) (xs0 : List Value) : Chunk :=
  ⟨fun k => sfoot v k ∨ sfoot v0 k, ExtAt size v xs v0 xs0, fun w w' h hw => ⟨(Own size v xs).loc w w' (fun k hk => h k (.inl hk)) hw.1, hw.2.imp id fun h2 => ⟨(Own size v0 xs0).loc w w' (fun k hk => h k (.inr hk)) h2.1, h2.2⟩⟩⟩
theorem ExtAt.rd0 {size : Nat} {v : Value} {xs : List Value} {v0 : Value} {xs0 : List Value} {w : World} (h : ExtAt size v xs v0 xs0 w) : RdC w size v0 xs0 := by
  obtain ⟨h1, ⟨A, n, c, n0, c0, rfl, rfl, h2, h3, h4, rfl⟩ | ⟨h2, _⟩⟩ := h
  · exact (h1.short n0 c0 h2 h3 h4).rd
  · exact h2.rd
theorem OwnAt.ext {size : Nat} {v : Value} {xs : List Value} {w : World} (h : OwnAt size v xs w) : ExtAt size v xs v xs w := by
  have h' := h
  obtain ⟨A, n, c, rfl, h1, h2, _⟩ := h
  exact ⟨h', .inl ⟨A, n, c, n, c, rfl, rfl, Nat.le_refl _, h2, Nat.le_refl _, by rw [List.take_of_length_le (by omega)]⟩⟩
theorem Mem.ext {w0 w : World} {size : Nat} {v : Value} {xs : List Value} {L : List Chunk} (h : Mem w0 w (Own size v xs :: L)) : Mem w0 w (Ext size v xs v xs :: L) :=
  h.upd ⟨rfl, rfl, rfl, Nat.le_refl _, fun _ _ _ => rfl⟩ (h.ok _ m0).ext (fun _ hk => .inl (hk.elim id id))
section
variable {P : Program} {ops : Array Oper} {rest : List Oper} {o : Oper} {a : Act} {Q : Exit → Act → World → Prop} {w0 w : World} {L : List Chunk}
/-- append onto a slice that has grown. -/
theorem wp_appe (hgd : o.guard = none) (s x : Operand) (t : TypeId)
    (ho : o.op = .call { callee := .builtin .append, args := #[s, x], argTypes := #[t, t] })
    (e : TypeId) (i : TypeInfo) (z : Value) (size bytes : Nat) (ht : P.underlying t = some (.slice e)) (hi : P.info? e = some i) (hz : i.zero = some z)
    (hsize : i.size = size) (hby : i.bytes = bytes) (hzs : z.cells.size = size)
    (b : Option Addr) (n c : Nat) (xs : List Value) (v0 : Value) (xs0 : List Value) (hs : a.eval s = .slice b n c) (hm : Mem w0 w (Ext size (.slice b n c) xs v0 xs0 :: L))
    (ad : Option Addr) (m d : Nat) (news : List Value) (hx : a.eval x = .slice ad m d) (hnews : RdC w size (.slice ad m d) news)
    (h63 : n + m ≤ maxLen) (hbytes : (n + m) * bytes ≤ 140737488355328)
    (h : ∀ b' c' w', Mem w0 w' (Ext size (.slice b' (n + m) c') (xs ++ news) v0 xs0 :: L) → wpList P ops Q rest (a.put o.dst (.slice b' (n + m) c')) w') : wpList P ops Q (o :: rest) a w :=
  wpList_plain hgd fun K hK => by
    have hext := hm.ok _ m0
    have hrng := hm.rng _ m0
    obtain ⟨hown, hrel⟩ := hext
    obtain ⟨b', c', w', hr, h2, h3, h4⟩ := run_app2 (P := P) w t o.type e i z size bytes ht hi hz hsize hby hzs b n c xs hown ad m d news hnews h63 hbytes
    unfold Oper.wp execOp
    simp only [ho, resolve, invoke, builtin, Sem.run_bind, Sem.run_pure, Result.andThen_ok, List.map_toArray, List.map_cons, List.map_nil, hs, hx, hr]
    refine hK _ _ (h b' c' w' (hm.upd ⟨h3.os, h3.tape, h3.output, h3.size, fun k hk hn => h3.block k hk fun hf => hn (.inl hf)⟩ ⟨h2, ?_⟩ ?_))
    · rcases h4 with ⟨rfl, rfl⟩ | ⟨hg, hf⟩
      · rcases hrel with ⟨A, n1, c1, n0, c0, e1, rfl, k1, k2, k3, rfl⟩ | ⟨k1, k2⟩
        · cases e1
          refine .inl ⟨_, _, _, n0, c0, rfl, rfl, by omega, k2, k3, ?_⟩
          rw [List.take_append_of_le_length]
          rw [hown.len]
          exact Nat.mul_le_mul_right _ k1
        · refine .inr ⟨(Own size v0 xs0).loc w w' (fun k hk => h3.block k (hrng k (.inr hk)).2 fun hk' => k2 k hk' hk) k1, fun k hk hk' => k2 k ?_ hk'⟩
          obtain ⟨o', n', c2, e2, hc2⟩ := hk
          cases e2
          exact ⟨o', n, _, rfl, hc2⟩
      · refine .inr ⟨?_, fun k hk hk' => ?_⟩
        · rcases hrel with ⟨A, n1, c1, n0, c0, e1, rfl, k1, k2, k3, rfl⟩ | ⟨k1, k2⟩
          · cases e1
            exact (Own size (.slice b n0 c0) _).loc w w' (fun k hk => hg.block k (hrng k (.inr hk)).2) (hown.short n0 c0 k1 k2 k3)
          · exact (Own size v0 xs0).loc w w' (fun k hk => hg.block k (hrng k (.inr hk)).2) k1
        · have := (hf k hk).1
          have := (hrng k (.inr hk')).2
          omega
    · rintro k (hk | hk)
      · rcases h4 with ⟨rfl, rfl⟩ | ⟨hg, hf⟩
        · obtain ⟨o', n', c2, e2, hc2⟩ := hk
          cases e2
          exact .inl (.inl ⟨o', n, _, rfl, hc2⟩)
        · exact .inr (hf k hk)
      · exact .inl (.inr hk)
end
theorem Mem.blk_own {w0 w : World} {g n size : Nat} {cs : List Value} {t : TypeId} {L : List Chunk} (h : Mem w0 w (Blk g (.cells cs.toArray t) :: L)) (hl : cs.length = n * size) (hn : n ≤ maxLen) (ho : One cs) :
    Mem w0 w (Own size (.slice (some ⟨g, 0, none⟩) n n) cs :: L) := by
  have hb := h.blk m0
  refine h.upd ⟨rfl, rfl, rfl, Nat.le_refl _, fun _ _ _ => rfl⟩ ⟨_, _, _, rfl, hl, Nat.le_refl _, hn, ho, .inr ⟨g, 0, t, _, rfl, hb, by simp [hl], ?_⟩⟩ ?_
  · rw [List.drop_zero]; exact List.take_of_length_le (by simp [hl])
  · rintro k ⟨o, n', c, e, _⟩
    cases e
    exact .inl rfl
/-- No memory. -/
def nochunk : Chunk := ⟨fun _ => False, fun _ => True, fun _ _ _ h => h⟩
theorem getD_mem {L : List Chunk} {i : Nat} : L.getD i nochunk ∈ L ∨ L.getD i nochunk = nochunk := by
  rw [List.getD_eq_getElem?_getD]
  cases h : L[i]? with
  | none => exact .inr rfl
  | some c => exact .inl (List.mem_of_getElem? h)
/-- Some of the first n chunks, in this order; the others behind them. -/
theorem Mem.sel {w0 w : World} {L : List Chunk} (h : Mem w0 w L) (n : Nat) (is : List Nat) (hi : is.Nodup ∧ ∀ i, i ∈ is → i < n) : Mem w0 w (is.map (fun i => L.getD i nochunk) ++ L.drop n) := by
  have hmem : ∀ c, c ∈ is.map (fun i => L.getD i nochunk) ++ L.drop n → c ∈ L ∨ c = nochunk := fun c hc => by
    rcases List.mem_append.1 hc with hc | hc
    · obtain ⟨i, _, rfl⟩ := List.mem_map.1 hc
      exact getD_mem
    · exact .inl (List.mem_of_mem_drop hc)
  have hdis : ∀ i j, i ≠ j → ∀ k, (L.getD i nochunk).foot k → ¬ (L.getD j nochunk).foot k := fun i j hij k h1 h2 => by
    simp only [List.getD_eq_getElem?_getD] at h1 h2
    by_cases hi : i < L.length
    · by_cases hj : j < L.length
      · simp only [List.getElem?_eq_getElem hi, List.getElem?_eq_getElem hj, Option.getD_some] at h1 h2
        rcases Nat.lt_or_gt_of_ne hij with hlt | hlt
        · exact List.pairwise_iff_getElem.1 h.dis i j hi hj hlt k h1 h2
        · exact List.pairwise_iff_getElem.1 h.dis j i hj hi hlt k h2 h1
      · rw [List.getElem?_eq_none (by omega)] at h2; exact h2
    · rw [List.getElem?_eq_none (by omega)] at h1; exact h1
  refine ⟨h.below, fun c hc => ?_, fun c hc k hk => ?_, List.pairwise_append.2 ⟨List.pairwise_map.2 (hi.1.imp fun hij => hdis _ _ hij), h.dis.sublist (List.drop_sublist _ _), fun c hc d hd k h1 h2 => ?_⟩⟩
  · rcases hmem c hc with hc | rfl
    · exact h.ok c hc
    · exact trivial
  · rcases hmem c hc with hc | rfl
    · exact h.rng c hc k hk
    · exact hk.elim
  · obtain ⟨i, hi1, rfl⟩ := List.mem_map.1 hc
    obtain ⟨j, hj, rfl⟩ := List.getElem_of_mem hd
    rw [List.getElem_drop] at h2
    have hjl : n + j < L.length := by simp at hj; omega
    refine hdis i (n + j) (by have := hi.2 i hi1; omega) k h1 ?_
    simp only [List.getD_eq_getElem?_getD, List.getElem?_eq_getElem hjl, Option.getD_some]
    exact h2
theorem Mem.mid {w0 w : World} {A B : List Chunk} {c : Chunk} (h : Mem w0 w (A ++ c :: B)) : Mem w0 w (c :: (A ++ B)) := h.perm List.perm_middle
theorem Mem.unmid {w0 w : World} {A B : List Chunk} {c : Chunk} (h : Mem w0 w (c :: (A ++ B))) : Mem w0 w (A ++ c :: B) := h.perm List.perm_middle.symm
theorem Mem.mid2 {w0 w : World} {A B : List Chunk} {c d : Chunk} (h : Mem w0 w (A ++ c :: d :: B)) : Mem w0 w (d :: (A ++ c :: B)) := h.perm (((List.Perm.swap d c B).append_left A).trans List.perm_middle)
theorem Mem.unmid2 {w0 w : World} {A B : List Chunk} {c d : Chunk} (h : Mem w0 w (d :: (A ++ c :: B))) : Mem w0 w (A ++ c :: d :: B) := h.perm (List.perm_middle.symm.trans ((List.Perm.swap c d B).append_left A))
theorem getD_map {α β : Type} (f : α → β) (l : List α) (k : Nat) (d : α) (d' : β) (h : k < l.length) : (l.map f).getD k d' = f (l.getD k d) := by simp [h]
theorem getD_set {α : Type} (l : List α) (k j : Nat) (x d : α) (h : k < l.length) : (l.set k x).getD j d = if j = k then x else l.getD j d := by
  simp only [List.getD_eq_getElem?_getD, List.getElem?_set]
  by_cases e : k = j
  · subst e; simp [h]
  · rw [if_neg e, if_neg (fun e' => e e'.symm)]
theorem rd_pre {α : Type} {f : α → List Value} {size : Nat} (hf : ∀ x, (f x).length = size) {w : World} {A : Option Addr} {n m c : Nat} {xs ys : List α} (h : RdC w size (.slice A (n + m) c) ((xs ++ ys).flatMap f)) (hl : xs.length = n) : RdC w size (.slice A n c) (xs.flatMap f) := by
  have h1 := h.pre n (by omega)
  have e : ((xs ++ ys).flatMap f).take (n * size) = xs.flatMap f := by
    rw [List.flatMap_append]
    exact List.take_left' (by rw [flatMap_length f size hf, hl])
  rwa [e] at h1
theorem blk_cell {w : World} {g : Nat} {cs : List Value} {t : TypeId} (h : w.heap[g]? = some (.cells cs.toArray t)) (i : Nat) {u : Value} (hu : cs[i]? = some u) : w.cell? ⟨g, i, none⟩ = some u ∧ w.frozen? ⟨g, i, none⟩ = false := by
  constructor
  · simp [World.cell?, h, hu]
  · simp [World.frozen?, h]
theorem getD_snoc_lt {α : Type} (xs : List α) (x d : α) (q : Nat) (h : q < xs.length) : (xs ++ [x]).getD q d = xs.getD q d := by
  simp only [List.getD_eq_getElem?_getD, List.getElem?_append_left h]
theorem getD_snoc_eq {α : Type} (xs : List α) (x d : α) (q : Nat) (h : q = xs.length) : (xs ++ [x]).getD q d = x := by
  subst h; simp
theorem flatMap_set {α : Type} (f : α → List Value) (size : Nat) (hf : ∀ x, (f x).length = size) (d : α) : ∀ (xs : List α) (i j : Nat) (y : α) (v : Value), i < xs.length → j < size → f y = (f (xs.getD i d)).set j v → (xs.flatMap f).set (i * size + j) v = (xs.set i y).flatMap f
  | [], i, j, y, v, hi, _, _ => by simp at hi
  | x :: xs, 0, j, y, v, _, hj, h => by
    rw [List.set_cons_zero, List.flatMap_cons, List.flatMap_cons, Nat.zero_mul, Nat.zero_add, List.set_append_left _ _ (by rw [hf]; exact hj), h]
    rfl
  | x :: xs, i + 1, j, y, v, hi, hj, h => by
    rw [List.set_cons_succ, List.flatMap_cons, List.flatMap_cons, List.set_append_right _ _ (by rw [hf, Nat.succ_mul]; omega), hf, show (i + 1) * size + j - size = i * size + j by rw [Nat.succ_mul]; omega, flatMap_set f size hf d xs i j y v (by simpa using hi) hj h]
theorem cur_step {α : Type} (d : α) (zs xs T : List α) (q : Nat) (hq : q < xs.length) (hz : zs.length = xs.length) : ((zs.take q ++ xs.drop q) ++ T).set q (zs.getD q d) = (zs.take (q + 1) ++ xs.drop (q + 1)) ++ T := by
  rw [List.set_append_left _ _ (by simp; omega), List.set_append_right _ _ (by simp; omega)]
  have e1 : q - (zs.take q).length = 0 := by simp; omega
  rw [e1, List.drop_eq_getElem_cons hq, List.set_cons_zero, take_snoc zs d q (by omega)]
  simp
theorem cur_at {α : Type} (d : α) (zs xs T : List α) (q : Nat) (hq : q < xs.length) (hz : zs.length = xs.length) : ((zs.take q ++ xs.drop q) ++ T).getD q d = xs.getD q d := by
  rw [List.getD_eq_getElem?_getD, List.getElem?_append_left (by simp; omega), List.getElem?_append_right (by simp; omega)]
  have e1 : q - (zs.take q).length = 0 := by simp; omega
  rw [e1, List.drop_eq_getElem_cons hq]
  simp [hq]
theorem cur_behind {α : Type} (d : α) (zs xs T : List α) (q i : Nat) (hz : zs.length = xs.length) (hq : q ≤ xs.length) : ((zs.take q ++ xs.drop q) ++ T).getD (xs.length + i) d = T.getD i d := by
  have e : (zs.take q ++ xs.drop q).length = xs.length := by simp; omega
  rw [List.getD_eq_getElem?_getD, List.getElem?_append_right (by omega), e, Nat.add_sub_cancel_left, ← List.getD_eq_getElem?_getD]
theorem flatMap_take {α : Type} (f : α → List Value) (size : Nat) (hf : ∀ x, (f x).length = size) : ∀ (xs : List α) (n : Nat), (xs.take n).flatMap f = (xs.flatMap f).take (n * size)
  | [], n => by simp
  | x :: xs, 0 => by simp
  | x :: xs, n + 1 => by
    rw [List.take_succ_cons, List.flatMap_cons, List.flatMap_cons, flatMap_take f size hf xs n, show (n + 1) * size = (f x).length + n * size by rw [hf, Nat.succ_mul]; omega, List.take_append, List.take_of_length_le (l := f x) (Nat.le_add_right _ _), Nat.add_sub_cancel_left]
theorem flatMap_drop {α : Type} (f : α → List Value) (size : Nat) (hf : ∀ x, (f x).length = size) : ∀ (xs : List α) (n : Nat), (xs.drop n).flatMap f = (xs.flatMap f).drop (n * size)
  | [], n => by simp
  | x :: xs, 0 => by simp
  | x :: xs, n + 1 => by
    rw [List.drop_succ_cons, List.flatMap_cons, flatMap_drop f size hf xs n, show (n + 1) * size = (f x).length + n * size by rw [hf, Nat.succ_mul]; omega, List.drop_append, @List.drop_eq_nil_of_le _ (f x) _ (Nat.le_add_right _ _), List.nil_append, Nat.add_sub_cancel_left]
end Go.Mm
namespace Go.Proofs.YtgflfpepfpekhaaGreat
open Go.RowKit Go.Mm
theorem fC_app (xs ys : List C3) : fC (xs ++ ys) = fC xs ++ fC ys := by simp [fC]
theorem fF_app (xs ys : List Fn) : fF (xs ++ ys) = fF xs ++ fF ys := by simp [fF]
theorem fF_one (xs : List Fn) : One (fF xs) := One.flatMap cF_one xs
theorem inf_C : (Tryz.prog.info? 110).map (fun i => (i.zero, i.size, i.bytes)) = some (some (.agg #[.int .i64 0, .int .i64 0, .string ⟨#[]⟩]), 3, 32) := by kernel_rfl
theorem inf_F : (Tryz.prog.info? 47).map (fun i => (i.zero, i.size, i.bytes)) = some (some (.agg #[.string ⟨#[]⟩, .int .i64 0, .int .i64 0, .slice none 0 0, .slice none 0 0]), 5, 80) := by kernel_rfl
theorem ty_Cs : Tryz.prog.underlying 23 = some (.slice 110) := by kernel_rfl
theorem ty_Fs : Tryz.prog.underlying 24 = some (.slice 47) := by kernel_rfl
theorem row_C : (Tryz.prog.underlying 110).map (·.isRow) = some true := by kernel_rfl
theorem szC : (Tryz.prog.info? 110).map (·.size) = some 3 := by kernel_rfl
theorem row_P : (Tryz.prog.underlying 26).map (·.isRow) = some true := by kernel_rfl
theorem szP : (Tryz.prog.info? 26).map (·.size) = some 2 := by kernel_rfl
def c0 : C3 := (0, 0, ⟨#[]⟩)
def markC (i : Nat) : C3 := (-7, (i : Int), ⟨#[]⟩)
def marksC (k : Nat) : List C3 := (List.range k).map markC
theorem marksC_succ (k : Nat) : marksC (k + 1) = marksC k ++ [markC k] := by simp [marksC, List.range_succ]
def markF (n i : Nat) : Fn := ⟨⟨#[]⟩, -7, (n : Int) + (i : Int), none, 0, 0, [], none, 0, 0, []⟩
def marksF (n k : Nat) : List Fn := (List.range k).map (markF n)
theorem marksF_succ (n k : Nat) : marksF n (k + 1) = marksF n k ++ [markF n k] := by simp [marksF, List.range_succ]
theorem marksF_len (n k : Nat) : (marksF n k).length = k := by simp [marksF]
def Fn.vc (f : Fn) : Value := .slice f.cA f.cn f.cc
def Fn.fc (f : Fn) : List Value := fV f.code
def Fn.vh (f : Fn) : Value := .slice f.hA f.hn f.hc
def Fn.fh (f : Fn) : List Value := fH f.hands
abbrev Codes (hs : List Fn) : Chunk := Many 2 Fn.vc Fn.fc hs
abbrev Hands (hs : List Fn) : Chunk := Many 4 Fn.vh Fn.fh hs
/-- What holds the full lists of function k. -/
def FullOf (f : Fn) (k : Nat) (h : Fn) : Prop := h.name = ⟨#[]⟩ ∧ h.params = -7 ∧ h.locals = k ∧ h.cn = f.cn + 64 ∧ h.code = f.code ++ marksI 64 ∧ h.hn = f.hn + 64 ∧ h.hands = f.hands ++ marksH 64
def lentF (f h : Fn) : Fn := ⟨f.name, f.params, f.locals, h.cA, f.cn, h.cc, f.code, h.hA, f.hn, h.hc, f.hands⟩
/-- A program that is lent: the lists' memory, marks behind them. -/
structure LentOk (w : World) (p : Pg) (KA : Option Addr) (kc : Nat) (FA : Option Addr) (fc : Nat) (hs : List Fn) : Prop where
  consts : RdC w 3 (.slice KA (p.kn + 64) kc) (fC (p.consts ++ marksC 64))
  fns : RdC w 5 (.slice FA (2 * p.fn + 64) fc) (fF (List.zipWith lentF p.fns hs ++ hs ++ marksF p.fn 64))
  len : hs.length = p.fn
  full : ∀ k, k < p.fn → FullOf (p.fns.getD k fn0) k (hs.getD k fn0)
  codes : ∀ h, h ∈ hs → RdC w 2 (.slice h.cA h.cn h.cc) (fV h.code)
  hands : ∀ h, h ∈ hs → RdC w 4 (.slice h.hA h.hn h.hc) (fH h.hands)
theorem LentOk.gr {w w' : World} {p : Pg} {KA : Option Addr} {kc : Nat} {FA : Option Addr} {fc : Nat} {hs : List Fn} (h : LentOk w p KA kc FA fc hs) (hg : Gr w w') : LentOk w' p KA kc FA fc hs :=
  ⟨h.consts.gr hg, h.fns.gr hg, h.len, h.full, fun x hx => (h.codes x hx).gr hg, fun x hx => (h.hands x hx).gr hg⟩
/-- The program that is handed in. -/
def lentP (p : Pg) (KA : Option Addr) (kc : Nat) (FA : Option Addr) (fc : Nat) (hs : List Fn) : Pg := ⟨KA, p.kn, kc, p.consts, FA, p.fn, fc, List.zipWith lentF p.fns hs⟩
end Go.Proofs.YtgflfpepfpekhaaGreat
namespace Go.Mm
open Go.RowKit
section
variable {P : Program} {ops : Array Oper} {Q : Exit → Act → World → Prop} {md : Region.Mode} {S : World → Prop}
/-- Whatever order is picked, and S holds behind each of the first n operations. -/
def wpAnyU (P : Program) (md : Region.Mode) (ops : Array Oper) (Q : Exit → Act → World → Prop) (S : World → Prop) (n : Nat) : Nat → Array Bool → Act → World → Prop
  | 0, listed, a, w => Region.ready md ops listed = [] ∧ Q .normal a w
  | fuel + 1, listed, a, w =>
    (Region.ready md ops listed = [] → Q .normal a w) ∧
    ∀ i ∈ Region.ready md ops listed, wpOp P ops Q i (fun a' w' => (i < n → S w') ∧ wpAnyU P md ops Q S n fuel (listed.setIfInBounds i true) a' w') a w
theorem wpAny_of_until {n : Nat} : ∀ (fuel : Nat) (listed : Array Bool) (a : Act) (w : World), wpAnyU P md ops Q S n fuel listed a w → wpAny P md ops Q fuel listed a w
  | 0, _, _, _, h => h
  | fuel + 1, _, _, _, h => ⟨h.1, fun i hi => wpOp_mono (fun a' w' h' => wpAny_of_until fuel _ a' w' h'.2) (h.2 i hi)⟩
theorem wpAnyU_first {n i : Nat} {oi : Oper} {v : Value} (hsi : Region.sinkB md ops n = true) (hci : Region.chainB md ops n = true) (hn : n < ops.size) (hin : i < n)
    (hi : ops[i]? = some oi) (hsel : ∀ (j : Nat) (o : Oper) cs b, ops[j]? = some o → o.op ≠ .select cs b)
    (hQ : ∀ c a w, Q (.panic c) (a.put oi.dst v) w → Q (.panic c) a w) :
    ∀ (fuel : Nat) (listed : Array Bool) (a : Act) (w : World), HeadInv md ops n listed →
      (∀ j oj, ops[j]? = some oj → j ≠ i → listed.getD j true = false → (∀ e ∈ oj.after, Region.binds md e = true → e.on ≠ i) → oi.apart ops oj = true) →
      i ∈ Region.ready md ops listed → YieldsIf P ops S oi v a → S w →
      wpAnyU P md ops Q S n fuel (listed.setIfInBounds i true) (a.put oi.dst v) w → wpAnyU P md ops Q S n (fuel + 1) listed a w := by
  intro fuel
  induction fuel with
  | zero =>
    intro listed a w _ _ hr hy hS H
    refine ⟨fun h => (by rw [h] at hr; cases hr), fun j hj => ?_⟩
    by_cases hji : j = i
    · subst hji; exact hy.wpOp hi hS ⟨fun _ => hS, H⟩
    · have := ready_mono hj hji
      rw [H.1] at this
      cases this
  | succ fuel ih =>
    intro listed a w inv hfree hr hy hS H
    refine ⟨fun h => (by rw [h] at hr; cases hr), fun j hj => ?_⟩
    by_cases hji : j = i
    · subst hji; exact hy.wpOp hi hS ⟨fun _ => hS, H⟩
    · have hun := (mem_ready.1 hr).1
      have hjn : j < n := by
        rcases Nat.lt_or_ge j n with h | h
        · exact h
        · exact absurd hj (tail_waits hsi hci hn inv _ i rfl hin hun j h)
      have h1 := H.2 j (ready_mono hj hji)
      obtain ⟨hjun, oj, hoj, hall⟩ := mem_ready.1 hj
      have hnot : ∀ e ∈ oj.after, Region.binds md e = true → e.on ≠ i := fun e he hb heq => by
        have h1 := hall e he hb
        rw [heq, getD_both hun] at h1
        cases h1
      have h2 := wpOp_putIf hoj (hfree j oj hoj hji hjun hnot) (fun cs b => hsel i oi cs b hi) (fun cs b => hsel j oj cs b hoj) hQ hy h1
      have hfree' : ∀ k ok, ops[k]? = some ok → k ≠ i → (listed.setIfInBounds j true).getD k true = false →
          (∀ e ∈ ok.after, Region.binds md e = true → e.on ≠ i) → oi.apart ops ok = true := fun k ok hk hki hun hno => by
        refine hfree k ok hk hki ?_ hno
        by_cases hjk : j = k
        · subst hjk; exact hjun
        · rw [getD_set_ne true hjk] at hun; exact hun
      refine wpOp_mono (fun a' w' h3 => ⟨fun _ => h3.2.1 hjn, ih (listed.setIfInBounds j true) a' w' (inv.set hj hjn) hfree' (ready_mono hr (Ne.symm hji)) h3.1 (h3.2.1 hjn) ?_⟩) h2
      rw [Array.setIfInBounds_comm _ _ hji]
      exact h3.2.2
/-- HeadInv, as a Bool. -/
def headB (md : Region.Mode) (ops : Array Oper) (n : Nat) (listed : Array Bool) : Bool :=
  decide (listed.size = ops.size) && ((List.range ops.size).all fun j => !listed.getD j false || ((ops[j]?).map fun o => o.after.all fun e => !Region.binds md e || listed.getD e.on false).getD true) &&
    ((List.range ops.size).all fun t => decide (t < n) || !listed.getD t true)
theorem headB_spec {n : Nat} {listed : Array Bool} (h : headB md ops n listed = true) : HeadInv md ops n listed := by
  simp only [headB, Bool.and_eq_true, decide_eq_true_eq] at h
  obtain ⟨⟨h1, h2⟩, h3⟩ := h
  refine ⟨h1, fun j oj hj hl e he hb => ?_, fun t ht ht' => ?_⟩
  · have hjs : j < ops.size := (Array.getElem?_eq_some_iff.1 hj).1
    have := List.all_eq_true.1 h2 j (List.mem_range.2 hjs)
    rw [hl, hj] at this
    simp only [Bool.not_true, Bool.false_or, Option.map_some, Option.getD_some] at this
    have := Array.all_eq_true_iff_forall_mem.1 this e he
    rw [hb] at this
    simpa using this
  · have := List.all_eq_true.1 h3 t (List.mem_range.2 ht')
    simp only [Bool.or_eq_true, decide_eq_true_eq, Bool.not_eq_true'] at this
    rcases this with h | h
    · omega
    · exact h
theorem wpAnyU_take {n : Nat} (i : Nat) {oi : Oper} {v : Value} {fuel : Nat} {listed : Array Bool} {a : Act} {w : World} (hi : ops[i]? = some oi) (hc : (Region.sinkB md ops n && Region.chainB md ops n && Region.noSelect ops && decide (n < ops.size) && decide (i < n)) = true)
    (hf : (Region.free md ops listed i && (Region.ready md ops listed).contains i && headB md ops n listed) = true)
    (hQ : ∀ c a w, Q (.panic c) (a.put oi.dst v) w → Q (.panic c) a w) (hS : S w) (hy : YieldsIf P ops S oi v a)
    (h : wpAnyU P md ops Q S n fuel (listed.setIfInBounds i true) (a.put oi.dst v) w) : wpAnyU P md ops Q S n (fuel + 1) listed a w := by
  simp only [Bool.and_eq_true, decide_eq_true_eq] at hc hf
  obtain ⟨⟨⟨⟨c1, c2⟩, c3⟩, c4⟩, c5⟩ := hc
  obtain ⟨⟨f1, f2⟩, f3⟩ := hf
  exact wpAnyU_first c1 c2 c4 c5 hi (Region.noSelect_spec c3) hQ fuel listed a w (headB_spec f3) (Region.free_spec hi f1) (by simpa using f2) hy hS h
/-- The one operation that may come up. -/
theorem wpAnyU_one {n : Nat} (i : Nat) {o : Oper} {fuel : Nat} {listed : Array Bool} {a : Act} {w : World} (hr : Region.ready md ops listed = [i]) (ho : ops[i]? = some o)
    (h : ∀ K : Act → World → Prop, (∀ a w, (i < n → S w) → wpAnyU P md ops Q S n fuel (listed.setIfInBounds i true) a w → K a w) → if Region.wanted o (yielded ops a.tmps) = true then o.wp P a w K Q else K (a.put o.dst undef) w) : wpAnyU P md ops Q S n (fuel + 1) listed a w := by
  refine ⟨fun h0 => (by rw [hr] at h0; cases h0), fun j hj => ?_⟩
  rw [hr] at hj
  obtain rfl : j = i := by simpa using hj
  exact wpOp_step ho (fun K' hK => h K' (fun a w hS hW => hK a w ⟨hS, hW⟩))
/-- Either of two may come up. -/
theorem wpAnyU_two {n : Nat} (i j : Nat) {o o' : Oper} {fuel : Nat} {listed : Array Bool} {a : Act} {w : World} (hr : Region.ready md ops listed = [i, j]) (ho : ops[i]? = some o) (ho' : ops[j]? = some o')
    (h : ∀ K : Act → World → Prop, (∀ a w, (i < n → S w) → wpAnyU P md ops Q S n fuel (listed.setIfInBounds i true) a w → K a w) → if Region.wanted o (yielded ops a.tmps) = true then o.wp P a w K Q else K (a.put o.dst undef) w)
    (h' : ∀ K : Act → World → Prop, (∀ a w, (j < n → S w) → wpAnyU P md ops Q S n fuel (listed.setIfInBounds j true) a w → K a w) → if Region.wanted o' (yielded ops a.tmps) = true then o'.wp P a w K Q else K (a.put o'.dst undef) w) : wpAnyU P md ops Q S n (fuel + 1) listed a w := by
  refine ⟨fun h0 => (by rw [hr] at h0; cases h0), fun k hk => ?_⟩
  rw [hr] at hk
  simp only [List.mem_cons, List.not_mem_nil, or_false] at hk
  rcases hk with rfl | rfl
  · exact wpOp_step ho (fun K' hK => h K' (fun a w hS hW => hK a w ⟨hS, hW⟩))
  · exact wpOp_step ho' (fun K' hK => h' K' (fun a w hS hW => hK a w ⟨hS, hW⟩))
theorem wpAnyU_done {n : Nat} {listed : Array Bool} {a : Act} {w : World} (hr : Region.ready md ops listed = []) (h : Q .normal a w) : ∀ fuel, wpAnyU P md ops Q S n fuel listed a w
  | 0 => ⟨hr, h⟩
  | _ + 1 => ⟨fun _ => h, by rw [hr]; simp⟩
theorem wp_region_until {id : Nat} {a : Act} {w : World} (n : Nat) (hm : P.follows .mixedOrders = true) (h : wpAnyU P .any ops Q S n ops.size (Array.replicate ops.size false) a w.drew) : (Code.region id ops true).wp P Q a w :=
  wp_region_any hm (wpAny_of_until _ _ _ _ h)
/-- A call of a function of Go, as one step. -/
theorem step_call {o : Oper} {a : Act} {w : World} {K : Act → World → Prop} {E : Prop} (hgd : o.guard = none) (f : FuncId) (fn : Func) (hf : P.funcs[f]? = some fn) (hn : (fn.name == "runtime.NumGoroutine") = false) (hb : fn.body.isNone = false) (xs : Array Operand) (ts : Array TypeId) (ho : o.op = .call { callee := .value (.func f), args := xs, argTypes := ts })
    (args : Array Value) (ha : xs.map a.eval = args) (h : Calls P f args w fun e w' => ∃ v, e = .returned v ∧ K (a.put o.dst v) w') :
    if Region.wanted o (yielded ops a.tmps) = true then o.wp P a w K Q else E := by
  have hw : Region.wanted o (yielded ops a.tmps) = true := by simp [Region.wanted, hgd]
  rw [if_pos hw]
  have hr : execOp a.eval o = callFunc f args := by
    unfold execOp
    simp only [ho]
    rw [← ha]
    show callFunc f (#[] ++ xs.map a.eval ++ #[]) = _
    simp
  unfold Oper.wp
  rw [hr, run_call f fn hf hn hb]
  exact h.mono fun e w' he => by obtain ⟨v, rfl, hK⟩ := he; exact hK
end
end Go.Mm
namespace Go.Proofs.YtgflfpepfpekhaaGreat
open Go.RowKit Go.Mm
set_option maxHeartbeats 2000000
set_option maxRecDepth 100000
theorem svone (A B : Option Addr) {n c m d : Nat} : One [.slice A n c, .slice B m d] := fun u hu => by simp at hu; rcases hu with rfl | rfl <;> rfl
theorem lentProgram_ok (w : World) (p : Pg) (hp : Fact (PgOk w p)) (hk : p.kn ≤ 1048576) :
    Calls Tryz.prog 28 #[vP p] w fun e w' => ∃ KA kc FA fc hs, e = .returned (vP (lentP p KA kc FA fc hs)) ∧ Gr w w' ∧ LentOk w' p KA kc FA fc hs := by
  obtain ⟨iC, ci, cz0, cz1, cz2⟩ := info_parts inf_C
  obtain ⟨iF, fi, fz0, fz1, fz2⟩ := info_parts inf_F
  have hfn := hp.out.small.1
  have hfl : Fact (p.fns.length = p.fn) := ⟨rd_len cF_len (by omega) hp.out.fns⟩
  have hcl : Fact (p.consts.length = p.kn) := ⟨rd_len cC_len (by omega) hp.out.consts⟩
  obtain ⟨kA, kn, kc, consts, fA, n, fc, fns⟩ := p
  simp only [vP] at *
  try dsimp only at hk hfn hfl hcl
  go_enter Tryz.func28, Tryz.ntmps28
  go_upto_region 1 with (fail)
  have hmb := (((Mem.start w).alloc (.cells [.slice kA kn kc, .slice fA n fc].toArray 26)).alloc (.cells [.slice none 0 0, .slice none 0 0].toArray 26))
  have hgb : ((w.alloc (.cells [.slice kA kn kc, .slice fA n fc].toArray 26)).alloc (.cells [.slice none 0 0, .slice none 0 0].toArray 26)).heap.size = w.heap.size + 2 := by simp
  simp only [World.size_alloc] at hmb
  generalize hgX : w.heap.size = g at hmb hgb ⊢
  generalize hwX : ((w.alloc (.cells [.slice kA kn kc, .slice fA n fc].toArray 26)).alloc (.cells [.slice none 0 0, .slice none 0 0].toArray 26)) = wb at hmb hgb
  try refine wp_world hwX ?_
  clear hwX hgX
  have p1 := hmb.cell m1 0 rfl
  have p2 := hmb.cell m1 1 rfl
  have hp := Fact.mk (hp.out.gr hmb.below)
  go_upto_region 2 with (fail)
  have hm := (Mem.start wb).alloc (.cells [.slice none 0 0, .slice none 0 0].toArray 26)
  generalize hw1 : wb.alloc (.cells [.slice none 0 0, .slice none 0 0].toArray 26) = w1 at hm
  try refine wp_world hw1 ?_
  clear hw1
  rw [hgb] at hm
  have hgb := Fact.mk hgb
  have q1 := hm.below.cell (World.block_lt_of_cell? wb _ p2) |>.trans p2
  go_wp2
  go_loopw [5] (fun v w' => ∃ (k : Nat) (A' : Option Addr) (c' : Nat), v = .int .i64 k ∧ k ≤ kn ∧ Mem wb w' [Blk (g + 2) (.cells [.slice A' k c', .slice none 0 0].toArray 26), Own 3 (.slice A' k c') (fC (consts.take k))]) (fun v _ => kn - (intOf v).toNat)
  case atStart => exact ⟨0, none, 0, rfl, by omega, (hm.nil 3 none).swap⟩
  case round =>
    clear hm q1
    obtain ⟨k, A', c', rfl, hkk, hm⟩ := hrel
    have q1 := hm.below.cell (World.block_lt_of_cell? wb _ p1) |>.trans p1
    by_cases hlt : k < kn
    · obtain ⟨b, o, e, r1, _, _⟩ := rd_at cC_len (by omega) c0 hp.out.consts k hlt
      dsimp only at e
      cases e
      have hxe : ∃ x, Fact (consts.getD k c0 = x) := ⟨_, ⟨rfl⟩⟩
      obtain ⟨x, hxe⟩ := hxe
      rw [hxe.out] at r1
      have r1 := rng_gr r1 hm.below
      have htk : Fact (consts.take (k + 1) = consts.take k ++ [x]) := ⟨by rw [← hxe.out]; exact take_snoc _ _ _ (by have := hcl.out; omega)⟩
      obtain ⟨x1, x2, x3⟩ := x
      have a1 : wr.cell? ⟨b, o + k * 3, none⟩ = some (.int .i64 x1) := r1 0 _ rfl
      have a2 : wr.cell? ⟨b, o + k * 3 + 1, none⟩ = some (.int .i64 x2) := r1 1 _ rfl
      have a3 : wr.cell? ⟨b, o + k * 3 + 2, none⟩ = some (.string x3) := r1 2 _ rfl
      have d1 := hm.cell m0 0 rfl
      have f1 := hm.free m0 0
      have l1 : g + 2 < wr.heap.size := (hm.rng _ m0 (g + 2) rfl).2
      have l2 : g < wr.heap.size := World.block_lt_of_cell? wr _ q1
      have l3 : b < wr.heap.size := World.block_lt_of_cell? wr _ a1
      go_upto_region 6 with (fail)
      go_region_law (refine step_app rfl _ _ _ rfl 110 iC _ 3 32 ty_Cs ci cz0 cz1 cz2 rfl A' k c' _ rfl ((hm.alloc _).pull2.drew) _ 1 1 (cC (x1, x2, x3)) rfl ((RdC.lit _ _ _ _ _ rfl (by simp [maxLen]) (cC_one (x1, x2, x3))).gr (Gr.refl _).drew) (by unfold maxLen; omega) (by omega) ?_; intro A1 e1 w2 HM1; have d1 := HM1.cell m2 0 rfl; have f1 := HM1.free m2 0)
      all_goals
        go_wp2
        go_roundw
        case rel =>
          have hm2 := (HM1.pull2.set 0 (.slice A1 (k + 1) e1)).sub (.cons_cons _ (.cons_cons _ (.cons _ (List.Sublist.refl _))))
          refine ⟨k + 1, A1, e1, by go_num, by omega, ?_⟩
          rw [htk.out, fC_app]
          simpa [fC] using hm2
        case measure => simp [intOf]; omega
    · obtain rfl : k = kn := by omega
      rw [List.take_of_length_le (Nat.le_of_eq hcl.out)] at hm
      go_wp2
      obtain ⟨wo, hwo⟩ : ∃ wo : World, wo = wr := ⟨_, rfl⟩
      rw [← hwo] at hm ⊢
      clear hwo q1
      go_loopw [6] (fun v w' => ∃ (i : Nat) (A' : Option Addr) (c' : Nat), v = .int .i64 i ∧ i ≤ 64 ∧ Mem wb w' [Blk (g + 2) (.cells [.slice A' (k + i) c', .slice none 0 0].toArray 26), Own 3 (.slice A' (k + i) c') (fC (consts ++ marksC i))]) (fun v _ => 64 - (intOf v).toNat)
      case atStart => exact ⟨0, A', c', rfl, by omega, by simpa [marksC] using hm⟩
      case round =>
        clear hm A' c'
        obtain ⟨i, A', c', rfl, hi1, hm⟩ := hrel
        have d1 := hm.cell m0 0 rfl
        have f1 := hm.free m0 0
        by_cases hlt2 : i < 64
        · go_wp2_with (at_builtin; refine wp_app rfl _ _ _ rfl 110 iC _ 3 32 ty_Cs ci cz0 cz1 cz2 rfl A' (k + i) c' _ rfl (L := [Blk _ _, Blk _ _]) ((hm.alloc _).pull2) _ 1 1 [.int .i64 (-7), .int .i64 (i : Int), .string ⟨#[]⟩] rfl (RdC.lit _ _ _ _ _ rfl (by simp [maxLen]) (cC_one (-7, (i : Int), ⟨#[]⟩))) (by unfold maxLen; omega) (by omega) ?_; intro A1 e1 w2 HM1; have d1 := HM1.cell m2 0 rfl; have f1 := HM1.free m2 0)
          go_roundw
          case rel =>
            have hm2 := (HM1.pull2.set 0 (.slice A1 (k + i + 1) e1)).sub (.cons_cons _ (.cons_cons _ (.cons _ (List.Sublist.refl _))))
            refine ⟨i + 1, A1, e1, by go_num, by omega, ?_⟩
            rw [show k + (i + 1) = k + i + 1 by omega, marksC_succ, ← List.append_assoc, fC_app]
            simpa [fC, cC, markC] using hm2
          case measure => simp [intOf]; omega
        · have e64 : i = 64 := by omega
          rw [e64] at hm
          go_wp2
          clear e64
          obtain ⟨wo, hwo⟩ : ∃ wo : World, wo = wr := ⟨_, rfl⟩
          rw [← hwo] at hm ⊢
          clear hwo d1 f1
          go_loopw [7] (fun v w' => ∃ (j : Nat) (F' : Option Addr) (d' : Nat), v = .int .i64 j ∧ j ≤ n ∧ Mem wb w' [Blk (g + 2) (.cells [.slice A' (k + 64) c', .slice F' j d'].toArray 26), Own 5 (.slice F' j d') (fF (fns.take j)), Own 3 (.slice A' (k + 64) c') (fC (consts ++ marksC 64))]) (fun v _ => n - (intOf v).toNat)
          case atStart => exact ⟨0, none, 0, rfl, by omega, (hm.nil 5 none).swap⟩
          case round =>
            clear hm
            obtain ⟨j, F', d', rfl, hj, hm⟩ := hrel
            have q1 := hm.below.cell (World.block_lt_of_cell? wb _ p2) |>.trans p2
            by_cases hlt3 : j < n
            · obtain ⟨b, o, e, r1, _, _⟩ := rd_at cF_len (by omega) fn0 hp.out.fns j hlt3
              dsimp only at e
              cases e
              have hxe : ∃ x, Fact (fns.getD j fn0 = x) := ⟨_, ⟨rfl⟩⟩
              obtain ⟨x, hxe⟩ := hxe
              rw [hxe.out] at r1
              have r1 := rng_gr r1 hm.below
              have htk : Fact (fns.take (j + 1) = fns.take j ++ [x]) := ⟨by rw [← hxe.out]; exact take_snoc _ _ _ (by have := hfl.out; omega)⟩
              obtain ⟨x1, x2, x3, x4, x5, x6, x7, x8, x9, x10, x11⟩ := x
              have a1 : wr.cell? ⟨b, o + j * 5, none⟩ = some (.string x1) := r1 0 _ rfl
              have a2 : wr.cell? ⟨b, o + j * 5 + 1, none⟩ = some (.int .i64 x2) := r1 1 _ rfl
              have a3 : wr.cell? ⟨b, o + j * 5 + 2, none⟩ = some (.int .i64 x3) := r1 2 _ rfl
              have a4 : wr.cell? ⟨b, o + j * 5 + 3, none⟩ = some (.slice x4 x5 x6) := r1 3 _ rfl
              have a5 : wr.cell? ⟨b, o + j * 5 + 4, none⟩ = some (.slice x8 x9 x10) := r1 4 _ rfl
              have d1 := hm.cell m0 1 rfl
              have f1 := hm.free m0 1
              have l1 : g + 2 < wr.heap.size := (hm.rng _ m0 (g + 2) rfl).2
              have l2 : g < wr.heap.size := World.block_lt_of_cell? wr _ q1
              have l3 : b < wr.heap.size := World.block_lt_of_cell? wr _ a1
              go_upto_region 14 with (fail)
              go_region_law (refine step_app rfl _ _ _ rfl 47 iF _ 5 80 ty_Fs fi fz0 fz1 fz2 rfl F' j d' _ rfl ((hm.alloc _).pull2.drew) _ 1 1 [.string x1, .int .i64 x2, .int .i64 x3, .slice x4 x5 x6, .slice x8 x9 x10] rfl ((RdC.lit _ _ _ _ _ rfl (by simp [maxLen]) (cF_one ⟨x1, x2, x3, x4, x5, x6, x7, x8, x9, x10, x11⟩)).gr (Gr.refl _).drew) (by unfold maxLen; omega) (by omega) ?_; intro A1 e1 w2 HM1; have d1 := HM1.cell m2 1 rfl; have f1 := HM1.free m2 1)
              all_goals
                go_wp2
                go_roundw
                case rel =>
                  have hm2 := (HM1.pull2.set 1 (.slice A1 (j + 1) e1)).sub (.cons_cons _ (.cons_cons _ (.cons _ (List.Sublist.refl _))))
                  have hm3 : Mem wb (w2.setCell ⟨g + 2, 1, none⟩ (.slice A1 (j + 1) e1)) [Blk (g + 2) (.cells [.slice A' (k + 64) c', .slice A1 (j + 1) e1].toArray 26), Own 5 (.slice A1 (j + 1) e1) (fF (fns.take (j + 1))), Own 3 (.slice A' (k + 64) c') (fC (consts ++ marksC 64))] := by
                    rw [htk.out, fF_app]
                    simpa [fF, cF] using hm2
                  first
                    | exact ⟨j + 1, A1, e1, by go_num, by omega, hm3⟩
                    | exact ⟨j + 1, by omega, by omega, A1, e1, hm3⟩
                case measure => simp [intOf]; omega
            · obtain rfl : j = n := by omega
              rw [List.take_of_length_le (Nat.le_of_eq hfl.out)] at hm
              go_wp2
              obtain ⟨wo, hwo⟩ : ∃ wo : World, wo = wr := ⟨_, rfl⟩
              rw [← hwo] at hm ⊢
              clear hwo q1
              go_loopw [8] (fun v w' => ∃ (i : Nat) (F' : Option Addr) (d' : Nat) (hs : List Fn), v = .int .i64 i ∧ i ≤ j ∧ Mem wb w' [Blk (g + 2) (.cells [.slice A' (k + 64) c', .slice F' (j + i) d'].toArray 26), Own 5 (.slice F' (j + i) d') (fF (fns ++ hs)), Codes hs, Hands hs, Own 3 (.slice A' (k + 64) c') (fC (consts ++ marksC 64))] ∧ Fact (hs.length = i ∧ ∀ q, q < i → FullOf (fns.getD q fn0) q (hs.getD q fn0))) (fun v _ => j - (intOf v).toNat)
              case atStart => exact ⟨0, F', d', [], rfl, by omega, by simpa using ((hm.many0 4 Fn.vh Fn.fh).many0 2 Fn.vc Fn.fc).sel 5 [2, 3, 0, 1, 4] (by decide), ⟨rfl, fun q hq => by omega⟩⟩
              case round =>
                clear hm F' d'
                obtain ⟨i, F', d', hs, rfl, hi2, hm, hh⟩ := hrel
                have q1 := hm.below.cell (World.block_lt_of_cell? wb _ p2) |>.trans p2
                by_cases hlt4 : i < j
                · obtain ⟨b, o, e, r1, _, _⟩ := rd_at cF_len (by omega) fn0 hp.out.fns i hlt4
                  dsimp only at e
                  cases e
                  have hxm : fns.getD i fn0 ∈ fns := List.mem_of_getElem? (getD_some fns fn0 i (by have := hfl.out; omega))
                  have hx1 := hp.out.each _ hxm
                  have hx2 := hp.out.small.2 _ hxm
                  have hxe : ∃ x, Fact (fns.getD i fn0 = x) := ⟨_, ⟨rfl⟩⟩
                  obtain ⟨x, hxe⟩ := hxe
                  rw [hxe.out] at r1 hx1 hx2
                  clear hxm
                  obtain ⟨x1, x2, x3, x4, x5, x6, x7, x8, x9, x10, x11⟩ := x
                  have a4 : wb.cell? ⟨b, o + i * 5 + 3, none⟩ = some (.slice x4 x5 x6) := r1 3 _ rfl
                  have a5 : wb.cell? ⟨b, o + i * 5 + 4, none⟩ = some (.slice x8 x9 x10) := r1 4 _ rfl
                  have rc := Fact.mk hx1.1
                  have rh := Fact.mk hx1.2
                  dsimp only at rc rh hx2
                  have d1 := hm.cell m0 1 rfl
                  have f1 := hm.free m0 1
                  have l1 : g + 2 < wr.heap.size := (hm.rng _ m0 (g + 2) rfl).2
                  have hgr := hm.below
                  clear r1 hx1
                  go_upto_region 18 with (fail)
                  have hgl : wb.heap.size ≤ g + 2 := Nat.le_of_eq hgb.out
                  have hmd := hm.drew
                  refine wp_region_until (S := fun W => Gr wb W ∧ W.cell? ⟨g + 2, 1, none⟩ = some (.slice F' (j + i) d') ∧ W.cell? ⟨g, 1, none⟩ = some (.slice (some ⟨b, o, none⟩) j fc) ∧ W.cell? ⟨b, o + i * 5 + 3, none⟩ = some (.slice x4 x5 x6) ∧ W.cell? ⟨b, o + i * 5 + 4, none⟩ = some (.slice x8 x9 x10)) 19 (by kernel_rfl) ?_
                  have hS : Gr wb wr.drew ∧ wr.drew.cell? ⟨g + 2, 1, none⟩ = some (.slice F' (j + i) d') ∧ wr.drew.cell? ⟨g, 1, none⟩ = some (.slice (some ⟨b, o, none⟩) j fc) ∧ wr.drew.cell? ⟨b, o + i * 5 + 3, none⟩ = some (.slice x4 x5 x6) ∧ wr.drew.cell? ⟨b, o + i * 5 + 4, none⟩ = some (.slice x8 x9 x10) := ⟨hgr.drew, d1, Gr.cell hgr p2, Gr.cell hgr a4, Gr.cell hgr a5⟩
                  refine wpAnyU_take 0 (v := ?vk0_0) rfl (by kernel_rfl) (by kernel_rfl) (fun _ _ _ h => h) hS (Or.inl ⟨rfl, ?yk0_0⟩) ?rk0_0
                  case yk0_0 =>
                    intro W hW
                    obtain ⟨hW0, hW1, hW2, hW3, hW4⟩ := hW
                    go_simp
                    try with_reducible rfl
                  try simp only [Act.put, List.setIfInBounds_toArray, List.set_cons_zero, List.set_cons_succ]
                  refine wpAnyU_take 1 (v := ?vk0_1) rfl (by kernel_rfl) (by kernel_rfl) (fun _ _ _ h => h) hS (Or.inl ⟨rfl, ?yk0_1⟩) ?rk0_1
                  case yk0_1 =>
                    intro W hW
                    obtain ⟨hW0, hW1, hW2, hW3, hW4⟩ := hW
                    go_simp
                    try with_reducible rfl
                  try simp only [Act.put, List.setIfInBounds_toArray, List.set_cons_zero, List.set_cons_succ]
                  refine wpAnyU_take 2 (v := ?vk0_2) rfl (by kernel_rfl) (by kernel_rfl) (fun _ _ _ h => h) hS (Or.inl ⟨rfl, ?yk0_2⟩) ?rk0_2
                  case yk0_2 =>
                    intro W hW
                    obtain ⟨hW0, hW1, hW2, hW3, hW4⟩ := hW
                    go_simp
                    try with_reducible rfl
                  try simp only [Act.put, List.setIfInBounds_toArray, List.set_cons_zero, List.set_cons_succ]
                  refine wpAnyU_take 3 (v := ?vk0_3) rfl (by kernel_rfl) (by kernel_rfl) (fun _ _ _ h => h) hS (Or.inl ⟨rfl, ?yk0_3⟩) ?rk0_3
                  case yk0_3 =>
                    intro W hW
                    obtain ⟨hW0, hW1, hW2, hW3, hW4⟩ := hW
                    go_simp
                    try with_reducible rfl
                  try simp only [Act.put, List.setIfInBounds_toArray, List.set_cons_zero, List.set_cons_succ]
                  refine wpAnyU_take 4 (v := ?vk0_4) rfl (by kernel_rfl) (by kernel_rfl) (fun _ _ _ h => h) hS (Or.inl ⟨rfl, ?yk0_4⟩) ?rk0_4
                  case yk0_4 =>
                    intro W hW
                    obtain ⟨hW0, hW1, hW2, hW3, hW4⟩ := hW
                    go_simp
                    try with_reducible rfl
                  try simp only [Act.put, List.setIfInBounds_toArray, List.set_cons_zero, List.set_cons_succ]
                  refine wpAnyU_take 5 (v := ?vk0_5) rfl (by kernel_rfl) (by kernel_rfl) (fun _ _ _ h => h) hS (Or.inl ⟨rfl, ?yk0_5⟩) ?rk0_5
                  case yk0_5 =>
                    intro W hW
                    obtain ⟨hW0, hW1, hW2, hW3, hW4⟩ := hW
                    go_simp
                    try with_reducible rfl
                  try simp only [Act.put, List.setIfInBounds_toArray, List.set_cons_zero, List.set_cons_succ]
                  refine wpAnyU_take 6 (v := ?vk0_6) rfl (by kernel_rfl) (by kernel_rfl) (fun _ _ _ h => h) hS (Or.inl ⟨rfl, ?yk0_6⟩) ?rk0_6
                  case yk0_6 =>
                    intro W hW
                    obtain ⟨hW0, hW1, hW2, hW3, hW4⟩ := hW
                    go_simp
                    try with_reducible rfl
                  try simp only [Act.put, List.setIfInBounds_toArray, List.set_cons_zero, List.set_cons_succ]
                  refine wpAnyU_take 7 (v := ?vk0_7) rfl (by kernel_rfl) (by kernel_rfl) (fun _ _ _ h => h) hS (Or.inl ⟨rfl, ?yk0_7⟩) ?rk0_7
                  case yk0_7 =>
                    intro W hW
                    obtain ⟨hW0, hW1, hW2, hW3, hW4⟩ := hW
                    go_simp
                    try with_reducible rfl
                  try simp only [Act.put, List.setIfInBounds_toArray, List.set_cons_zero, List.set_cons_succ]
                  refine wpAnyU_take 8 (v := ?vk0_8) rfl (by kernel_rfl) (by kernel_rfl) (fun _ _ _ h => h) hS (Or.inl ⟨rfl, ?yk0_8⟩) ?rk0_8
                  case yk0_8 =>
                    intro W hW
                    obtain ⟨hW0, hW1, hW2, hW3, hW4⟩ := hW
                    go_simp
                    try with_reducible rfl
                  try simp only [Act.put, List.setIfInBounds_toArray, List.set_cons_zero, List.set_cons_succ]
                  refine wpAnyU_take 10 (v := ?vk0_10) rfl (by kernel_rfl) (by kernel_rfl) (fun _ _ _ h => h) hS (Or.inl ⟨rfl, ?yk0_10⟩) ?rk0_10
                  case yk0_10 =>
                    intro W hW
                    obtain ⟨hW0, hW1, hW2, hW3, hW4⟩ := hW
                    go_simp
                    try with_reducible rfl
                  try simp only [Act.put, List.setIfInBounds_toArray, List.set_cons_zero, List.set_cons_succ]
                  refine wpAnyU_take 11 (v := ?vk0_11) rfl (by kernel_rfl) (by kernel_rfl) (fun _ _ _ h => h) hS (Or.inl ⟨rfl, ?yk0_11⟩) ?rk0_11
                  case yk0_11 =>
                    intro W hW
                    obtain ⟨hW0, hW1, hW2, hW3, hW4⟩ := hW
                    go_simp
                    try with_reducible rfl
                  try simp only [Act.put, List.setIfInBounds_toArray, List.set_cons_zero, List.set_cons_succ]
                  refine wpAnyU_take 12 (v := ?vk0_12) rfl (by kernel_rfl) (by kernel_rfl) (fun _ _ _ h => h) hS (Or.inl ⟨rfl, ?yk0_12⟩) ?rk0_12
                  case yk0_12 =>
                    intro W hW
                    obtain ⟨hW0, hW1, hW2, hW3, hW4⟩ := hW
                    go_simp
                    try with_reducible rfl
                  try simp only [Act.put, List.setIfInBounds_toArray, List.set_cons_zero, List.set_cons_succ]
                  refine wpAnyU_take 13 (v := ?vk0_13) rfl (by kernel_rfl) (by kernel_rfl) (fun _ _ _ h => h) hS (Or.inl ⟨rfl, ?yk0_13⟩) ?rk0_13
                  case yk0_13 =>
                    intro W hW
                    obtain ⟨hW0, hW1, hW2, hW3, hW4⟩ := hW
                    go_simp
                    try with_reducible rfl
                  try simp only [Act.put, List.setIfInBounds_toArray, List.set_cons_zero, List.set_cons_succ]
                  refine wpAnyU_take 14 (v := ?vk0_14) rfl (by kernel_rfl) (by kernel_rfl) (fun _ _ _ h => h) hS (Or.inl ⟨rfl, ?yk0_14⟩) ?rk0_14
                  case yk0_14 =>
                    intro W hW
                    obtain ⟨hW0, hW1, hW2, hW3, hW4⟩ := hW
                    go_simp
                    try with_reducible rfl
                  try simp only [Act.put, List.setIfInBounds_toArray, List.set_cons_zero, List.set_cons_succ]
                  refine wpAnyU_take 15 (v := ?vk0_15) rfl (by kernel_rfl) (by kernel_rfl) (fun _ _ _ h => h) hS (Or.inl ⟨rfl, ?yk0_15⟩) ?rk0_15
                  case yk0_15 =>
                    intro W hW
                    obtain ⟨hW0, hW1, hW2, hW3, hW4⟩ := hW
                    go_simp
                    try with_reducible rfl
                  try simp only [Act.put, List.setIfInBounds_toArray, List.set_cons_zero, List.set_cons_succ]
                  refine wpAnyU_one 9 (by kernel_rfl) rfl (fun K hK => ?_)
                  refine step_call rfl 62 Tryz.f62 Tryz.func62 (by kernel_rfl) (by kernel_rfl) _ _ rfl #[.slice x4 x5 x6] (by simp [Act.eval]) ?_
                  refine (fullInstrs_ok _ x4 x5 x6 x7 ⟨rc.out.gr hgr.drew⟩ (by omega)).mono ?_
                  rintro e w3 ⟨C, cd, rfl, hn1⟩
                  have hg1 : Gr wb w3 := Gr.trans hgr.drew hn1.gr
                  have hm3 := hmd.new hn1
                  have hS3 : Gr wb w3 ∧ w3.cell? ⟨g + 2, 1, none⟩ = some (.slice F' (j + i) d') ∧ w3.cell? ⟨g, 1, none⟩ = some (.slice (some ⟨b, o, none⟩) j fc) ∧ w3.cell? ⟨b, o + i * 5 + 3, none⟩ = some (.slice x4 x5 x6) ∧ w3.cell? ⟨b, o + i * 5 + 4, none⟩ = some (.slice x8 x9 x10) := ⟨hg1, hm3.cell m1 1 rfl, Gr.cell hg1 p2, Gr.cell hg1 a4, Gr.cell hg1 a5⟩
                  refine ⟨_, rfl, hK _ _ (fun _ => hS3) ?_⟩
                  clear hK K
                  try simp only [Act.put, List.setIfInBounds_toArray, List.set_cons_zero, List.set_cons_succ]
                  refine wpAnyU_one 16 (by kernel_rfl) rfl (fun K hK => ?_)
                  refine step_call rfl 63 Tryz.f63 Tryz.func63 (by kernel_rfl) (by kernel_rfl) _ _ rfl #[.slice x8 x9 x10] (by simp [Act.eval]) ?_
                  refine (fullHandlers_ok _ x8 x9 x10 x11 ⟨rh.out.gr hg1⟩ (by omega)).mono ?_
                  rintro e w4 ⟨D, dd, rfl, hn2⟩
                  have hg2 : Gr wb w4 := Gr.trans hg1 hn2.gr
                  have hm4 := hm3.new hn2
                  have hS4 : Gr wb w4 ∧ w4.cell? ⟨g + 2, 1, none⟩ = some (.slice F' (j + i) d') ∧ w4.cell? ⟨g, 1, none⟩ = some (.slice (some ⟨b, o, none⟩) j fc) ∧ w4.cell? ⟨b, o + i * 5 + 3, none⟩ = some (.slice x4 x5 x6) ∧ w4.cell? ⟨b, o + i * 5 + 4, none⟩ = some (.slice x8 x9 x10) := ⟨hg2, hm4.cell m2 1 rfl, Gr.cell hg2 p2, Gr.cell hg2 a4, Gr.cell hg2 a5⟩
                  refine ⟨_, rfl, hK _ _ (fun _ => hS4) ?_⟩
                  clear hK K
                  try simp only [Act.put, List.setIfInBounds_toArray, List.set_cons_zero, List.set_cons_succ]
                  refine wpAnyU_take 17 (v := ?vk1_17) rfl (by kernel_rfl) (by kernel_rfl) (fun _ _ _ h => h) hS4 (Or.inl ⟨rfl, ?yk1_17⟩) ?rk1_17
                  case yk1_17 =>
                    intro W hW
                    obtain ⟨hW0, hW1, hW2, hW3, hW4⟩ := hW
                    go_simp
                    try with_reducible rfl
                  try simp only [Act.put, List.setIfInBounds_toArray, List.set_cons_zero, List.set_cons_succ]
                  refine wpAnyU_one 18 (by kernel_rfl) rfl (fun K hK => ?_)
                  go_simp
                  have hm5 := hm4.alloc (.cells [.string ⟨#[]⟩, .int .i64 (-7), .int .i64 (i : Int), .slice C (x5 + 64) cd, .slice D (x9 + 64) dd].toArray 47)
                  have hg3 := hm5.below
                  refine hK _ _ (fun _ => ⟨hg3, hm5.cell m3 1 rfl, Gr.cell hg3 p2, Gr.cell hg3 a4, Gr.cell hg3 a5⟩) ?_
                  clear hK K
                  refine wpAnyU_one 19 (by kernel_rfl) rfl (fun K hK => ?_)
                  refine step_app rfl _ _ _ rfl 47 iF _ 5 80 ty_Fs fi fz0 fz1 fz2 rfl F' (j + i) d' _ rfl hm5.pull4 _ 1 1 [.string ⟨#[]⟩, .int .i64 (-7), .int .i64 (i : Int), .slice C (x5 + 64) cd, .slice D (x9 + 64) dd] rfl (RdC.lit _ _ _ _ _ rfl (by simp [maxLen]) (cF_one ⟨⟨#[]⟩, -7, (i : Int), C, x5 + 64, cd, [], D, x9 + 64, dd, []⟩)) (by unfold maxLen; omega) (by omega) ?_
                  intro A1 e1 w5 HM1
                  refine hK _ _ (fun h => absurd h (by decide)) ?_
                  clear hK K
                  try simp only [Act.put, List.setIfInBounds_toArray, List.set_cons_zero, List.set_cons_succ]
                  refine wpAnyU_one 20 (by kernel_rfl) rfl (fun K hK => ?_)
                  go_simp
                  refine hK _ _ (fun h => absurd h (by decide)) ?_
                  clear hK K
                  have d5 := HM1.cell m4 1 rfl
                  have f5 := HM1.free m4 1
                  refine wpAnyU_one 21 (by kernel_rfl) rfl (fun K hK => ?_)
                  go_simp
                  refine hK _ _ (fun h => absurd h (by decide)) ?_
                  clear hK K
                  refine wpAnyU_done (by kernel_rfl) ?_ _
                  go_wp2
                  go_roundw
                  case rel =>
                    have hm6 := (HM1.sel 5 [4, 0, 2, 3] (by decide) : Mem wb w5 (Blk _ (.cells [_, _].toArray _) :: _)).set 1 (.slice A1 (j + i + 1) e1)
                    have hm7 := Mem.many1 (v := Fn.vc) (f := Fn.fc) ⟨⟨#[]⟩, -7, (i : Int), C, x5 + 64, cd, x7 ++ marksI 64, D, x9 + 64, dd, x11 ++ marksH 64⟩ (hm6.sel 7 [3, 4, 2, 5, 0, 1, 6] (by decide))
                    have hm8 := Mem.many1 (v := Fn.vh) (f := Fn.fh) ⟨⟨#[]⟩, -7, (i : Int), C, x5 + 64, cd, x7 ++ marksI 64, D, x9 + 64, dd, x11 ++ marksH 64⟩ (hm7.sel 3 [1, 2, 0] (by decide))
                    have hm9 := hm8.sel 4 [2, 3, 1, 0] (by decide)
                    have hh1 := hh.out
                    refine ⟨i + 1, A1, e1, hs ++ [⟨⟨#[]⟩, -7, (i : Int), C, x5 + 64, cd, x7 ++ marksI 64, D, x9 + 64, dd, x11 ++ marksH 64⟩], by go_num, by omega, ?_, ⟨by simp [hh1.1], fun q hq => ?_⟩⟩
                    · rw [← List.append_assoc, fF_app]
                      exact hm9
                    · by_cases e : q = i
                      · subst e
                        rw [hxe.out, getD_snoc_eq _ _ _ _ hh1.1.symm]
                        exact ⟨rfl, rfl, rfl, rfl, rfl, rfl, rfl⟩
                      · rw [getD_snoc_lt _ _ _ _ (by omega)]
                        exact hh1.2 q (by omega)
                  case measure => simp [intOf]; omega
                · have e4 : i = j := by omega
                  rw [e4] at hm hh
                  go_wp2
                  clear e4
                  obtain ⟨wo, hwo⟩ : ∃ wo : World, wo = wr := ⟨_, rfl⟩
                  rw [← hwo] at hm ⊢
                  clear hwo q1
                  go_loopw [9] (fun v w' => ∃ (q : Nat) (F' : Option Addr) (d' : Nat), v = .int .i64 q ∧ q ≤ 64 ∧ Mem wb w' [Blk (g + 2) (.cells [.slice A' (k + 64) c', .slice F' (j + j + q) d'].toArray 26), Own 5 (.slice F' (j + j + q) d') (fF (fns ++ hs ++ marksF j q)), Codes hs, Hands hs, Own 3 (.slice A' (k + 64) c') (fC (consts ++ marksC 64))]) (fun v _ => 64 - (intOf v).toNat)
                  case atStart => exact ⟨0, F', d', rfl, by omega, by simpa [marksF] using hm⟩
                  case round =>
                    clear hm F' d'
                    obtain ⟨q, F', d', rfl, hq1, hm⟩ := hrel
                    have d1 := hm.cell m0 1 rfl
                    have f1 := hm.free m0 1
                    by_cases hlt5 : q < 64
                    · go_wp2_with (at_builtin; refine wp_app rfl _ _ _ rfl 47 iF _ 5 80 ty_Fs fi fz0 fz1 fz2 rfl F' (j + j + q) d' _ rfl (L := [Blk _ _, Blk _ _, Codes hs, Hands hs, _]) ((hm.alloc _).pull2) _ 1 1 [.string ⟨#[]⟩, .int .i64 (-7), .int .i64 ((j : Int) + (q : Int)), .slice none 0 0, .slice none 0 0] rfl (RdC.lit _ _ _ _ _ rfl (by simp [maxLen]) (cF_one (markF j q))) (by unfold maxLen; omega) (by omega) ?_; intro A1 e1 w2 HM1; have d1 := HM1.cell m2 1 rfl; have f1 := HM1.free m2 1)
                      go_roundw
                      case rel =>
                        have hm2 := (HM1.pull2.set 1 (.slice A1 (j + j + q + 1) e1)).sub (.cons_cons _ (.cons_cons _ (.cons _ (List.Sublist.refl _))))
                        refine ⟨q + 1, A1, e1, by go_num, by omega, ?_⟩
                        rw [show j + j + (q + 1) = j + j + q + 1 by omega, marksF_succ, ← List.append_assoc, fF_app]
                        exact hm2
                      case measure => simp [intOf]; omega
                    · have e5 : q = 64 := by omega
                      rw [e5] at hm
                      go_wp2
                      clear e5 d1 f1
                      obtain ⟨wo, hwo⟩ : ∃ wo : World, wo = wr := ⟨_, rfl⟩
                      rw [← hwo] at hm ⊢
                      clear hwo
                      have hcap := OwnAt.cap (hm.ok _ m1)
                      obtain ⟨gf, off, rfl⟩ := OwnAt.addr (hm.ok _ m1) (by omega)
                      have hze : ∃ zs, Fact (List.zipWith lentF fns hs = zs ∧ zs.length = fns.length) := ⟨_, ⟨rfl, by have := hh.out.1; have := hfl.out; simp; omega⟩⟩
                      obtain ⟨zs, hze⟩ := hze
                      go_loopw [10] (fun v w' => ∃ (r : Nat), v = .int .i64 r ∧ r ≤ j ∧ Mem wb w' [Blk (g + 2) (.cells [.slice A' (k + 64) c', .slice (some ⟨gf, off, none⟩) (j + j + 64) d'].toArray 26), Own 5 (.slice (some ⟨gf, off, none⟩) (j + j + 64) d') (fF ((zs.take r ++ fns.drop r) ++ (hs ++ marksF j 64))), Codes hs, Hands hs, Own 3 (.slice A' (k + 64) c') (fC (consts ++ marksC 64))]) (fun v _ => j - (intOf v).toNat)
                      case atStart => exact ⟨0, rfl, by omega, by simpa using hm⟩
                      case round =>
                        clear hm
                        obtain ⟨r, rfl, hr1, hm⟩ := hrel
                        have q1 := hm.below.cell (World.block_lt_of_cell? wb _ p2) |>.trans p2
                        have d1 := hm.cell m0 1 rfl
                        have f1 := hm.free m0 1
                        by_cases hlt6 : r < j
                        · obtain ⟨b, o, e, r1, _, _⟩ := rd_at cF_len (by omega) fn0 hp.out.fns r hlt6
                          dsimp only at e
                          cases e
                          have r0 := Fact.mk r1
                          have r1 := rng_gr r1 hm.below
                          obtain ⟨_, _, e, r2, _, _⟩ := rd_at cF_len (by omega) fn0 (hm.ok _ m1).rd (j + r) (by omega)
                          cases e
                          obtain ⟨_, _, e, r3, _, _⟩ := rd_at cF_len (by omega) fn0 (hm.ok _ m1).rd r (by omega)
                          cases e
                          have hce : (zs.take r ++ fns.drop r ++ (hs ++ marksF j 64)).getD r fn0 = fns.getD r fn0 := cur_at fn0 zs fns _ r (by have := hfl.out; omega) hze.out.2
                          have hcb : (zs.take r ++ fns.drop r ++ (hs ++ marksF j 64)).getD (j + r) fn0 = hs.getD r fn0 := by
                            have e1 := cur_behind fn0 zs fns (hs ++ marksF j 64) r r hze.out.2 (by have := hfl.out; omega)
                            rw [hfl.out] at e1
                            rw [e1, List.getD_eq_getElem?_getD, List.getElem?_append_left (by have := hh.out.1; omega), ← List.getD_eq_getElem?_getD]
                          have hcs := Fact.mk (cur_step fn0 zs fns (hs ++ marksF j 64) r (by have := hfl.out; omega) hze.out.2)
                          have hcl2 : Fact ((zs.take r ++ fns.drop r ++ (hs ++ marksF j 64)).length = j + j + 64) := ⟨by have := hfl.out; have := hh.out.1; have := hze.out.2; simp [marksF_len]; omega⟩
                          have hfo := hh.out.2 r hlt6
                          have hzr : zs.getD r fn0 = lentF (fns.getD r fn0) (hs.getD r fn0) := by
                            rw [← hze.out.1]
                            have h1 := getD_some fns fn0 r (by have := hfl.out; omega)
                            have h2 := getD_some hs fn0 r (by have := hh.out.1; omega)
                            simp only [List.getD_eq_getElem?_getD] at h1 h2 ⊢
                            rw [List.getElem?_zipWith, h1, h2]
                            rfl
                          have hhm : hs.getD r fn0 ∈ hs := List.mem_of_getElem? (getD_some hs fn0 r (by have := hh.out.1; omega))
                          have hc1 : (hs.getD r fn0).cn ≤ (hs.getD r fn0).cc ∧ (hs.getD r fn0).cc ≤ maxLen := OwnAt.cap (hm.ok _ m2 _ hhm)
                          have hc2 : (hs.getD r fn0).hn ≤ (hs.getD r fn0).hc ∧ (hs.getD r fn0).hc ≤ maxLen := OwnAt.cap (hm.ok _ m3 _ hhm)
                          rw [hzr] at hcs
                          rw [hce] at r3
                          rw [hcb] at r2
                          have hcb := hcb
                          have hxe : ∃ x, Fact (fns.getD r fn0 = x) := ⟨_, ⟨rfl⟩⟩
                          obtain ⟨x, hxe⟩ := hxe
                          have hye : ∃ y, Fact (hs.getD r fn0 = y) := ⟨_, ⟨rfl⟩⟩
                          obtain ⟨y, hye⟩ := hye
                          rw [hxe.out] at r0 r1 r3 hfo hcs hce
                          rw [hye.out] at r2 hfo hcs hc1 hc2 hcb
                          have hce := Fact.mk hce
                          have hcb := Fact.mk hcb
                          generalize zs.take r ++ fns.drop r ++ (hs ++ marksF j 64) = cur at *
                          obtain ⟨x1, x2, x3, x4, x5, x6, x7, x8, x9, x10, x11⟩ := x
                          obtain ⟨y1, y2, y3, y4, y5, y6, y7, y8, y9, y10, y11⟩ := y
                          obtain ⟨rfl, rfl, rfl, rfl, rfl, rfl, rfl⟩ := hfo
                          dsimp only at hc1 hc2
                          have a4 : wr.cell? ⟨b, o + r * 5 + 3, none⟩ = some (.slice x4 x5 x6) := r1 3 _ rfl
                          have a5 : wr.cell? ⟨b, o + r * 5 + 4, none⟩ = some (.slice x8 x9 x10) := r1 4 _ rfl
                          have b4 : wr.cell? ⟨gf, off + (j + r) * 5 + 3, none⟩ = some (.slice y4 (x5 + 64) y6) := r2 3 _ rfl
                          have b5 : wr.cell? ⟨gf, off + (j + r) * 5 + 4, none⟩ = some (.slice y8 (x9 + 64) y10) := r2 4 _ rfl
                          have c4 := r3 3 _ rfl
                          have c5 := r3 4 _ rfl
                          clear r1 r2 r3 hhm hzr
                          have e1 : IntKind.i64.wrap ((j : Int) + (r : Int)) = (j : Int) + (r : Int) := IntWalk.i64_in _ (by omega)
                          have e2 : (0 : Int) ≤ (j : Int) + (r : Int) := by omega
                          have e2b : (j : Int) + (r : Int) < (j : Int) + (j : Int) + 64 := by omega
                          have e2c : ((j : Int) + (r : Int)).toNat = j + r := by omega
                          have e3 : r < j + j + 64 := by omega
                          have e4 : x5 ≤ y6 := by omega
                          have e5 : x9 ≤ y10 := by omega
                          go_upto_region 26 with (fail)
                          go_still_tail 19, (by kernel_rfl)
                          change wpList _ _ _ _ _ wr.drew
                          have hmd := hm.drew
                          have hj3 : (fF cur)[r * 5 + 3]? = some (.slice x4 x5 x6) := by rw [fF, flatMap_at cF 5 cF_len _ r 3 (by omega), getD_some _ fn0 r (by rw [hcl2.out]; omega), hce.out]; rfl
                          obtain ⟨g1, g2⟩ := hmd.own_cell m1 (r * 5 + 3) hj3
                          rw [← Nat.add_assoc] at g1 g2
                          have hm2 := hmd.swap.own_set (r * 5 + 3) (by rw [fF, flatMap_length cF 5 cF_len, hcl2.out]; omega) (.slice y4 x5 y6) rfl
                          rw [fF, flatMap_set cF 5 cF_len fn0 cur r 3 ⟨x1, x2, x3, y4, x5, y6, x7, x8, x9, x10, x11⟩ _ (by rw [hcl2.out]; omega) (by omega) (by rw [hce.out]; rfl), ← Nat.add_assoc] at hm2
                          clear a4 b4 c4 b5 c5 d1 hm hmd hj3
                          generalize wr.drew = w2 at g1 g2 hm2 ⊢
                          go_upto_region 27 with (fail)
                          generalize w2.setCell _ _ = w3 at hm2 ⊢
                          have hcur' : ∃ cur', Fact (cur.set r ⟨x1, x2, x3, y4, x5, y6, x7, x8, x9, x10, x11⟩ = cur') := ⟨_, ⟨rfl⟩⟩
                          obtain ⟨cur', hcur'⟩ := hcur'
                          have l1 : cur'.length = j + j + 64 := by rw [← hcur'.out]; simpa using hcl2.out
                          have l2 : cur'.getD r fn0 = ⟨x1, x2, x3, y4, x5, y6, x7, x8, x9, x10, x11⟩ := by rw [← hcur'.out, getD_set _ _ _ _ _ (by rw [hcl2.out]; omega), if_pos rfl]
                          have l3 : cur'.getD (j + r) fn0 = ⟨⟨#[]⟩, -7, (r : Int), y4, x5 + 64, y6, x7 ++ marksI 64, y8, x9 + 64, y10, x11 ++ marksH 64⟩ := by rw [← hcur'.out, getD_set _ _ _ _ _ (by rw [hcl2.out]; omega), if_neg (by omega), hcb.out]
                          have l4 : Fact (cur'.set r (lentF ⟨x1, x2, x3, x4, x5, x6, x7, x8, x9, x10, x11⟩ ⟨⟨#[]⟩, -7, (r : Int), y4, x5 + 64, y6, x7 ++ marksI 64, y8, x9 + 64, y10, x11 ++ marksH 64⟩) = zs.take (r + 1) ++ fns.drop (r + 1) ++ (hs ++ marksF j 64)) := ⟨by rw [← hcs.out, ← hcur'.out, List.set_set]⟩
                          rw [hcur'.out] at hm2
                          have hj5 : (cur'.flatMap cF)[(j + r) * 5 + 4]? = some (.slice y8 (x9 + 64) y10) := by rw [flatMap_at cF 5 cF_len _ (j + r) 4 (by omega), getD_some _ fn0 (j + r) (by omega), l3]; rfl
                          have hj6 : (cur'.flatMap cF)[r * 5 + 4]? = some (.slice x8 x9 x10) := by rw [flatMap_at cF 5 cF_len _ r 4 (by omega), getD_some _ fn0 r (by omega), l2]; rfl
                          obtain ⟨b5, _⟩ := hm2.own_cell m0 ((j + r) * 5 + 4) hj5
                          rw [← Nat.add_assoc] at b5
                          have a5 := hm2.below.cell (World.block_lt_of_cell? wb _ (r0.out 4 _ rfl)) |>.trans (r0.out 4 _ rfl)
                          have d1 := hm2.cell m1 1 rfl
                          have q1 := hm2.below.cell (World.block_lt_of_cell? wb _ p2) |>.trans p2
                          have hm3 := hm2.drew
                          obtain ⟨g1, g2⟩ := hm3.own_cell m0 (r * 5 + 4) hj6
                          rw [← Nat.add_assoc] at g1 g2
                          have hm4 := hm3.own_set (r * 5 + 4) (by rw [flatMap_length cF 5 cF_len, l1]; omega) (.slice y8 x9 y10) rfl
                          rw [flatMap_set cF 5 cF_len fn0 cur' r 4 (lentF ⟨x1, x2, x3, x4, x5, x6, x7, x8, x9, x10, x11⟩ ⟨⟨#[]⟩, -7, (r : Int), y4, x5 + 64, y6, x7 ++ marksI 64, y8, x9 + 64, y10, x11 ++ marksH 64⟩) _ (by omega) (by omega) (by rw [l2]; rfl), l4.out, ← Nat.add_assoc] at hm4
                          clear l1 l2 l3 hj5 hj6 hm2 hm3
                          go_still_tail 19, (by kernel_rfl)
                          change wpList _ _ _ _ _ w3.drew
                          clear a5 b5 d1
                          generalize w3.drew = w4 at g1 g2 hm4 ⊢
                          go_wp2
                          go_roundw
                          case rel => exact ⟨r + 1, by go_num, by omega, hm4.swap⟩
                          case measure => simp [intOf]; omega
                        · have e6 : r = j := by omega
                          rw [e6, List.take_of_length_le (by have := hze.out.2; have := hfl.out; omega), List.drop_eq_nil_of_le (by have := hfl.out; omega), List.append_nil, ← hze.out.1] at hm
                          clear e6
                          have d0 := hm.cell m0 0 rfl
                          have f0 := hm.free m0 0
                          have p1' := hm.below.cell (World.block_lt_of_cell? wb _ p1) |>.trans p1
                          have k1 := OwnAt.cap (hm.ok _ m4)
                          have k2 := OwnAt.cap (hm.ok _ m1)
                          have k3 : k ≤ c' := by omega
                          have k4 : j ≤ d' := by omega
                          have hm2 := (hm.set 0 (.slice A' k c')).set 1 (.slice (some ⟨gf, off, none⟩) j d')
                          simp only [List.set_cons_zero, List.set_cons_succ] at hm2
                          go_upto_region 30 with (fail)
                          generalize (wr.setCell _ _).setCell _ _ = w5 at hm2 ⊢
                          have hmj := hmb.join hm2
                          go_wp2_with (first | (refine wp_rng rfl 26 _ rfl (g + 2) 0 rfl [.slice A' k c', .slice (some ⟨gf, off, none⟩) j d'] (rng_blk hmj m0) row_P szP ?_) | (refine wp_setrow rfl 26 _ _ rfl (g + 1) rfl 26 _ [.slice A' k c', .slice (some ⟨gf, off, none⟩) j d'] rfl (hmj.sel 7 [5, 0, 1, 2, 3, 4, 6] (by decide)) szP rfl (svone _ _) ?_; intro w6 hm6))
                          refine bodyPost_ret (Mm.res_cell rfl _ (g + 1) 26 [.slice A' k c', .slice (some ⟨gf, off, none⟩) j d'] (0, 0) rfl hm6 m0 row_P szP) rfl ⟨A', c', some ⟨gf, off, none⟩, d', hs, rfl, hm6.below, ?_⟩
                          exact ⟨hm6.rd m5, by rw [show 2 * j + 64 = j + j + 64 by omega, List.append_assoc]; exact hm6.rd m2, hh.out.1, hh.out.2, fun h hx => (hm6.ok _ m3 h hx).rd, fun h hx => (hm6.ok _ m4 h hx).rd⟩
end Go.Proofs.YtgflfpepfpekhaaGreat
namespace Go.Proofs.YtgflfpepfpekhaaGreat
open Go.RowKit Go.Mm
set_option maxHeartbeats 2000000
set_option maxRecDepth 100000
theorem marksC_at (xs : List C3) (n j : Nat) (hn : xs.length = n) (hj : j < 64) : (xs ++ marksC 64).getD (n + j) c0 = (-7, (j : Int), ⟨#[]⟩) := by
  rw [List.getD_eq_getElem?_getD, List.getElem?_append_right (by omega), hn, Nat.add_sub_cancel_left]
  simp [marksC, hj, markC]
theorem keptProgram_ok (w : World) (p : Pg) (hp : Fact (PgOk w p)) (hk : p.kn ≤ 1048576) (KA : Option Addr) (kc' : Nat) (FA : Option Addr) (fc' : Nat) (hs : List Fn) (hl : Fact (LentOk w p KA kc' FA fc' hs)) :
    Calls Tryz.prog 31 #[vP (lentP p KA kc' FA fc' hs), vP p] w fun e w' => e = .returned (.bool true) ∧ Gr w w' := by
  have hfn := hp.out.small.1
  have hfl : Fact (p.fns.length = p.fn) := ⟨rd_len cF_len (by omega) hp.out.fns⟩
  have hcl : Fact (p.consts.length = p.kn) := ⟨rd_len cC_len (by omega) hp.out.consts⟩
  obtain ⟨kA, kn, kc, consts, fA, n, fc, fns⟩ := p
  have hkc : kn + 64 ≤ kc' ∧ kc' ≤ maxLen := by obtain ⟨_, _, _, e, _, h1, h2, _⟩ := hl.out.consts; cases e; exact ⟨h1, h2⟩
  have hfc : 2 * n + 64 ≤ fc' ∧ fc' ≤ maxLen := by obtain ⟨_, _, _, e, _, h1, h2, _⟩ := hl.out.fns; cases e; exact ⟨h1, h2⟩
  simp only [vP, lentP] at *
  try dsimp only at hk hfn hfl hcl
  have e1 : kn + 64 ≤ kc' := hkc.1
  have e2 : 2 * n + 64 ≤ fc' := hfc.1
  go_enter Tryz.func31, Tryz.ntmps31
  go_upto_region 1 with (fail)
  have hm := (((Mem.start w).alloc (.cells [.slice KA kn kc', .slice FA n fc'].toArray 26)).alloc (.cells [.slice kA kn kc, .slice fA n fc].toArray 26))
  simp only [World.size_alloc] at hm
  generalize hgX : w.heap.size = g at hm ⊢
  generalize hwX : ((w.alloc (.cells [.slice KA kn kc', .slice FA n fc'].toArray 26)).alloc (.cells [.slice kA kn kc, .slice fA n fc].toArray 26)) = w1 at hm
  try refine wp_world hwX ?_
  clear hwX hgX
  have p1 := hm.cell m1 0 rfl
  have p2 := hm.cell m1 1 rfl
  have p3 := hm.cell m0 0 rfl
  have p4 := hm.cell m0 1 rfl
  have hp := Fact.mk (hp.out.gr hm.below)
  have hl := Fact.mk (hl.out.gr hm.below)
  have hgr := Fact.mk hm.below
  have hlf : Fact (RdC w1 5 (.slice FA (2 * n + 64) fc') (fF (List.zipWith lentF fns hs ++ hs ++ marksF n 64))) := ⟨hl.out.fns⟩
  have hlc : Fact (RdC w1 3 (.slice KA (kn + 64) kc') (fC (consts ++ marksC 64))) := ⟨hl.out.consts⟩
  have hll : Fact (∀ k, k < n → FullOf (fns.getD k fn0) k (hs.getD k fn0)) := ⟨hl.out.full⟩
  have hlh : Fact (hs.length = n) := ⟨hl.out.len⟩
  have hpf : Fact (RdC w1 5 (.slice fA n fc) (fF fns)) := ⟨hp.out.fns⟩
  have hpc : Fact (RdC w1 3 (.slice kA kn kc) (fC consts)) := ⟨hp.out.consts⟩
  clear hm hkc hfc
  go_upto_region 6 with (fail)
  go_wp2
  go_loopw [8] (fun v w' => ∃ (k : Nat), v = .int .i64 k ∧ k ≤ kn + 64 ∧ Gr w1 w') (fun v _ => kn + 64 - (intOf v).toNat)
  case atStart => exact ⟨0, rfl, by omega, Gr.refl _⟩
  case round =>
    obtain ⟨k, rfl, hk1, hg⟩ := hrel
    have p3' := hg.cell p3
    by_cases hlt : k < kn + 64
    · obtain ⟨b, o, e, r1, _, _⟩ := rd_at cC_len (by omega) c0 hlc.out k hlt
      try dsimp only at e
      subst e
      have r1 := rng_gr r1 hg
      by_cases hin : k < kn
      · obtain ⟨bb, ob, e, r2, _, _⟩ := rd_at cC_len (by omega) c0 hpc.out k hin
        try dsimp only at e
        cases e
        have r2 := rng_gr r2 hg
        have e3 : (consts ++ marksC 64).getD k c0 = consts.getD k c0 := by rw [List.getD_eq_getElem?_getD, List.getElem?_append_left (by have := hcl.out; omega), ← List.getD_eq_getElem?_getD]
        rw [e3] at r1
        clear e3
        generalize consts.getD k c0 = x at r1 r2
        go_upto_region 10 with (fail)
        have hm := (Mem.start wr).alloc (.cells [.int .i64 (-7), .int .i64 ((k : Int) - (kn : Int)), .string ⟨#[]⟩].toArray 110)
        generalize hg1 : wr.heap.size = g0 at hm ⊢
        generalize hw1 : wr.alloc (.cells [.int .i64 (-7), .int .i64 ((k : Int) - (kn : Int)), .string ⟨#[]⟩].toArray 110) = w2 at hm
        try refine wp_world hw1 ?_
        clear hw1 hg1
        have r1 := Fact.mk r1
        have r2 := Fact.mk (rng_gr r2 hm.below)
        have p3' := Gr.cell hm.below p3'
        go_upto_region 12 with (first | (refine wp_rng rfl 110 _ rfl bb _ rfl (cC x) r2.out row_C szC ?_) | (refine wp_setrow rfl 110 _ _ rfl g0 rfl 110 _ (cC x) rfl hm szC rfl (cC_one x) ?_; intro w3 hm3))
        obtain ⟨x1, x2, x3⟩ := x
        have a1 := Gr.cell hm3.below (r1.out 0 _ rfl)
        have b1 := hm3.cell m0 0 rfl
        have a2 := Gr.cell hm3.below (r1.out 1 _ rfl)
        have b2 := hm3.cell m0 1 rfl
        have a3 := Gr.cell hm3.below (r1.out 2 _ rfl)
        have b3 := hm3.cell m0 2 rfl
        simp only [Nat.add_zero] at a1
        have hgr := hg.trans hm3.below
        clear r1 r2 hm hm3 p3'
        go_quiet (fail)
        go_wp2
        go_roundw
        case rel => exact ⟨k + 1, by go_num, by omega, Gr.drewN hgr _⟩
        case measure => simp [intOf]; omega
      · obtain ⟨i, rfl⟩ : ∃ i, k = kn + i := ⟨k - kn, by omega⟩
        rw [marksC_at consts kn i hcl.out (by omega)] at r1
        have e4 : ((kn + i : Nat) : Int) - (kn : Int) = (i : Int) := by omega
        have e5 : (kn : Int) + (i : Int) - (kn : Int) = (i : Int) := by omega
        go_upto_region 10 with (fail)
        have hm := (Mem.start wr).alloc (.cells [.int .i64 (-7), .int .i64 (i : Int), .string ⟨#[]⟩].toArray 110)
        generalize hg1 : wr.heap.size = g0 at hm ⊢
        generalize hw1 : wr.alloc (.cells [.int .i64 (-7), .int .i64 (i : Int), .string ⟨#[]⟩].toArray 110) = w2 at hm
        try refine wp_world hw1 ?_
        clear hw1 hg1
        have a1 := Gr.cell hm.below (r1 0 _ rfl)
        have b1 := hm.cell m0 0 rfl
        have a2 := Gr.cell hm.below (r1 1 _ rfl)
        have b2 := hm.cell m0 1 rfl
        have a3 := Gr.cell hm.below (r1 2 _ rfl)
        have b3 := hm.cell m0 2 rfl
        simp only [Nat.add_zero] at a1
        have hgr := hg.trans hm.below
        have p3' := Gr.cell hm.below p3'
        go_upto_region 12 with (fail)
        clear r1 hm p3'
        go_quiet (fail)
        go_wp2
        go_roundw
        case rel => exact ⟨kn + i + 1, by go_num, by omega, Gr.drewN hgr _⟩
        case measure => simp [intOf]; omega
    · go_wp2
      obtain ⟨wo, hwo⟩ : ∃ wo : World, wo = wr := ⟨_, rfl⟩
      rw [← hwo] at hg ⊢
      clear hwo p3'
      go_loopw [10] (fun v w' => ∃ (j : Nat), v = .int .i64 j ∧ j ≤ n ∧ Gr w1 w') (fun v _ => n - (intOf v).toNat)
      case atStart => exact ⟨0, rfl, by omega, hg⟩
      case round =>
        clear hg
        obtain ⟨j, rfl, hj, hg⟩ := hrel
        have p4' := hg.cell p4
        by_cases hlt2 : j < n
        · obtain ⟨b, o, e, r1, _, _⟩ := rd_at cF_len (by omega) fn0 hpf.out j hlt2
          try dsimp only at e
          cases e
          obtain ⟨ba, oa, e, r2, _, _⟩ := rd_at cF_len (by omega) fn0 hlf.out j (by omega)
          try dsimp only at e
          subst e
          obtain ⟨_, _, e, r3, _, _⟩ := rd_at cF_len (by omega) fn0 hlf.out (n + j) (by omega)
          cases e
          have hfo := hll.out j hlt2
          have hhl := hlh.out
          try dsimp only at hfo hhl
          have hxm : fns.getD j fn0 ∈ fns := List.mem_of_getElem? (getD_some fns fn0 j (by have := hfl.out; omega))
          have hym : hs.getD j fn0 ∈ hs := List.mem_of_getElem? (getD_some hs fn0 j (by omega))
          have hx1 := hp.out.each _ hxm
          have hx2 := hp.out.small.2 _ hxm
          have hy1 := hl.out.codes _ hym
          have hy2 := hl.out.hands _ hym
          have q1 : (List.zipWith lentF fns hs ++ hs ++ marksF n 64).getD j fn0 = lentF (fns.getD j fn0) (hs.getD j fn0) := by
            have h1 := getD_some fns fn0 j (by have := hfl.out; omega)
            have h2 := getD_some hs fn0 j (by omega)
            rw [List.append_assoc, List.getD_eq_getElem?_getD, List.getElem?_append_left (by have := hfl.out; simp; omega), List.getElem?_zipWith, h1, h2]
            rfl
          have q2 : (List.zipWith lentF fns hs ++ hs ++ marksF n 64).getD (n + j) fn0 = hs.getD j fn0 := by
            have e1 : (List.zipWith lentF fns hs).length = n := by have := hfl.out; simp; omega
            rw [List.append_assoc, List.getD_eq_getElem?_getD, List.getElem?_append_right (by omega), e1, Nat.add_sub_cancel_left, List.getElem?_append_left (by omega), ← List.getD_eq_getElem?_getD]
          rw [q1] at r2
          rw [q2] at r3
          clear q1 q2 hxm hym hhl
          generalize fns.getD j fn0 = x at *
          generalize hs.getD j fn0 = y at *
          obtain ⟨x1, x2, x3, x4, x5, x6, x7, x8, x9, x10, x11⟩ := x
          obtain ⟨y1, y2, y3, y4, y5, y6, y7, y8, y9, y10, y11⟩ := y
          obtain ⟨rfl, rfl, rfl, rfl, rfl, rfl, rfl⟩ := hfo
          try dsimp only at hx2
          have rc := Fact.mk (hx1.1.gr hg)
          have rh := Fact.mk (hx1.2.gr hg)
          have sc := Fact.mk (hy1.gr hg)
          have sh := Fact.mk (hy2.gr hg)
          have r1 := rng_gr r1 hg
          have r2 := rng_gr r2 hg
          have r3 := Fact.mk (rng_gr r3 hg)
          clear hx1 hy1 hy2
          go_upto_region 18 with (first | (refine wp_rng rfl 47 _ rfl b _ rfl [.string x1, .int .i64 x2, .int .i64 x3, .slice x4 x5 x6, .slice x8 x9 x10] r1 row_F szF ?_) | (refine wp_setrow rfl 47 _ _ rfl _ rfl 47 _ [.string x1, .int .i64 x2, .int .i64 x3, .slice x4 x5 x6, .slice x8 x9 x10] rfl ((Mem.start wr).alloc _) szF rfl (cF_one ⟨x1, x2, x3, x4, x5, x6, x7, x8, x9, x10, x11⟩) ?_; intro w3 hm3))
          generalize wr.heap.size = g3 at hm3 ⊢
          have r2 := rng_gr r2 hm3.below
          go_upto_region 19 with (first | (refine wp_rng rfl 47 _ rfl ba _ rfl [.string x1, .int .i64 x2, .int .i64 x3, .slice y4 x5 y6, .slice y8 x9 y10] r2 row_F szF ?_) | (refine wp_setrow rfl 47 _ _ rfl _ rfl 47 _ [.string x1, .int .i64 x2, .int .i64 x3, .slice y4 x5 y6, .slice y8 x9 y10] rfl (hm3.alloc _) szF rfl (cF_one ⟨x1, x2, x3, y4, x5, y6, x7, y8, x9, y10, x11⟩) ?_; intro w4 hm4))
          generalize w3.heap.size = g4 at hm4 ⊢
          have hxl : x7.length = x5 := rdV_len rc.out
          have hxl2 : x11.length = x9 := rdH_len rh.out
          have c1 := hm4.cell m1 0 rfl
          have c2 := hm4.cell m1 1 rfl
          have c3 := hm4.cell m1 2 rfl
          have c4 := hm4.cell m1 3 rfl
          have c5 := hm4.cell m1 4 rfl
          have d1 := hm4.cell m0 0 rfl
          have d2 := hm4.cell m0 1 rfl
          have d3 := hm4.cell m0 2 rfl
          have d4 := hm4.cell m0 3 rfl
          have d5 := hm4.cell m0 4 rfl
          have sc' := Fact.mk (rd_pre cV_len sc.out hxl)
          have sh' := Fact.mk (rd_pre cH_len sh.out hxl2)
          have hm4' := Fact.mk hm4
          clear r1 r2 hm3 hm4 hxl hxl2
          go_wp2_with fail
          refine (sameInstrs_ok w4 y4 x4 x5 y6 x6 x7 ⟨sc'.out.gr hm4'.out.below⟩ ⟨rc.out.gr hm4'.out.below⟩ (by omega)).mono ?_
          rintro e w5 ⟨rfl, hg5⟩
          have c5 := Gr.cell hg5 c5
          have d5 := Gr.cell hg5 d5
          go_wp2_with fail
          refine (sameHandlers_ok w5 y8 x8 x9 y10 x10 x11 ⟨sh'.out.gr (Gr.trans hm4'.out.below hg5)⟩ ⟨rh.out.gr (Gr.trans hm4'.out.below hg5)⟩ (by omega)).mono ?_
          rintro e w6 ⟨rfl, hg6⟩
          have hm6 := (hm4'.out.gr hg5).gr hg6
          have c4 := hm6.cell m1 3 rfl
          have c5 := hm6.cell m1 4 rfl
          have b4 := Gr.cell hm6.below (r3.out 3 _ rfl)
          have b5 := Gr.cell hm6.below (r3.out 4 _ rfl)
          have hg7 := hg.trans hm6.below
          have hgw := Fact.mk hm6.below
          clear hm6 c1 c2 c3 d1 d2 d3 d4 d5
          go_upto_region 21 with (fail)
          have e3 : IntKind.i64.wrap ((n : Int) + (j : Int)) = (n : Int) + (j : Int) := IntWalk.i64_in _ (by omega)
          have e4 : (0 : Int) ≤ (n : Int) + (j : Int) := by omega
          have e5 : (n : Int) + (j : Int) < 2 * (n : Int) + 64 := by omega
          have e6 : ((n : Int) + (j : Int)).toNat = n + j := by omega
          go_region_held3 (fun W => Gr w6 W ∧ W.cell? ⟨ba, oa + (n + j) * 5 + 3, none⟩ = some (.slice y4 (x5 + 64) y6) ∧ W.cell? ⟨ba, oa + (n + j) * 5 + 4, none⟩ = some (.slice y8 (x9 + 64) y10) ∧ W.cell? ⟨g3, 3, none⟩ = some (.slice x4 x5 x6) ∧ W.cell? ⟨g3, 4, none⟩ = some (.slice x8 x9 x10)) ((refine (fun hG => ⟨hG, hG.cell b4, hG.cell b5, hG.cell c4, hG.cell c5⟩ : Gr w6 _ → _) ?_; repeat (first | with_reducible exact Gr.refl _ | assumption | with_reducible refine Gr.drew ?_ | with_reducible refine Gr.alloc ?_ _))) (first | (go_at_call 68; refine (keptInstrs_ok _ y4 x5 y6 x4 x6 x7 ⟨(sc.out.gr hgw.out).gr (by repeat (first | with_reducible exact Gr.refl _ | assumption | with_reducible refine Gr.drew ?_ | with_reducible refine Gr.alloc ?_ _))⟩ ⟨(rc.out.gr hgw.out).gr (by repeat (first | with_reducible exact Gr.refl _ | assumption | with_reducible refine Gr.drew ?_ | with_reducible refine Gr.alloc ?_ _))⟩ (by omega)).mono ?_; rintro e w8 ⟨rfl, hg8⟩; have hg9 : Gr w6 w8 := Gr.trans (by repeat (first | with_reducible exact Gr.refl _ | assumption | with_reducible refine Gr.drew ?_ | with_reducible refine Gr.alloc ?_ _)) hg8) | (go_at_call 69; refine (keptHandlers_ok _ y8 x9 y10 x8 x10 x11 ⟨(sh.out.gr hgw.out).gr (by repeat (first | with_reducible exact Gr.refl _ | assumption | with_reducible refine Gr.drew ?_ | with_reducible refine Gr.alloc ?_ _))⟩ ⟨(rh.out.gr hgw.out).gr (by repeat (first | with_reducible exact Gr.refl _ | assumption | with_reducible refine Gr.drew ?_ | with_reducible refine Gr.alloc ?_ _))⟩ (by omega)).mono ?_; rintro e w10 ⟨rfl, hg10⟩; have hg11 : Gr w6 w10 := Gr.trans (by repeat (first | with_reducible exact Gr.refl _ | assumption | with_reducible refine Gr.drew ?_ | with_reducible refine Gr.alloc ?_ _)) hg10))
          have hgz := hg7.trans hg11
          clear c4 c5 b4 b5 e3 e4 e5 e6
          go_wp2
          go_roundw
          case rel => exact ⟨j + 1, by go_num, by omega, hgz⟩
          case measure => simp [intOf]; omega
        · go_wp2
          obtain ⟨wo, hwo⟩ : ∃ wo : World, wo = wr := ⟨_, rfl⟩
          rw [← hwo] at hg ⊢
          clear hwo p4'
          go_loopw [13] (fun v w' => ∃ (i : Nat), v = .int .i64 i ∧ i ≤ n + 64 ∧ Gr w1 w') (fun v _ => n + 64 - (intOf v).toNat)
          case atStart => exact ⟨0, rfl, by omega, hg⟩
          case round =>
            clear hg
            obtain ⟨i, rfl, hi1, hg⟩ := hrel
            by_cases hlt3 : i < n + 64
            · obtain ⟨ba, oa, e, r2, _, _⟩ := rd_at cF_len (by omega) fn0 hlf.out (n + i) (by omega)
              try dsimp only at e
              subst e
              have r2 := rng_gr r2 hg
              have e1 : (List.zipWith lentF fns hs).length = n := by have := hfl.out; have := hlh.out; simp; omega
              by_cases hin : i < n
              · have q2 : (List.zipWith lentF fns hs ++ hs ++ marksF n 64).getD (n + i) fn0 = hs.getD i fn0 := by
                  rw [List.append_assoc, List.getD_eq_getElem?_getD, List.getElem?_append_right (by omega), e1, Nat.add_sub_cancel_left, List.getElem?_append_left (by have := hlh.out; omega), ← List.getD_eq_getElem?_getD]
                rw [q2] at r2
                have hfo := hll.out i hin
                clear q2 e1
                generalize hs.getD i fn0 = y at *
                generalize fns.getD i fn0 = x at *
                obtain ⟨y1, y2, y3, y4, y5, y6, y7, y8, y9, y10, y11⟩ := y
                obtain ⟨rfl, rfl, rfl, rfl, rfl, rfl, rfl⟩ := hfo
                have e7 : decide ((i : Int) ≥ (n : Int)) = false := by simp; omega
                go_upto_region 27 with (first | (refine wp_rng rfl 47 _ rfl ba _ rfl [.string ⟨#[]⟩, .int .i64 (-7), .int .i64 (i : Int), .slice y4 (x.cn + 64) y6, .slice y8 (x.hn + 64) y10] r2 row_F szF ?_) | (refine wp_setrow rfl 47 _ _ rfl _ rfl 47 _ [.string ⟨#[]⟩, .int .i64 (-7), .int .i64 (i : Int), .slice y4 (x.cn + 64) y6, .slice y8 (x.hn + 64) y10] rfl ((Mem.start wr).alloc _) szF rfl (cF_one ⟨⟨#[]⟩, -7, (i : Int), y4, x.cn + 64, y6, [], y8, x.hn + 64, y10, []⟩) ?_; intro w3 hm3))
                generalize wr.heap.size = g3 at hm3 ⊢
                have c1 := hm3.cell m0 0 rfl
                have c2 := hm3.cell m0 1 rfl
                have c3 := hm3.cell m0 2 rfl
                have c4 := hm3.cell m0 3 rfl
                have c5 := hm3.cell m0 4 rfl
                have hgz := hg.trans hm3.below
                clear hm3 r2
                go_wp2
                go_roundw
                case rel => exact ⟨i + 1, by go_num, by omega, hgz⟩
                case measure => simp [intOf]; omega
              · have q2 : (List.zipWith lentF fns hs ++ hs ++ marksF n 64).getD (n + i) fn0 = markF n (i - n) := by
                  rw [List.append_assoc, List.getD_eq_getElem?_getD, List.getElem?_append_right (by omega), e1, Nat.add_sub_cancel_left, List.getElem?_append_right (by have := hlh.out; omega), hlh.out]
                  simp [marksF, show i - n < 64 by omega]
                have q3 : (n : Int) + ((i - n : Nat) : Int) = (i : Int) := by omega
                rw [q2] at r2
                simp only [markF, q3] at r2
                clear q2 q3 e1
                go_upto_region 27 with (first | (refine wp_rng rfl 47 _ rfl ba _ rfl [.string ⟨#[]⟩, .int .i64 (-7), .int .i64 (i : Int), .slice none 0 0, .slice none 0 0] r2 row_F szF ?_) | (refine wp_setrow rfl 47 _ _ rfl _ rfl 47 _ [.string ⟨#[]⟩, .int .i64 (-7), .int .i64 (i : Int), .slice none 0 0, .slice none 0 0] rfl ((Mem.start wr).alloc _) szF rfl (cF_one ⟨⟨#[]⟩, -7, (i : Int), none, 0, 0, [], none, 0, 0, []⟩) ?_; intro w3 hm3))
                generalize wr.heap.size = g3 at hm3 ⊢
                have c1 := hm3.cell m0 0 rfl
                have c2 := hm3.cell m0 1 rfl
                have c3 := hm3.cell m0 2 rfl
                have c4 := hm3.cell m0 3 rfl
                have c5 := hm3.cell m0 4 rfl
                have hgz := hg.trans hm3.below
                clear hm3 r2
                go_wp2
                go_roundw
                case rel => exact ⟨i + 1, by go_num, by omega, hgz⟩
                case measure => simp [intOf]; omega
            · go_wp2
              go_ret
              exact ⟨rfl, Gr.trans hgr.out hg⟩
end Go.Proofs.YtgflfpepfpekhaaGreat
