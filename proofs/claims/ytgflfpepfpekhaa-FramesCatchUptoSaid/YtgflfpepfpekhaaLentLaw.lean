/- Laws of frames that are lent, changed in their place, and handed out. -/
import Derived.Test.YtgflfpepfpekhaaKeptFr
import Derived.Test.YtgflfpepfpekhaaFrApartF
import Derived.Test.YtgflfpepfpekhaaFrRefR
namespace Go.Proofs.Ytgflfpepfpekhaa
open Go.RowKit Go.Mm
set_option maxRecDepth 100000
/-- Frames whose slots lie in the full lists. -/
structure InsOk (N n : Nat) (ins hs : List Fr) : Prop where
  l1 : ins.length = n
  l2 : hs.length = n
  each : ∀ k, k < n → (ins.getD k fr0).A = (hs.getD k fr0).A ∧ (ins.getD k fr0).c = (hs.getD k fr0).c ∧ FullR (ins.getD k fr0) k (hs.getD k fr0) ∧ (ins.getD k fr0).n ≤ N ∧ (ins.getD k fr0).sl.length = (ins.getD k fr0).n
theorem insOk_of {w : World} {N n c : Nat} {A : Option Addr} {xs hs : List Fr} (hx : FrsOk N w A n c xs) (hl : hs.length = n) (hf : ∀ k, k < n → FullR (xs.getD k fr0) k (hs.getD k fr0)) : InsOk N n (List.zipWith lentR xs hs) hs ∧ (List.zipWith lentR xs hs).map Fr.data = xs.map Fr.data := by
  have hxl := hx.len
  have e : ∀ k, k < n → (List.zipWith lentR xs hs).getD k fr0 = lentR (xs.getD k fr0) (hs.getD k fr0) := fun k hk => by
    have h1 := getD_some xs fr0 k (by omega)
    have h2 := getD_some hs fr0 k (by omega)
    rw [List.getD_eq_getElem?_getD, List.getElem?_zipWith, h1, h2]
    rfl
  refine ⟨⟨by rw [List.length_zipWith]; omega, hl, fun k hk => ?_⟩, ?_⟩
  · rw [e k hk]
    have hm : xs.getD k fr0 ∈ xs := List.mem_of_getElem? (getD_some xs fr0 k (by omega))
    exact ⟨rfl, rfl, hf k hk, (hx.each _ hm).2, (hx.each _ hm).len⟩
  · apply List.ext_getElem?
    intro k
    rw [List.getElem?_map, List.getElem?_map, List.getElem?_zipWith]
    by_cases hk : k < n
    · have h1 := getD_some xs fr0 k (by omega)
      have h2 := getD_some hs fr0 k (by omega)
      rw [h1, h2]
      rfl
    · rw [List.getElem?_eq_none (by omega), List.getElem?_eq_none (l := hs) (by omega)]
theorem InsOk.set {N n : Nat} {ins hs : List Fr} (h : InsOk N n ins hs) (q : Nat) (hq : q < n) (y : Fr) (hy : y.A = (ins.getD q fr0).A ∧ y.n = (ins.getD q fr0).n ∧ y.c = (ins.getD q fr0).c ∧ y.sl = (ins.getD q fr0).sl) : InsOk N n (ins.set q y) hs := by
  obtain ⟨a1, a2, a3, a4⟩ := hy
  refine ⟨by simpa using h.l1, h.l2, fun k hk => ?_⟩
  rw [getD_set _ _ _ _ _ (by have := h.l1; omega)]
  by_cases e : k = q
  · subst e
    rw [if_pos rfl]
    obtain ⟨b1, b2, ⟨b3, b4, b5, b6⟩, b7, b8⟩ := h.each k hk
    exact ⟨a1.trans b1, a3.trans b2, ⟨b3, b4, by rw [b5, a2], by rw [b6, a4]⟩, by rw [a2]; exact b7, by rw [a4, a2]; exact b8⟩
  · rw [if_neg e]
    exact h.each k hk
theorem InsOk.lent {N n d : Nat} {ins hs : List Fr} {w0 w : World} {B : Option Addr} {L : List Chunk} (h : InsOk N n ins hs) (hm : Mem w0 w L) (h1 : Own 3 (.slice B (n + n + 64) d) (fR (ins ++ (hs ++ marksR n 64))) ∈ L) (h2 : ∀ x, x ∈ hs → slot x ∈ L) : LentR w N B n d ins hs := by
  have hh : ∀ k, k < n → RdC w 2 (.slice (hs.getD k fr0).A (hs.getD k fr0).n (hs.getD k fr0).c) (fV (hs.getD k fr0).sl) := fun k hk =>
    hm.rd (h2 _ (List.mem_of_getElem? (getD_some hs fr0 k (by have := h.l2; omega))))
  refine ⟨hm.rd h1, h.l1, h.l2, fun k hk => (h.each k hk).2.2.1, fun k hk => ?_, hh⟩
  obtain ⟨b1, b2, ⟨b3, b4, b5, b6⟩, b7, b8⟩ := h.each k hk
  refine ⟨?_, b7⟩
  have r := hh k hk
  rw [b5, b6] at r
  rw [b1, b2]
  exact rd_pre cV_len r b8
theorem retD_data {xs ys : List Fr} (h : xs.map Fr.data = ys.map Fr.data) (v : V2) : retD xs v = retD ys v := by
  have hl : xs.length = ys.length := data_len h
  unfold retD
  rw [hl]
  split
  · rfl
  · rename_i h2
    congr 1
    · rw [List.map_take, List.map_take, h]
    · congr 2
      have h1 : (xs.map Fr.data)[ys.length - 2]? = (ys.map Fr.data)[ys.length - 2]? := by rw [h]
      rw [List.getElem?_map, List.getElem?_map, getD_some xs fr0 _ (by omega), getD_some ys fr0 _ (by omega)] at h1
      simpa using h1
theorem perm_apart {α : Type} (o a b i : α) (NX S1 S2 Z : List α) : (o :: (NX ++ ((b :: S2) ++ (i :: ((a :: S1) ++ Z))))).Perm ((S1 ++ S2) ++ (a :: b :: (o :: (i :: (Z ++ NX))))) := by
  classical
  rw [List.perm_iff_count]
  intro x
  simp only [List.count_cons, List.count_append]
  omega
theorem mem_front {w0 w : World} {X Y Z : List Chunk} {i : Chunk} (h : Mem w0 w (X ++ (Y ++ (i :: Z)))) : Mem w0 w (i :: ((X ++ Y) ++ Z)) := by
  rw [← List.append_assoc] at h
  exact h.mid
theorem frs_mem {N : Nat} {w0 w : World} {A : Option Addr} {n c : Nat} {zs : List Fr} {L : List Chunk} (h : Mem w0 w L) (h1 : Own 3 (.slice A n c) (fR zs) ∈ L) (h2 : ∀ z, z ∈ zs → slot z ∈ L) (hz : ∀ z, z ∈ zs → z.n ≤ N) : FrsOk N w A n c zs := ⟨h.rd h1, fun f hf => ⟨h.rd (h2 f hf), hz f hf⟩⟩
end Go.Proofs.Ytgflfpepfpekhaa
