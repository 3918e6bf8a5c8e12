/- Lists of frames that lie apart: words. -/
import Derived.Test.YtgflfpepfpekhaaFrApart
import Derived.Test.YtgflfpepfpekhaaFrRet
namespace Go.Proofs.Ytgflfpepfpekhaa
open Go.RowKit Go.Mm
structure FL where
  A : Option Addr
  n : Nat
  c : Nat
  fs : List Fr
def fl0 : FL := ⟨none, 0, 0, []⟩
def lv (l : FL) : Value := .slice l.A l.n l.c
def lvs (ls : List FL) : List Value := ls.map lv
def lst (l : FL) : Chunk := Own 3 (lv l) (fR l.fs)
theorem lvs_one (ls : List FL) : One (lvs ls) := fun u hu => by
  obtain ⟨y, _, rfl⟩ := List.mem_map.1 hu
  rfl
theorem lvs_len (ls : List FL) : (lvs ls).length = ls.length := by simp [lvs]
theorem lvs_at (ls : List FL) (k : Nat) (h : k < ls.length) : (lvs ls)[k]? = some (lv (ls.getD k fl0)) := by simp [lvs, h]
theorem ch_get {α : Type} (f : α → Chunk) (d : α) {w0 w : World} {ys : List α} {R : List Chunk} {k : Nat} (hk : k < ys.length) (h : Mem w0 w (ys.map f ++ R)) : Mem w0 w (f (ys.getD k d) :: ((ys.eraseIdx k).map f ++ R)) := by
  refine h.perm ?_
  have e : ys.getD k d = ys[k] := by simp [hk]
  rw [e]
  have := ((perm_front ys k hk).map f).append_right R
  simpa using this
theorem ch_put {α : Type} (f : α → Chunk) {w0 w : World} {ys : List α} {R : List Chunk} {k : Nat} {y : α} (hk : k < ys.length) (h : Mem w0 w (f y :: ((ys.eraseIdx k).map f ++ R))) : Mem w0 w ((ys.set k y).map f ++ R) := by
  refine h.perm ?_
  have := ((perm_front (ys.set k y) k (by simpa using hk)).map f).append_right R
  rw [List.eraseIdx_set_eq] at this
  simpa using this.symm
theorem lvs_set (ys : List FL) (k : Nat) (y : FL) (h : k < ys.length) (hy : lv y = lv (ys.getD k fl0)) : lvs (ys.set k y) = lvs ys := by
  apply List.ext_getElem?
  intro i
  simp only [lvs, List.getElem?_map, List.getElem?_set]
  by_cases hik : k = i
  · subst hik
    simp only [if_pos h, if_true, Option.map_some]
    rw [getD_some ys fl0 k h]
    simp [hy]
  · rw [if_neg hik]
/-- A list and what it was grown to. -/
def exl (p : FL × FL) : Chunk := Ext 3 (lv p.2) (fR p.2.fs) (lv p.1) (fR p.1.fs)
def pl0 : FL × FL := (fl0, fl0)
theorem exl_start {w0 w : World} {ys : List FL} {R : List Chunk} (h : Mem w0 w (ys.map lst ++ R)) : Mem w0 w ((ys.map fun y => (y, y)).map exl ++ R) := by
  have := Mem.conv (fun y : FL => lst y) (fun y => exl (y, y)) (fun x k hk => hk.elim id id) (fun x hx => OwnAt.ext hx) ys [] R h
  simpa [List.map_map, Function.comp_def] using this
/-- The mark behind a list of frames. -/
def markG (k : Nat) : Fr := ⟨-1 - (k : Int), 0, none, 0, 0, []⟩
theorem fR_fn (ys : List Fr) (i : Nat) (x : Int) (h : i < ys.length) : (fR ys).set (i * 3 + 0) (.int .i64 x) = fR (ys.set i { ys.getD i fr0 with fn := x }) :=
  flatMap_set cR 3 cR_len fr0 ys i 0 _ _ h (by omega) rfl
theorem fR_pc (ys : List Fr) (i : Nat) (x : Int) (h : i < ys.length) : (fR ys).set (i * 3 + 1) (.int .i64 x) = fR (ys.set i { ys.getD i fr0 with pc := x }) :=
  flatMap_set cR 3 cR_len fr0 ys i 1 _ _ h (by omega) rfl
/-- So many frames of list k are marked. -/
def Marked (k i : Nat) (fs : List Fr) : Prop := ∀ q, q < i → (fs.getD q fr0).fn = k ∧ (fs.getD q fr0).pc = q
theorem Marked.step {k i : Nat} {fs : List Fr} (h : Marked k i fs) (hi : i < fs.length) (y : Fr) (h1 : y.fn = k) (h2 : y.pc = i) : Marked k (i + 1) (fs.set i y) := fun q hq => by
  rw [getD_set _ _ _ _ _ hi]
  by_cases e : q = i
  · subst e; rw [if_pos rfl]; exact ⟨h1, h2⟩
  · rw [if_neg e]; exact h q (by omega)
theorem outer_addr {w0 w : World} {A : Option Addr} {m c : Nat} {ls : List FL} {L : List Chunk} (h : Mem w0 w L) (hm : Own 1 (.slice A m c) (lvs ls) ∈ L) (k : Nat) (hk : k < m) : ∃ b o, A = some ⟨b, o, none⟩ := by
  obtain ⟨b, o, _, e, _⟩ := (h.rd hm).at1 k hk
  exact ⟨b, o, e⟩
theorem outer_at {w0 w : World} {b o : Nat} {m c : Nat} {ls : List FL} {L : List Chunk} (h : Mem w0 w L) (hm : Own 1 (.slice (some ⟨b, o, none⟩) m c) (lvs ls) ∈ L) (k : Nat) (hk : k < m) (hl : ls.length = m) : w.cell? ⟨b, o + k, none⟩ = some (lv (ls.getD k fl0)) := by
  obtain ⟨_, _, c0, e, h1, h2, _, _⟩ := (h.rd hm).at1 k hk
  cases e
  rw [lvs_at ls k (by omega)] at h2
  cases h2
  exact h1
theorem lst_at {w0 w : World} {A : Option Addr} {n c : Nat} {fs : List Fr} {L : List Chunk} (h : Mem w0 w L) (hm : lst ⟨A, n, c, fs⟩ ∈ L) (i : Nat) (hi : i < n) : ∃ b o, A = some ⟨b, o, none⟩ ∧ w.rangeAt b (o + i * 3) (cR (fs.getD i fr0)) := by
  obtain ⟨b, o, e, r, _⟩ := rd_at cR_len (by omega) fr0 (h.rd hm) i hi
  exact ⟨b, o, e, r⟩
theorem lst_len {w0 w : World} {A : Option Addr} {n c : Nat} {fs : List Fr} {L : List Chunk} (h : Mem w0 w L) (hm : lst ⟨A, n, c, fs⟩ ∈ L) : fs.length = n := rd_len cR_len (by omega) (h.rd hm)
end Go.Proofs.Ytgflfpepfpekhaa
