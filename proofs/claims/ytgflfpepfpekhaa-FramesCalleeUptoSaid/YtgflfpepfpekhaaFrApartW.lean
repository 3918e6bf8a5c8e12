/- Words for lists of slices that lie apart. -/
import Derived.Test.YtgflfpepfpekhaaFrCopy
import Derived.Test.YtgflfpepfpekhaaExt
namespace Go.Proofs.Ytgflfpepfpekhaa
open Go.RowKit Go.Mm
def sv (y : Fr) : Value := .slice y.A y.n y.c
def svs (ys : List Fr) : List Value := ys.map sv
theorem svs_one (ys : List Fr) : One (svs ys) := fun u hu => by
  obtain ⟨y, _, rfl⟩ := List.mem_map.1 hu
  rfl
theorem svs_len (ys : List Fr) : (svs ys).length = ys.length := by simp [svs]
theorem svs_at (ys : List Fr) (k : Nat) (h : k < ys.length) : (svs ys)[k]? = some (sv (ys.getD k fr0)) := by simp [svs, h]
theorem svs_set (ys : List Fr) (k : Nat) (y : Fr) (h : k < ys.length) (hy : sv y = sv (ys.getD k fr0)) : svs (ys.set k y) = svs ys := by
  apply List.ext_getElem?
  intro i
  simp only [svs, List.getElem?_map, List.getElem?_set]
  by_cases hik : k = i
  · subst hik
    simp only [if_pos h, if_true, Option.map_some]
    rw [getD_some ys fr0 k h]
    simp [hy]
  · rw [if_neg hik]
theorem slots_get {w0 w : World} {ys : List Fr} {R : List Chunk} {k : Nat} (hk : k < ys.length) (h : Mem w0 w (slots ys ++ R)) : Mem w0 w (slot (ys.getD k fr0) :: (slots (ys.eraseIdx k) ++ R)) := by
  refine h.perm ?_
  have e : ys.getD k fr0 = ys[k] := by simp [hk]
  rw [e]
  have := ((perm_front ys k hk).map slot).append_right R
  simpa [slots] using this
theorem slots_put {w0 w : World} {ys : List Fr} {R : List Chunk} {k : Nat} {y : Fr} (hk : k < ys.length) (h : Mem w0 w (slot y :: (slots (ys.eraseIdx k) ++ R))) : Mem w0 w (slots (ys.set k y) ++ R) := by
  refine h.perm ?_
  have := ((perm_front (ys.set k y) k (by simpa using hk)).map slot).append_right R
  rw [List.eraseIdx_set_eq] at this
  simpa [slots] using this.symm
theorem Mem.conv {α : Type} {w0 w : World} (f g : α → Chunk) (hf : ∀ x k, (g x).foot k → (f x).foot k) (ho : ∀ x, (f x).ok w → (g x).ok w) : ∀ (xs : List α) (A R : List Chunk), Mem w0 w (A ++ (xs.map f ++ R)) → Mem w0 w (A ++ (xs.map g ++ R))
  | [], _, _, h => h
  | x :: xs, A, R, h => by
    have h1 : Mem w0 w (f x :: (A ++ (xs.map f ++ R))) := h.perm (by simp only [List.map_cons, List.cons_append]; exact List.perm_middle)
    have h2 : Mem w0 w (g x :: (A ++ (xs.map f ++ R))) := h1.upd ⟨rfl, rfl, rfl, Nat.le_refl _, fun _ _ _ => rfl⟩ (ho x (h1.ok _ m0)) (fun k hk => .inl (hf x k hk))
    have h3 : Mem w0 w ((g x :: A) ++ (xs.map g ++ R)) := Mem.conv f g hf ho xs (g x :: A) R h2
    exact h3.perm (by simp only [List.map_cons, List.cons_append]; exact List.perm_middle.symm)
def extc (p : Fr × Fr) : Chunk := Ext 2 (sv p.2) (fV p.2.sl) (sv p.1) (fV p.1.sl)
def exts (ps : List (Fr × Fr)) : List Chunk := ps.map extc
def pr0 : Fr × Fr := (fr0, fr0)
theorem exts_start {w0 w : World} {ys : List Fr} {R : List Chunk} (h : Mem w0 w (slots ys ++ R)) : Mem w0 w (exts (ys.map fun y => (y, y)) ++ R) := by
  have := Mem.conv (fun y : Fr => slot y) (fun y => extc (y, y)) (fun x k hk => hk.elim id id) (fun x hx => OwnAt.ext hx) ys [] R h
  simpa [exts, List.map_map, Function.comp_def] using this
theorem exts_get {w0 w : World} {ys : List (Fr × Fr)} {R : List Chunk} {k : Nat} (hk : k < ys.length) (h : Mem w0 w (exts ys ++ R)) : Mem w0 w (extc (ys.getD k pr0) :: (exts (ys.eraseIdx k) ++ R)) := by
  refine h.perm ?_
  have e : ys.getD k pr0 = ys[k] := by simp [hk]
  rw [e]
  have := ((perm_front ys k hk).map extc).append_right R
  simpa [exts] using this
theorem exts_put {w0 w : World} {ys : List (Fr × Fr)} {R : List Chunk} {k : Nat} {y : Fr × Fr} (hk : k < ys.length) (h : Mem w0 w (extc y :: (exts (ys.eraseIdx k) ++ R))) : Mem w0 w (exts (ys.set k y) ++ R) := by
  refine h.perm ?_
  have := ((perm_front (ys.set k y) k (by simpa using hk)).map extc).append_right R
  rw [List.eraseIdx_set_eq] at this
  simpa [exts] using this.symm
/-- The marks of a list. -/
def markA (k i : Nat) : V2 := (-10 - (k : Int), (i : Int))
def marksA (k n : Nat) : List V2 := (List.range n).map (markA k)
theorem marksA_len (k n : Nat) : (marksA k n).length = n := by simp [marksA]
theorem marksA_succ (k n : Nat) : marksA k (n + 1) = marksA k n ++ [markA k n] := by simp [marksA, List.range_succ]
theorem marksA_at (k n i : Nat) (h : i < n) : (marksA k n).getD i (0, 0) = (-10 - (k : Int), (i : Int)) := by simp [marksA, h, markA]
theorem fV_put (xs : List V2) (i : Nat) (x : V2) (h : i < xs.length) : (fV xs).take (i * 2) ++ cV x ++ (fV xs).drop (i * 2 + (cV x).length) = fV (xs.set i x) := by
  rw [List.set_eq_take_append_cons_drop, if_pos h, show i * 2 + (cV x).length = (i + 1) * 2 by rw [cV_len]; omega]
  have e1 : (fV xs).take (i * 2) = fV (xs.take i) := (flatMap_take cV 2 cV_len xs i).symm
  have e2 : (fV xs).drop ((i + 1) * 2) = fV (xs.drop (i + 1)) := (flatMap_drop cV 2 cV_len xs (i + 1)).symm
  rw [e1, e2]
  simp [fV]
theorem take_set_snoc (xs : List V2) (k i : Nat) (h : i < xs.length) (hp : xs.take i = marksA k i) : (xs.set i (markA k i)).take (i + 1) = marksA k (i + 1) := by
  rw [marksA_succ, List.take_succ_eq_append_getElem (by simpa using h), List.take_set_of_le (Nat.le_refl _), hp]
  simp
end Go.Proofs.Ytgflfpepfpekhaa
