/- What came in, read as lists: from the form's own reading to the words of Mem. No program in sight. -/
import Derived.Test.YtgflfpepfpekhaaMem
import Derived.OpenShut
import Derived.Deep.Slices
import Derived.SizedLaws
namespace Go.Mm
open Go.RowKit Go.Deep Go.WideShapes Go.ChangeShapes

section
variable {H : Type} {enc : TypeId × Value → H} {P : Program} {w : World}

theorem cells?_at {base : Nat} {a : Addr} {n : Nat} {cs : List Value} (h : w.cells? base a n = some cs) : cs.length = n ∧ ∀ j u, cs[j]? = some u → w.cell? (a.add j) = some u := by
  unfold World.cells? at h
  split at h
  · have hl := mapM_length h
    refine ⟨by simpa using hl, fun j u hj => ?_⟩
    have hlt : j < n := by
      have := List.getElem?_eq_some_iff.1 hj
      have := this.1
      simp at hl
      omega
    obtain ⟨y, h1, h2⟩ := mapM_at h j j (by simp [hlt])
    rw [hj] at h2
    cases h2
    exact h1
  · cases h

theorem flatMap_at {α : Type} (f : α → List Value) (size : Nat) (hf : ∀ x, (f x).length = size) : ∀ (xs : List α) (i j : Nat), j < size → (xs.flatMap f)[i * size + j]? = (xs[i]?).bind fun x => (f x)[j]?
  | [], i, j, _ => by simp
  | x :: xs, 0, j, hj => by
    rw [List.flatMap_cons, List.getElem?_append_left (by rw [hf]; omega)]
    simp
  | x :: xs, i + 1, j, hj => by
    have hl := hf x
    rw [List.flatMap_cons, List.getElem?_append_right (by rw [hl, Nat.succ_mul]; omega), hl]
    rw [show (i + 1) * size + j - size = i * size + j by rw [Nat.succ_mul]; omega, flatMap_at f size hf xs i j hj]
    simp
theorem flatMap_length {α : Type} (f : α → List Value) (size : Nat) (hf : ∀ x, (f x).length = size) : ∀ (xs : List α), (xs.flatMap f).length = xs.length * size
  | [] => by simp
  | x :: xs => by rw [List.flatMap_cons, List.length_append, hf, flatMap_length f size hf xs, List.length_cons, Nat.succ_mul]; omega

theorem choose_list {α : Type} {p : Nat → α → Prop} : ∀ (n : Nat), (∀ i, i < n → ∃ x, p i x) → ∃ xs : List α, xs.length = n ∧ ∀ i x, xs[i]? = some x → p i x
  | 0, _ => ⟨[], rfl, by simp⟩
  | n + 1, h => by
    obtain ⟨xs, hl, hx⟩ := choose_list n fun i hi => h i (by omega)
    obtain ⟨y, hy⟩ := h n (by omega)
    refine ⟨xs ++ [y], by simp [hl], fun i x hi => ?_⟩
    by_cases hin : i < n
    · rw [List.getElem?_append_left (by omega)] at hi
      exact hx i x hi
    · rw [List.getElem?_append_right (by omega)] at hi
      have : i = n := by
        have := (List.getElem?_eq_some_iff.1 hi).1
        simp at this
        omega
      subst this
      rw [hl, Nat.sub_self] at hi
      cases hi
      exact hy

/-- A slice that came in, as a list: f: an element's cells; Good: what is known of an element and its datum. -/
theorem open_list {α : Type} (f : α → List Value) (Good : DataW H → α → Prop) {t e : TypeId} (size : Nat) (hs0 : 0 < size) (ht : P.underlying t = some (.slice e)) (hc : P.cellsOf e = size) (hf : ∀ x, (f x).length = size ∧ One (f x))
    (hel : ∀ fuel cs d ps, DataW.trod enc P w 0 (fun _ => true) true fuel e cs = some (d, ps) → ∃ x, cs = f x ∧ Good d x) {v : Value} {d : DataW H} {p : List MemPlace} {base : Nat}
    (h : DataW.Trod enc P w 0 (fun _ => true) true t v d p) (ok : Value.okWide P w .any base t v) :
    ∃ (A : Option Addr) (n c : Nat) (xs : List α), v = .slice A n c ∧ RdC w size v (xs.flatMap f) ∧ xs.length = n ∧
      ((d = .nil ∧ xs = [] ∧ n = 0) ∨ ∃ (ds sp : List (DataW H)), d = .slice ds sp ∧ ds.length = n ∧ sp.length = c - n ∧ n ≤ c ∧ ∀ (i : Nat) (x : α), xs[i]? = some x → ∃ y, ds[i]? = some y ∧ Good y x) := by
  obtain ⟨A, n, c, rfl⟩ := okWide_slice ht ok
  obtain ⟨fuel, hfu⟩ := h
  rcases open_slice ht hfu with ⟨hcs, hx⟩ | ⟨a, len, cap, m, k, D, Pl, hcs, _, hl, hm, hmm, hx, hi⟩
  · simp [Value.cells] at hcs
    obtain ⟨rfl, rfl, rfl⟩ := hcs
    cases hx
    exact ⟨none, 0, 0, [], rfl, RdC.nil w size, rfl, .inl ⟨rfl, rfl, rfl⟩⟩
  · simp [Value.cells] at hcs
    obtain ⟨rfl, rfl, rfl⟩ := hcs
    rw [if_pos rfl] at hmm
    subst hmm
    rw [hc] at hi
    obtain ⟨xs, hxl, hxs⟩ := choose_list (p := fun i x => w.cells? 0 (a.add (i * size)) size = some (f x) ∧ Good (D i) x) n (fun i hin => by
      obtain ⟨cs', h1, h2⟩ := hi i (by omega)
      obtain ⟨x, rfl, hg⟩ := hel _ _ _ _ h2
      exact ⟨x, h1, hg⟩)
    cases hx
    refine ⟨some a, n, m, xs, rfl, ⟨_, _, _, rfl, by rw [flatMap_length f size (fun x => (hf x).1), hxl], hl, hm, ?_, ?_⟩, hxl, .inr ⟨_, _, rfl, by simp, by simp, hl, ?_⟩⟩
    · intro u hu
      obtain ⟨x, _, hx⟩ := List.mem_flatMap.1 hu
      exact (hf x).2 u hx
    · intro j u hj
      refine ⟨a, rfl, ?_⟩
      have hj2 : (xs.flatMap f)[(j / size) * size + j % size]? = some u := by rw [Nat.mul_comm, Nat.div_add_mod]; exact hj
      rw [flatMap_at f size (fun x => (hf x).1) xs _ _ (Nat.mod_lt _ hs0)] at hj2
      cases hxi : xs[j / size]? with
      | none => rw [hxi] at hj2; simp at hj2
      | some x =>
        rw [hxi] at hj2
        have := (cells?_at (hxs _ _ hxi).1).2 _ _ (by simpa using hj2)
        rw [add_add, Nat.mul_comm, Nat.div_add_mod] at this
        exact this
    · intro i x hix
      have hin : i < n := by have := (List.getElem?_eq_some_iff.1 hix).1; omega
      exact ⟨D i, by simp [hin], (hxs i x hix).2⟩

/-- Whole numbers of a kind. -/
theorem open_nums {k : IntKind} {t e : TypeId} (ht : P.underlying t = some (.slice e)) (he : P.underlying e = some (.int k)) (hc : P.cellsOf e = 1) {v : Value} {d : DataW H} {p : List MemPlace} {base : Nat}
    (h : DataW.Trod enc P w 0 (fun _ => true) true t v d p) (ok : Value.okWide P w .any base t v) :
    ∃ (A : Option Addr) (n c : Nat) (xs : List Int), v = .slice A n c ∧ RdC w 1 v (nums k xs) ∧ xs.length = n ∧ (∀ x, x ∈ xs → (Lit.int k x).wf = true) ∧
      ((d = .nil ∧ xs = [] ∧ n = 0) ∨ ∃ (ds sp : List (DataW H)), d = .slice ds sp ∧ ds.length = n ∧ sp.length = c - n ∧ n ≤ c) := by
  obtain ⟨A, n, c, xs, rfl, hr, hl, hd⟩ := open_list (fun x : Int => [.int k x]) (fun _ x => (Lit.int k x).wf = true) 1 (by omega) ht hc (fun x => ⟨rfl, fun u hu => by simp at hu; subst hu; rfl⟩)
    (fun fuel cs d ps hx => by
      obtain ⟨n, rfl, _, hw⟩ := DataW.trod_int he hx
      exact ⟨n, rfl, hw⟩) h ok
  refine ⟨A, n, c, xs, rfl, ?_, hl, ?_, ?_⟩
  · have : nums k xs = xs.flatMap (fun x : Int => [.int k x]) := by
      clear hd hl hr
      induction xs with
      | nil => rfl
      | cons x xs ih => rw [List.flatMap_cons, ← ih]; rfl
    rw [this]; exact hr
  · intro x hx
    obtain ⟨i, hi⟩ := List.mem_iff_getElem?.1 hx
    rcases hd with ⟨_, rfl, _⟩ | ⟨ds, sp, _, _, _, _, hg⟩
    · simp at hi
    · obtain ⟨y, _, hw⟩ := hg i x hi
      exact hw
  · rcases hd with hd | ⟨ds, sp, h1, h2, h3, h4, _⟩
    · exact .inl hd
    · exact .inr ⟨ds, sp, h1, h2, h3, h4⟩
end
theorem getD_some {α : Type} (l : List α) (d : α) (k : Nat) (h : k < l.length) : l[k]? = some (l.getD k d) := by simp [h]
theorem One.flatMap {α : Type} {f : α → List Value} (h : ∀ x, One (f x)) (xs : List α) : One (xs.flatMap f) := fun u hu => by
  obtain ⟨x, _, hx⟩ := List.mem_flatMap.1 hu
  exact h x u hx
theorem rd_len {α : Type} {f : α → List Value} {size : Nat} (hf : ∀ x, (f x).length = size) (hs : 0 < size) {w : World} {A : Option Addr} {n c : Nat} {xs : List α} (h : RdC w size (.slice A n c) (xs.flatMap f)) : xs.length = n := by
  have hl := h.len
  rw [flatMap_length f size hf] at hl
  exact Nat.eq_of_mul_eq_mul_right hs hl
/-- Element k of a slice that reads as a list. -/
theorem rd_at {α : Type} {f : α → List Value} {size : Nat} (hf : ∀ x, (f x).length = size) (hs : 0 < size) (d : α) {w : World} {A : Option Addr} {n c : Nat} {xs : List α} (h : RdC w size (.slice A n c) (xs.flatMap f)) (k : Nat) (hk : k < n) :
    ∃ b o, A = some ⟨b, o, none⟩ ∧ (∀ j u, (f (xs.getD k d))[j]? = some u → w.cell? ⟨b, o + k * size + j, none⟩ = some u) ∧ xs.take (k + 1) = xs.take k ++ [xs.getD k d] ∧ k < xs.length := by
  have hl := rd_len hf hs h
  have hlt : k < xs.length := by omega
  obtain ⟨b, o, us, rfl, hul, hc, _, hu, _⟩ := h.at hs k hk
  refine ⟨b, o, rfl, fun j u hj => hc j u ?_, take_snoc xs d k hlt, hlt⟩
  have hjs : j < size := by have := (List.getElem?_eq_some_iff.1 hj).1; rw [hf] at this; exact this
  rw [hu, List.getElem?_take_of_lt hjs, List.getElem?_drop, flatMap_at f size hf xs k j hjs, getD_some xs d k hlt]
  exact hj
end Go.Mm
