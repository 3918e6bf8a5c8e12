/- Own laws: joining memory, many slices in one chunk, make, copy and struct stores on a slice of one's own, append onto a full slice of others. No program in sight. -/
import Derived.Test.YtgflfpepfpekhaaRng
import Derived.Laws.MakeOwn
namespace Go.Mm
open Go.RowKit
theorem Mem.join {w0 w w' : World} {L M : List Chunk} (h : Mem w0 w L) (hn : Mem w w' M) : Mem w0 w' (M ++ L) := by
  have h' := h.gr hn.below
  refine ⟨h'.below, ?_, ?_, List.pairwise_append.2 ⟨hn.dis, h'.dis, fun c hc d hd k hk hk' => ?_⟩⟩
  · intro d hd
    rcases List.mem_append.1 hd with hd | hd
    · exact hn.ok d hd
    · exact h'.ok d hd
  · intro d hd k hk
    rcases List.mem_append.1 hd with hd | hd
    · exact ⟨Nat.le_trans h.below.size (hn.rng d hd k hk).1, (hn.rng d hd k hk).2⟩
    · exact h'.rng d hd k hk
  · have := (h.rng d hd k hk').2
    have := (hn.rng c hc k hk).1
    omega
/-- Two chunks seen as one. -/
theorem Mem.merge {w0 w : World} {a b : Chunk} {L : List Chunk} (c : Chunk) (h : Mem w0 w (a :: b :: L)) (hf : ∀ k, c.foot k → a.foot k ∨ b.foot k) (ho : a.ok w → b.ok w → c.ok w) : Mem w0 w (c :: L) := by
  have hd := List.pairwise_cons.1 h.dis
  have hd2 := List.pairwise_cons.1 hd.2
  refine ⟨h.below, ?_, ?_, List.pairwise_cons.2 ⟨fun d hd' k hk hk' => ?_, hd2.2⟩⟩
  · intro d hd'
    rcases List.mem_cons.1 hd' with rfl | hd'
    · exact ho (h.ok a (by simp)) (h.ok b (by simp))
    · exact h.ok d (by simp [hd'])
  · intro d hd' k hk
    rcases List.mem_cons.1 hd' with rfl | hd'
    · rcases hf k hk with h1 | h1
      · exact h.rng a (by simp) k h1
      · exact h.rng b (by simp) k h1
    · exact h.rng d (by simp [hd']) k hk
  · rcases hf k hk with h1 | h1
    · exact hd.1 d (by simp [hd']) k h1 hk'
    · exact hd2.1 d hd' k h1 hk'
/-- Many slices: v: an element's slice; f: its cells. -/
def Many {α : Type} (size : Nat) (v : α → Value) (f : α → List Value) (ys : List α) : Chunk :=
  ⟨fun k => ∃ y, y ∈ ys ∧ sfoot (v y) k, fun w => ∀ y, y ∈ ys → OwnAt size (v y) (f y) w, fun w w' h hw y hy => (Own size (v y) (f y)).loc w w' (fun k hk => h k ⟨y, hy, hk⟩) (hw y hy)⟩
theorem Mem.many0 {α : Type} {w0 w : World} {L : List Chunk} (h : Mem w0 w L) (size : Nat) (v : α → Value) (f : α → List Value) : Mem w0 w (Many size v f [] :: L) := by
  refine ⟨h.below, ?_, ?_, List.pairwise_cons.2 ⟨fun d _ k hk => ?_, h.dis⟩⟩
  · intro d hd
    rcases List.mem_cons.1 hd with rfl | hd
    · intro y hy; cases hy
    · exact h.ok d hd
  · intro d hd k hk
    rcases List.mem_cons.1 hd with rfl | hd
    · obtain ⟨y, hy, _⟩ := hk; cases hy
    · exact h.rng d hd k hk
  · obtain ⟨y, hy, _⟩ := hk; cases hy
theorem Mem.many1 {α : Type} {w0 w : World} {L : List Chunk} {size : Nat} {v : α → Value} {f : α → List Value} {ys : List α} (y : α) (h : Mem w0 w (Own size (v y) (f y) :: Many size v f ys :: L)) : Mem w0 w (Many size v f (ys ++ [y]) :: L) := by
  refine h.merge _ (fun k hk => ?_) (fun h1 h2 => ?_)
  · obtain ⟨z, hz, hk⟩ := hk
    rcases List.mem_append.1 hz with hz | hz
    · exact .inr ⟨z, hz, hk⟩
    · simp at hz; subst hz; exact .inl hk
  · intro z hz
    rcases List.mem_append.1 hz with hz | hz
    · exact h2 z hz
    · simp at hz; subst hz; exact h1
theorem Mem.many_rd {α : Type} {w0 w : World} {L : List Chunk} {size : Nat} {v : α → Value} {f : α → List Value} {ys : List α} (h : Mem w0 w L) (hm : Many size v f ys ∈ L) {y : α} (hy : y ∈ ys) : RdC w size (v y) (f y) := (h.ok _ hm y hy).rd
section
variable {P : Program} {ops : Array Oper} {rest : List Oper} {o : Oper} {a : Act} {Q : Exit → Act → World → Prop} {w0 w : World} {L : List Chunk}
theorem madeCells_flat {α : Type} (f : α → List Value) (z : α) (size : Nat) (hs : 0 < size) (hf : ∀ x, (f x).length = size) (n : Nat) : (madeCells (f z).toArray (n * size)).toList = (List.replicate n z).flatMap f := by
  apply List.ext_getElem?
  intro i
  by_cases hi : i < n * size
  · have hd : i = (i / size) * size + i % size := by rw [Nat.mul_comm, Nat.div_add_mod]
    have hlt : i % size < size := Nat.mod_lt _ hs
    have hdl : i / size < n := by rw [Nat.div_lt_iff_lt_mul hs]; exact hi
    rw [show (List.flatMap f (List.replicate n z))[i]? = (List.flatMap f (List.replicate n z))[(i / size) * size + i % size]? by rw [← hd], flatMap_at f size hf _ _ _ hlt]
    simp [madeCells, hi, hdl, hf, hlt]
  · rw [List.getElem?_eq_none (by simp [madeCells]; omega), List.getElem?_eq_none (by rw [flatMap_length f size hf]; simp; omega)]
/-- make([]T, n): the elements are the zero. -/
theorem wp_make {α : Type} (f : α → List Value) (zx : α) (size bytes : Nat) (hs : 0 < size) (hf : ∀ x, (f x).length = size) (h1 : ∀ x, One (f x)) (hgd : o.guard = none) (l c : Operand) (t e : TypeId) (ho : o.op = .makeSlice t l c) (ht : P.underlying t = some (.slice e))
    (i : TypeInfo) (z : Value) (hi : P.info? e = some i) (hz : i.zero = some z) (hsz : i.size = size) (hby : i.bytes = bytes) (hzc : z.cells = (f zx).toArray) (N : Int) (n : Nat) (hN : N = n) (hl : a.eval l = .int .i64 N) (hc : a.eval c = .int .i64 N) (hb : bytes * n ≤ 281474976710656) (hn : n ≤ maxLen) (hm : Mem w0 w L)
    (h : ∀ g w', Mem w0 w' (Own size (.slice (some ⟨g, 0, none⟩) n n) ((List.replicate n zx).flatMap f) :: L) → wpList P ops Q rest (a.put o.dst (.slice (some ⟨g, 0, none⟩) n n)) w') : wpList P ops Q (o :: rest) a w :=
  wpList_plain hgd fun K hK => by
    subst hN; subst hsz; subst hby
    have hb' : (i.bytes : Int) * (n : Int) ≤ 281474976710656 := by
      have h : ((i.bytes * n : Nat) : Int) ≤ 281474976710656 := by omega
      rwa [Int.natCast_mul] at h
    have hr := run_make (P := P) w t e i z ht hi hz .i64 .i64 n n (by omega) (Int.le_refl _) hb' (by simp [maxLen] at hn; omega)
    simp only [Int.toNat_natCast] at hr
    unfold Oper.wp execOp
    simp only [ho, hl, hc, Sem.run_bind, hr, Result.andThen_ok, Sem.run_pure]
    refine hK _ _ (h w.heap.size _ (hm.new ⟨(Gr.refl w).alloc _, ?_, fun k hk => ?_⟩))
    · refine ⟨_, _, _, rfl, by rw [flatMap_length f i.size hf]; simp, Nat.le_refl _, hn, One.flatMap h1 _, .inr ⟨w.heap.size, 0, e, _, rfl, heap_alloc_new w _, by rw [size_madeCells]; omega, ?_⟩⟩
      rw [hzc, madeCells_flat f zx i.size hs hf, List.drop_zero, List.take_of_length_le (by rw [flatMap_length f i.size hf]; simp)]
    · obtain ⟨_, _, _, e, _⟩ := hk
      cases e
      simp
theorem splice_cells {cur xs us : List Value} {off m j : Nat} (h : (cur.drop off).take m = xs) (hl : xs.length = m) (hj : j + us.length ≤ m) (hoff : off ≤ cur.length) :
    ((cur.take (off + j) ++ us ++ cur.drop (off + j + us.length)).drop off).take m = xs.take j ++ us ++ xs.drop (j + us.length) := by
  have hB : cur.drop off = xs ++ (cur.drop off).drop m := by rw [← h, List.take_append_drop]
  have hcur : cur = cur.take off ++ (xs ++ (cur.drop off).drop m) := by rw [← hB, List.take_append_drop]
  generalize (cur.drop off).drop m = C at hB hcur
  generalize hA : cur.take off = A at hcur
  have hAl : A.length = off := by rw [← hA, List.length_take, Nat.min_eq_left hoff]
  clear hA hB h
  subst hcur; subst hAl; subst hl
  have e1 : (A ++ (xs ++ C)).take (A.length + j) = A ++ xs.take j := by
    rw [List.take_append, List.take_of_length_le (by omega), Nat.add_sub_cancel_left, List.take_append_of_le_length (by omega)]
  have e2 : (A ++ (xs ++ C)).drop (A.length + j + us.length) = xs.drop (j + us.length) ++ C := by
    rw [List.drop_append, List.drop_eq_nil_of_le (by omega), List.nil_append, show A.length + j + us.length - A.length = j + us.length by omega, List.drop_append_of_le_length (by omega)]
  rw [e1, e2]
  have e3 : A ++ xs.take j ++ us ++ (xs.drop (j + us.length) ++ C) = A ++ ((xs.take j ++ us ++ xs.drop (j + us.length)) ++ C) := by simp
  rw [e3, List.drop_left, List.take_append_of_le_length (by simp; omega), List.take_of_length_le (by simp; omega)]
/-- A row of cells stored into a slice of one's own, the first chunk. -/
theorem Mem.own_row {size g off n c : Nat} {xs : List Value} (hm : Mem w0 w (Own size (.slice (some ⟨g, off, none⟩) n c) xs :: L)) (j : Nat) (us : List Value) (hj : j + us.length ≤ xs.length) (h1 : One us) :
    ∃ w', (storeCells ⟨g, off + j, none⟩ us 0).run P w = .ok () w' ∧ Mem w0 w' (Own size (.slice (some ⟨g, off, none⟩) n c) (xs.take j ++ us ++ xs.drop (j + us.length)) :: L) := by
  have hown := hm.ok _ m0
  obtain ⟨_, _, _, e, hxl, hnc, hcm, hox, h4⟩ := hown
  cases e
  by_cases hc0 : c = 0
  · obtain rfl : n = 0 := by omega
    obtain rfl : xs = [] := List.eq_nil_of_length_eq_zero (by simpa using hxl)
    obtain rfl : us = [] := List.eq_nil_of_length_eq_zero (by simp only [List.length_nil] at hj; omega)
    exact ⟨w, by simp [storeCells], by simpa using hm⟩
  rcases h4 with h4 | ⟨g', off', t, cur, e, hg, h5, h6⟩
  · exact (hc0 h4).elim
  cases e
  have hle : n * size ≤ c * size := Nat.mul_le_mul_right _ hnc
  have hst := run_storeCells_at P g (off + j) t us 0 cur w hg (by omega) h1
  simp only [Nat.add_zero] at hst
  refine ⟨_, hst, hm.upd ⟨rfl, rfl, rfl, by simp, fun k _ hk => setRow_other w g k _ (fun e => hk ⟨off, n, c, by rw [e], hc0⟩)⟩ ?_ (fun k hk => .inl hk)⟩
  refine ⟨_, _, _, rfl, by simp; omega, hnc, hcm, ((hox.take j).append h1).append (hox.drop _), .inr ⟨g, off, t, _, rfl, setRow_heap w g cur _ t _ hg, ?_, ?_⟩⟩
  · simp only [List.size_toArray, List.length_append, List.length_take, List.length_drop, Array.length_toList]
    omega
  · exact splice_cells h6 hxl (by omega) (by simp; omega)
/-- A whole struct stored over element k of a slice of one's own, the first chunk. -/
theorem wp_ownrow {size g off n c : Nat} {xs : List Value} (hgd : o.guard = none) (ty : TypeId) (p x : Operand) (ho : o.op = .store ty p x) (q j : Nat) (hq : q = off + j) (hp : a.eval p = .pointer (some ⟨g, q, none⟩)) (us : List Value) (hx : a.eval x = .agg us.toArray)
    (hm : Mem w0 w (Own size (.slice (some ⟨g, off, none⟩) n c) xs :: L)) (hi : (P.info? ty).map (·.size) = some us.length) (hj : j + us.length ≤ xs.length) (h1 : One us)
    (h : ∀ w', Mem w0 w' (Own size (.slice (some ⟨g, off, none⟩) n c) (xs.take j ++ us ++ xs.drop (j + us.length)) :: L) → wpList P ops Q rest (a.put o.dst undef) w') : wpList P ops Q (o :: rest) a w :=
  wpList_plain hgd fun K hK => by
    subst hq
    obtain ⟨inf, hi1, hi2⟩ : ∃ inf, P.info? ty = some inf ∧ inf.size = us.length := by
      cases h : P.info? ty with
      | none => rw [h] at hi; simp at hi
      | some inf => rw [h] at hi; exact ⟨inf, rfl, by simpa using hi⟩
    obtain ⟨w', hst, hm'⟩ := hm.own_row (P := P) j us hj h1
    unfold Oper.wp execOp
    simp only [ho, hp, hx]
    simp [Instr.storeAt, Instr.sureAddr, storeVar, sizeOf, typeInfo, hi1, hi2, Value.cells, hst]
    exact hK _ _ (h _ hm')
/-- copy into a slice of one's own, the first chunk, of what is no longer. -/
theorem wp_copy_own {size g off D cap : Nat} {cs : List Value} (hgd : o.guard = none) (d s : Operand) (dT sT : TypeId) (ho : o.op = .call { callee := .builtin .copy, args := #[d, s], argTypes := #[dT, sT] })
    (elem : TypeId) (hu : P.underlying dT = some (.slice elem)) (hsz : (P.info? elem).map (·.size) = some size) (hd : a.eval d = .slice (some ⟨g, off, none⟩) D cap)
    (A : Option Addr) (m c : Nat) (ys : List Value) (hs : a.eval s = .slice A m c) (hr : RdC w size (.slice A m c) ys) (hm : Mem w0 w (Own size (.slice (some ⟨g, off, none⟩) D cap) cs :: L)) (hfit : m ≤ D)
    (h : ∀ w', Mem w0 w' (Own size (.slice (some ⟨g, off, none⟩) D cap) (ys ++ cs.drop (m * size)) :: L) → wpList P ops Q rest (a.put o.dst (.int .i64 (m : Int))) w') : wpList P ops Q (o :: rest) a w :=
  wpList_plain hgd fun K hK => by
    obtain ⟨inf, hi1, hi2⟩ : ∃ inf, P.info? elem = some inf ∧ inf.size = size := by
      cases h : P.info? elem with
      | none => rw [h] at hsz; simp at hsz
      | some inf => rw [h] at hsz; exact ⟨inf, rfl, by simpa using hsz⟩
    obtain ⟨_, _, _, e, hl, _, _, h1, hrr⟩ := hr
    cases e
    have hcl := OwnAt.len (hm.ok _ m0)
    have hle2 : m * size ≤ D * size := Nat.mul_le_mul_right _ hfit
    have hf := run_first (P := P) w size m A m c ys hl hrr
    obtain ⟨w', hst, hm'⟩ := hm.own_row (P := P) 0 ys (by omega) h1
    unfold Oper.wp execOp
    simp only [ho, resolve, invoke, builtin, Sem.run_bind, Sem.run_pure, Result.andThen_ok, List.map_toArray, List.map_cons, List.map_nil, hd, hs]
    have hmin : Nat.min m D = m := Nat.min_eq_left hfit
    simp only [Nat.add_zero] at hst
    simp [Builtin.copy_, run_underlying hu, Builtin.lenOf, sizeOf, typeInfo, hi1, hi2, hmin, hf, hst, goInt]
    have := h w' (by simpa [hl] using hm')
    refine hK _ _ ?_
    simpa using this
/-- append(v, news..) onto a full slice of whomever: memory of its own. -/
theorem run_fresh (t ty e : TypeId) (i : TypeInfo) (z : Value) (size bytes : Nat) (ht : P.underlying t = some (.slice e)) (hi : P.info? e = some i) (hz : i.zero = some z)
    (hsize : i.size = size) (hby : i.bytes = bytes) (hzs : z.cells.size = size)
    (b : Option Addr) (n c : Nat) (xs : List Value) (hown : RdC w size (.slice b n c) xs)
    (ad : Option Addr) (m d : Nat) (news : List Value) (hnews : RdC w size (.slice ad m d) news)
    (h63 : n + m ≤ maxLen) (hbytes : (n + m) * bytes ≤ 140737488355328) (hfull : c < n + m) :
    ∃ b' c' w', (Builtin.append_ #[t, t] ty #[.slice b n c, .slice ad m d]).run P w = .ok (.slice b' (n + m) c') w' ∧ New w w' (Own size (.slice b' (n + m) c') (xs ++ news)) := by
  subst hsize
  subst hby
  obtain ⟨_, _, _, e1, hxl, hnc, hcm, hox, hrx⟩ := hown
  cases e1
  obtain ⟨_, _, _, e2, hl, _, _, h1, hrn⟩ := hnews
  cases e2
  have hsmall : n + m ≤ 9223372036854775807 := by simp only [maxLen] at h63; omega
  have hlen : (xs ++ news).length = (n + m) * i.size := by rw [List.length_append, hxl, hl, Nat.add_mul]
  have hr := run_app_grow (P := P) w t ty e i z ht hi hz b n c xs hxl hrx ad m d news hl hrn (by omega) (by omega) (growslice_fits (by omega) hbytes)
  have hge := grownCap_ge w (n + m) c e
  have hcm' : grownCap w (n + m) c e ≤ maxLen := grownCap_le_maxLen w (n + m) c e h63
  refine ⟨_, _, _, hr, ⟨((Gr.refl w).drew).alloc _, ⟨_, _, _, rfl, hlen, hge, hcm', hox.append h1, .inr ⟨w.heap.size, 0, e, _, rfl, heap_alloc_new w.drew _, ?_, ?_⟩⟩, fun k hk => ?_⟩⟩
  · simp only [Array.size_append, List.size_toArray, size_zeroCells, hzs, hxl, hl, ← Nat.add_mul]
    rw [Nat.zero_add]
    exact Nat.mul_le_mul_right _ (by omega)
  · simp only [Array.toList_append, List.append_assoc, List.drop_zero]
    rw [← List.append_assoc, ← hlen]
    exact List.take_left
  · obtain ⟨o', n', c', e', hc'⟩ := hk
    cases e'
    simp
theorem wp_fresh (hgd : Region.wanted o (yielded ops a.tmps) = true) (s x : Operand) (t : TypeId)
    (ho : o.op = .call { callee := .builtin .append, args := #[s, x], argTypes := #[t, t] })
    (e : TypeId) (i : TypeInfo) (z : Value) (size bytes : Nat) (ht : P.underlying t = some (.slice e)) (hi : P.info? e = some i) (hz : i.zero = some z)
    (hsize : i.size = size) (hby : i.bytes = bytes) (hzs : z.cells.size = size)
    (b : Option Addr) (n c : Nat) (xs : List Value) (hs : a.eval s = .slice b n c) (hown : RdC w size (.slice b n c) xs) (hm : Mem w0 w L)
    (ad : Option Addr) (m d : Nat) (news : List Value) (hx : a.eval x = .slice ad m d) (hnews : RdC w size (.slice ad m d) news)
    (h63 : n + m ≤ maxLen) (hbytes : (n + m) * bytes ≤ 140737488355328) (hfull : c < n + m)
    (h : ∀ b' c' w', Mem w0 w' (Own size (.slice b' (n + m) c') (xs ++ news) :: L) → wpList P ops Q rest (a.put o.dst (.slice b' (n + m) c')) w') : wpList P ops Q (o :: rest) a w :=
  wpList_want hgd fun K hK => by
    obtain ⟨b', c', w', hr, hn⟩ := run_fresh (P := P) (w := w) t o.type e i z size bytes ht hi hz hsize hby hzs b n c xs hown ad m d news hnews h63 hbytes hfull
    unfold Oper.wp execOp
    simp only [ho, resolve, invoke, builtin, Sem.run_bind, Sem.run_pure, Result.andThen_ok, List.map_toArray, List.map_cons, List.map_nil, hs, hx, hr]
    exact hK _ _ (h b' c' w' (hm.new hn))
theorem step_fresh {K : Act → World → Prop} {E : Prop} (hgd : o.guard = none) (s x : Operand) (t : TypeId)
    (ho : o.op = .call { callee := .builtin .append, args := #[s, x], argTypes := #[t, t] })
    (e : TypeId) (i : TypeInfo) (z : Value) (size bytes : Nat) (ht : P.underlying t = some (.slice e)) (hi : P.info? e = some i) (hz : i.zero = some z)
    (hsize : i.size = size) (hby : i.bytes = bytes) (hzs : z.cells.size = size)
    (b : Option Addr) (n c : Nat) (xs : List Value) (hs : a.eval s = .slice b n c) (hown : RdC w size (.slice b n c) xs) (hm : Mem w0 w L)
    (ad : Option Addr) (m d : Nat) (news : List Value) (hx : a.eval x = .slice ad m d) (hnews : RdC w size (.slice ad m d) news)
    (h63 : n + m ≤ maxLen) (hbytes : (n + m) * bytes ≤ 140737488355328) (hfull : c < n + m)
    (h : ∀ b' c' w', Mem w0 w' (Own size (.slice b' (n + m) c') (xs ++ news) :: L) → K (a.put o.dst (.slice b' (n + m) c')) w') :
    if Region.wanted o (yielded ops a.tmps) = true then Oper.wp P o a w K Q else E := by
  have hw : Region.wanted o (yielded ops a.tmps) = true := by simp [Region.wanted, hgd]
  rw [if_pos hw]
  obtain ⟨b', c', w', hr, hn⟩ := run_fresh (P := P) (w := w) t o.type e i z size bytes ht hi hz hsize hby hzs b n c xs hown ad m d news hnews h63 hbytes hfull
  unfold Oper.wp execOp
  simp only [ho, resolve, invoke, builtin, Sem.run_bind, Sem.run_pure, Result.andThen_ok, List.map_toArray, List.map_cons, List.map_nil, hs, hx, hr]
  exact h b' c' w' (hm.new hn)
end
theorem RdC.recap {w : World} {size : Nat} {A : Option Addr} {n c : Nat} {xs : List Value} (h : RdC w size (.slice A n c) xs) (c' : Nat) (h1 : n ≤ c') (h2 : c' ≤ maxLen) : RdC w size (.slice A n c') xs := by
  obtain ⟨_, _, _, e, hl, _, _, ho, hr⟩ := h
  cases e
  exact ⟨_, _, _, rfl, hl, h1, h2, ho, hr⟩
theorem RdC.none0 {w : World} {size : Nat} {n c : Nat} {xs : List Value} (hs : 0 < size) (h : RdC w size (.slice none n c) xs) : n = 0 := by
  obtain ⟨_, _, _, e, hl, _, _, ho, hr⟩ := h
  cases e
  cases xs with
  | nil =>
    have : n * size = 0 := by simpa using hl.symm
    rcases Nat.mul_eq_zero.1 this with h | h
    · exact h
    · omega
  | cons u us => obtain ⟨ad, e, _⟩ := hr 0 u rfl; cases e
end Go.Mm
