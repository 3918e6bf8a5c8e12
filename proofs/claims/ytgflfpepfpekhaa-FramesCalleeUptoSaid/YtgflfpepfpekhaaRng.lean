/- Own laws of structs read and stored whole. No program in sight. -/
import Derived.Test.YtgflfpepfpekhaaArr
import Derived.Test.YtgflfpepfpekhaaOpen
import Derived.Deep.MidRow
namespace Go.Mm
open Go.RowKit
section
variable {P : Program} {ops : Array Oper} {rest : List Oper} {o : Oper} {a : Act} {Q : Exit → Act → World → Prop} {w0 w : World} {L : List Chunk}
/-- A whole struct or array read, its cells known one by one. -/
theorem wp_rng (hgd : Region.wanted o (yielded ops a.tmps) = true) (ty : TypeId) (x : Operand) (ho : o.op = .load ty x) (b q : Nat) (hx : a.eval x = .pointer (some ⟨b, q, none⟩)) (cs : List Value)
    (hc : w.rangeAt b q cs) (hd : (P.underlying ty).map (·.isRow) = some true) (hi : (P.info? ty).map (·.size) = some cs.length)
    (h : wpList P ops Q rest (a.put o.dst (.agg cs.toArray)) w) : wpList P ops Q (o :: rest) a w := by
  obtain ⟨d, hu, hr⟩ : ∃ d, P.underlying ty = some d ∧ d.isRow = true := by
    cases e : P.underlying ty with
    | none => rw [e] at hd; simp at hd
    | some d => rw [e] at hd; exact ⟨d, rfl, by simpa using hd⟩
  exact wpList_want hgd fun K hK => wp_load_mid ty x ho b q hx cs d hc hu hr hi (hK _ _ h)
theorem rng_gr {w w' : World} {b q : Nat} {cs : List Value} (h : w.rangeAt b q cs) (hg : Gr w w') : w'.rangeAt b q cs := fun j v hv => hg.cell (h j v hv)
theorem rng_blk {w0 w : World} {L : List Chunk} (h : Mem w0 w L) {g : Nat} {cs : List Value} {t : TypeId} {fr : Nat × Nat} (hm : Blk g (.cells cs.toArray t fr) ∈ L) : w.rangeAt g 0 cs := fun j v hv => by
  simpa using h.cell hm j hv
/-- Two blocks of one memory are two. -/
theorem Mem.ne {w0 w : World} {g g' : Nat} {o o' : Obj} {L : List Chunk} (h : Mem w0 w (Blk g o :: L)) (hm : Blk g' o' ∈ L) : g ≠ g' := fun e => (List.pairwise_cons.1 h.dis).1 _ hm g rfl e
/-- A store behind what is kept. -/
theorem Gr.setc {a b : World} (h : Gr a b) {g i : Nat} (hg : a.heap.size ≤ g) (u : Value) : Gr a (b.setCell ⟨g, i, none⟩ u) :=
  ⟨h.os, h.tape, h.output, by simpa [World.setCell] using h.size, fun k hk => by
    rw [← h.block k hk]
    exact Below.heap_setCell _ _ _ _ (by show k ≠ g; omega)⟩
theorem row_desc {ty : TypeId} (hd : (P.underlying ty).map (·.isRow) = some true) : ∃ d, P.underlying ty = some d ∧ d.isRow = true := by
  cases e : P.underlying ty with
  | none => rw [e] at hd; simp at hd
  | some d => rw [e] at hd; exact ⟨d, rfl, by simpa using hd⟩
/-- Results: a struct in a cell, alone and with others. -/
theorem res_cell {fn : Func} {p : Tmp} {ty : TypeId} (h : fn.results = #[.cell p ty]) (tmps : Array Value) (g : Nat) (t : TypeId) (cs : List Value) (fr : Nat × Nat)
    (hp : tmps.getD p undef = .pointer (some ⟨g, 0, none⟩)) (hm : Mem w0 w L) (hg : Blk g (.cells cs.toArray t fr) ∈ L) (hd : (P.underlying ty).map (·.isRow) = some true) (hi : (P.info? ty).map (·.size) = some cs.length) :
    (results fn tmps).run P w = .ok (.agg cs.toArray) w := by
  obtain ⟨d, hu, hr⟩ := row_desc hd
  have hp' : tmps[p]?.getD undef = .pointer (some ⟨g, 0, none⟩) := by simpa using hp
  have hv := run_loadVar_mid (P := P) w g 0 ty cs d (rng_blk hm hg) hu hr hi
  simp [results, h, hp', asAddr, hv]
theorem res_cell_tmp {fn : Func} {p q : Tmp} {ty : TypeId} (h : fn.results = #[.cell p ty, .tmp q]) (tmps : Array Value) (g : Nat) (t : TypeId) (cs : List Value) (fr : Nat × Nat)
    (hp : tmps.getD p undef = .pointer (some ⟨g, 0, none⟩)) (hm : Mem w0 w L) (hg : Blk g (.cells cs.toArray t fr) ∈ L) (hd : (P.underlying ty).map (·.isRow) = some true) (hi : (P.info? ty).map (·.size) = some cs.length) :
    (results fn tmps).run P w = .ok (.tuple #[.agg cs.toArray, tmps.getD q undef]) w := by
  obtain ⟨d, hu, hr⟩ := row_desc hd
  have hp' : tmps[p]?.getD undef = .pointer (some ⟨g, 0, none⟩) := by simpa using hp
  have hv := run_loadVar_mid (P := P) w g 0 ty cs d (rng_blk hm hg) hu hr hi
  simp [results, h, hp', asAddr, hv]
theorem res_cell_tmp2 {fn : Func} {p q r : Tmp} {ty : TypeId} (h : fn.results = #[.cell p ty, .tmp q, .tmp r]) (tmps : Array Value) (g : Nat) (t : TypeId) (cs : List Value) (fr : Nat × Nat)
    (hp : tmps.getD p undef = .pointer (some ⟨g, 0, none⟩)) (hm : Mem w0 w L) (hg : Blk g (.cells cs.toArray t fr) ∈ L) (hd : (P.underlying ty).map (·.isRow) = some true) (hi : (P.info? ty).map (·.size) = some cs.length) :
    (results fn tmps).run P w = .ok (.tuple #[.agg cs.toArray, tmps.getD q undef, tmps.getD r undef]) w := by
  obtain ⟨d, hu, hr⟩ := row_desc hd
  have hp' : tmps[p]?.getD undef = .pointer (some ⟨g, 0, none⟩) := by simpa using hp
  have hv := run_loadVar_mid (P := P) w g 0 ty cs d (rng_blk hm hg) hu hr hi
  simp [results, h, hp', asAddr, hv]
/-- The same memory, less of it. -/
theorem Mem.recut {w0 w : World} {L : List Chunk} {size n c : Nat} {A : Option Addr} {xs : List Value} (h : Mem w0 w (Own size (.slice A n c) xs :: L)) (k c' : Nat) (hk : k ≤ n) (hk' : k ≤ c') (hc' : c' ≤ c) :
    Mem w0 w (Own size (.slice A k c') (xs.take (k * size)) :: L) := by
  refine h.upd ⟨rfl, rfl, rfl, Nat.le_refl _, fun _ _ _ => rfl⟩ ?_ ?_
  · obtain ⟨_, _, _, e, h1, h2, h3, ho, h4⟩ := h.ok _ m0
    cases e
    have hle : k * size ≤ n * size := Nat.mul_le_mul_right _ hk
    refine ⟨A, k, c', rfl, by rw [List.length_take]; omega, hk', by omega, ho.take _, ?_⟩
    rcases h4 with h4 | ⟨g, off, t, cur, rfl, hg, h5, h6⟩
    · left; omega
    · right
      refine ⟨g, off, t, cur, rfl, hg, by have := Nat.mul_le_mul_right size hc'; omega, ?_⟩
      rw [← h6, List.take_take, Nat.min_eq_left hle]
  · rintro j ⟨off, n', c1, e, hc⟩
    cases e
    exact .inl ⟨off, n, c, rfl, by omega⟩
/-- What lies behind the first k elements. -/
theorem RdC.behind {w : World} {size : Nat} {b o n c : Nat} {cs : List Value} (h : RdC w size (.slice (some ⟨b, o, none⟩) n c) cs) (k : Nat) (hk : k ≤ n) :
    RdC w size (.slice (some ⟨b, o + k * size, none⟩) (n - k) (c - k)) (cs.drop (k * size)) := by
  obtain ⟨_, _, _, e, h1, h2, h3, ho, h4⟩ := h
  cases e
  refine ⟨_, _, _, rfl, by rw [List.length_drop, h1, Nat.sub_mul], by omega, by omega, ho.drop _, fun j u hj => ?_⟩
  rw [List.getElem?_drop] at hj
  obtain ⟨ad, e, hc⟩ := h4 _ u hj
  cases e
  refine ⟨_, rfl, ?_⟩
  rw [add_lit] at hc ⊢
  rwa [Nat.add_assoc]
theorem RdC.empty (w : World) (size : Nat) (A : Option Addr) (c : Nat) (hc : c ≤ maxLen) : RdC w size (.slice A 0 c) [] := ⟨A, 0, c, rfl, by simp, by omega, hc, One.nil, by simp⟩
theorem Mem.back2 {w0 w : World} {a b c : Chunk} {L : List Chunk} (h : Mem w0 w (a :: b :: c :: L)) : Mem w0 w (b :: c :: a :: L) := h.perm ((List.Perm.swap b a (c :: L)).trans ((List.Perm.swap c a L).cons b))
theorem Mem.pull2 {w0 w : World} {a b c : Chunk} {L : List Chunk} (h : Mem w0 w (a :: b :: c :: L)) : Mem w0 w (c :: a :: b :: L) := h.perm (((List.Perm.swap c b L).cons a).trans (List.Perm.swap c a (b :: L)))
theorem Mem.pull3 {w0 w : World} {a b c d : Chunk} {L : List Chunk} (h : Mem w0 w (a :: b :: c :: d :: L)) : Mem w0 w (d :: a :: b :: c :: L) :=
  h.perm ((((List.Perm.swap d c L).cons b).cons a).trans (((List.Perm.swap d b (c :: L)).cons a).trans (List.Perm.swap d a (b :: c :: L))))
theorem Mem.pull4 {w0 w : World} {a b c d e : Chunk} {L : List Chunk} (h : Mem w0 w (a :: b :: c :: d :: e :: L)) : Mem w0 w (e :: a :: b :: c :: d :: L) :=
  h.perm (((((List.Perm.swap e d L).cons c).cons b).cons a).trans ((((List.Perm.swap e c (d :: L)).cons b).cons a).trans (((List.Perm.swap e b (c :: d :: L)).cons a).trans (List.Perm.swap e a (b :: c :: d :: L)))))
/-- append(v, news..) onto a slice of one's own, the first chunk: an operation that is wanted. -/
theorem wp_appw (hgd : Region.wanted o (yielded ops a.tmps) = true) (s x : Operand) (t : TypeId)
    (ho : o.op = .call { callee := .builtin .append, args := #[s, x], argTypes := #[t, t] })
    (e : TypeId) (i : TypeInfo) (z : Value) (size bytes : Nat) (ht : P.underlying t = some (.slice e)) (hi : P.info? e = some i) (hz : i.zero = some z)
    (hsize : i.size = size) (hby : i.bytes = bytes) (hzs : z.cells.size = size)
    (b : Option Addr) (n c : Nat) (xs : List Value) (hs : a.eval s = .slice b n c) (hm : Mem w0 w (Own size (.slice b n c) xs :: L))
    (ad : Option Addr) (m d : Nat) (news : List Value) (hx : a.eval x = .slice ad m d) (hnews : RdC w size (.slice ad m d) news)
    (h63 : n + m ≤ maxLen) (hbytes : (n + m) * bytes ≤ 140737488355328)
    (h : ∀ b' c' w', Mem w0 w' (Own size (.slice b' (n + m) c') (xs ++ news) :: L) → wpList P ops Q rest (a.put o.dst (.slice b' (n + m) c')) w') : wpList P ops Q (o :: rest) a w :=
  wpList_want hgd fun K hK => by
    obtain ⟨b', c', w', hr, h2, h3, h4⟩ := run_app (P := P) w t o.type e i z size bytes ht hi hz hsize hby hzs b n c xs (hm.ok _ (List.mem_cons_self ..)) ad m d news hnews h63 hbytes
    unfold Oper.wp execOp
    simp only [ho, resolve, invoke, builtin, Sem.run_bind, Sem.run_pure, Result.andThen_ok, List.map_toArray, List.map_cons, List.map_nil, hs, hx, hr]
    exact hK _ _ (h b' c' w' (hm.upd h3 h2 h4))
end
end Go.Mm
