/- Own laws: append that tells where its memory lies; a slice that has grown and the one that it has grown from. No program in sight. -/
import Derived.Test.YtgflfpepfpekhaaMk
namespace Go.Mm
open Go.RowKit
theorem run_app2 {P : Program} (w : World) (t ty e : TypeId) (i : TypeInfo) (z : Value) (size bytes : Nat) (ht : P.underlying t = some (.slice e)) (hi : P.info? e = some i) (hz : i.zero = some z)
    (hsize : i.size = size) (hby : i.bytes = bytes) (hzs : z.cells.size = size)
    (b : Option Addr) (n c : Nat) (xs : List Value) (hown : OwnAt size (.slice b n c) xs w)
    (a : Option Addr) (m d : Nat) (news : List Value) (hnews : RdC w size (.slice a m d) news)
    (h63 : n + m ≤ maxLen) (hbytes : (n + m) * bytes ≤ 140737488355328) :
    ∃ b' c' w', (Builtin.append_ #[t, t] ty #[.slice b n c, .slice a m d]).run P w = .ok (.slice b' (n + m) c') w' ∧ OwnAt size (.slice b' (n + m) c') (xs ++ news) w' ∧
      Upd (sfoot (.slice b n c)) w w' ∧ ((b' = b ∧ c' = c) ∨ (Gr w w' ∧ ∀ k, sfoot (.slice b' (n + m) c') k → w.heap.size ≤ k ∧ k < w'.heap.size)) := by
  by_cases hroom : n + m ≤ c
  · subst hsize
    subst hby
    have hrd := hown.rd
    obtain ⟨_, _, _, e1, hxl, hnc, hcm, hox, hrx⟩ := hrd
    cases e1
    obtain ⟨_, _, _, e2, hl, _, _, h1, hrn⟩ := hnews
    cases e2
    have hlen : (xs ++ news).length = (n + m) * i.size := by rw [List.length_append, hxl, hl, Nat.add_mul]
    obtain ⟨_, _, _, e3, _, _, _, _, h4⟩ := hown
    cases e3
    by_cases hc0 : c = 0
    · obtain rfl : n = 0 := by omega
      obtain rfl : m = 0 := by omega
      subst hc0
      have hx0 : xs = [] := List.eq_nil_of_length_eq_zero (by simpa using hxl)
      have hn0 : news = [] := List.eq_nil_of_length_eq_zero (by simpa using hl)
      subst hx0
      subst hn0
      refine ⟨b, 0, w, ?_, ⟨b, 0, 0, rfl, by simp, Nat.le_refl _, by simp [maxLen], One.nil, .inl rfl⟩, ⟨rfl, rfl, rfl, Nat.le_refl _, fun _ _ _ => rfl⟩, .inl ⟨rfl, rfl⟩⟩
      have hf := run_first (P := P) w i.size 0 a 0 d [] (by simp) (by simp)
      cases b <;> simp [Builtin.append_, run_underlying ht, sizeOf, typeInfo, hi, Builtin.lenOf, hf, storeCells]
    · rcases h4 with h4 | ⟨g, off, tt, cur, rfl, hg, h5, h6⟩
      · exact (hc0 h4).elim
      have hf := run_first (P := P) w i.size m a m d news hl hrn
      have hle : n * i.size + news.length ≤ c * i.size := by rw [hl, ← Nat.add_mul]; exact Nat.mul_le_mul_right _ hroom
      have hst := run_storeCells_at P g (off + n * i.size) tt news 0 cur w hg (by omega) h1
      simp only [Nat.add_zero] at hst
      generalize hcur : (cur.toList.take (off + n * i.size) ++ news ++ cur.toList.drop (off + n * i.size + news.length)).toArray = cur' at hst
      refine ⟨some ⟨g, off, none⟩, c, w.setRow g cur', ?_, ⟨_, _, _, rfl, hlen, hroom, hcm, hox.append h1, .inr ⟨g, off, tt, cur', rfl, setRow_heap w g cur cur' tt _ hg, ?_, ?_⟩⟩,
        ⟨rfl, rfl, rfl, by simp, fun k _ hk => setRow_other w g k cur' (fun e => hk ⟨off, n, c, by rw [e], hc0⟩)⟩, .inl ⟨rfl, rfl⟩⟩
      · simp [Builtin.append_, run_underlying ht, sizeOf, typeInfo, hi, Builtin.lenOf, hroom, hf, add_lit, hst]
      · subst hcur
        simp only [List.size_toArray, List.length_append, List.length_take, List.length_drop, Array.length_toList]
        omega
      · have hlx : xs.length = n * i.size := hxl
        rw [hlen.symm]
        subst hcur
        have hpre : (cur.toList.take (off + n * i.size)).drop off = xs := by
          rw [← h6, List.drop_take]
          congr 1
          omega
        rw [List.append_assoc, List.drop_append_of_le_length (by simp; omega), hpre, ← List.append_assoc]
        exact List.take_left
  · obtain ⟨b', c', w', hr, hn⟩ := run_fresh (P := P) (w := w) t ty e i z size bytes ht hi hz hsize hby hzs b n c xs hown.rd a m d news hnews h63 hbytes (by omega)
    exact ⟨b', c', w', hr, hn.ok, ⟨hn.gr.os, hn.gr.tape, hn.gr.output, hn.gr.size, fun k hk _ => hn.gr.block k hk⟩, .inr ⟨hn.gr, hn.rng⟩⟩
theorem OwnAt.short {size : Nat} {A : Option Addr} {n c : Nat} {xs : List Value} {w : World} (h : OwnAt size (.slice A n c) xs w) (k c' : Nat) (hk : k ≤ n) (hk' : k ≤ c') (hc' : c' ≤ c) : OwnAt size (.slice A k c') (xs.take (k * size)) w := by
  obtain ⟨_, _, _, e, h1, h2, h3, ho, h4⟩ := h
  cases e
  have hle : k * size ≤ n * size := Nat.mul_le_mul_right _ hk
  refine ⟨A, k, c', rfl, by rw [List.length_take]; omega, hk', by omega, ho.take _, ?_⟩
  rcases h4 with h4 | ⟨g, off, t, cur, rfl, hg, h5, h6⟩
  · left; omega
  · right
    refine ⟨g, off, t, cur, rfl, hg, by have := Nat.mul_le_mul_right size hc'; omega, ?_⟩
    rw [← h6, List.take_take, Nat.min_eq_left hle]
/-- A slice v of one's own that has grown from v0, which reads as it did. -/
def ExtAt (size : Nat) (v : Value) (xs : List Value) (v0 : Value) (xs0 : List Value) (w : World) : Prop :=
  OwnAt size v xs w ∧ ((∃ A n c n0 c0, v = .slice A n c ∧ v0 = .slice A n0 c0 ∧ n0 ≤ n ∧ n0 ≤ c0 ∧ c0 ≤ c ∧ xs0 = xs.take (n0 * size)) ∨ (OwnAt size v0 xs0 w ∧ ∀ k, sfoot v k → ¬ sfoot v0 k))
def Ext (size : Nat) (v : Value) (xs : List Value) (v0 : Value) (xs0 : List Value) : Chunk :=
  ⟨fun k => sfoot v k ∨ sfoot v0 k, ExtAt size v xs v0 xs0, fun w w' h hw => ⟨(Own size v xs).loc w w' (fun k hk => h k (.inl hk)) hw.1, hw.2.imp id fun h2 => ⟨(Own size v0 xs0).loc w w' (fun k hk => h k (.inr hk)) h2.1, h2.2⟩⟩⟩
theorem ExtAt.rd0 {size : Nat} {v : Value} {xs : List Value} {v0 : Value} {xs0 : List Value} {w : World} (h : ExtAt size v xs v0 xs0 w) : RdC w size v0 xs0 := by
  obtain ⟨h1, ⟨A, n, c, n0, c0, rfl, rfl, h2, h3, h4, rfl⟩ | ⟨h2, _⟩⟩ := h
  · exact (h1.short n0 c0 h2 h3 h4).rd
  · exact h2.rd
theorem OwnAt.ext {size : Nat} {v : Value} {xs : List Value} {w : World} (h : OwnAt size v xs w) : ExtAt size v xs v xs w := by
  have h' := h
  obtain ⟨A, n, c, rfl, h1, h2, _⟩ := h
  exact ⟨h', .inl ⟨A, n, c, n, c, rfl, rfl, Nat.le_refl _, h2, Nat.le_refl _, by rw [List.take_of_length_le (by omega)]⟩⟩
theorem Mem.ext {w0 w : World} {size : Nat} {v : Value} {xs : List Value} {L : List Chunk} (h : Mem w0 w (Own size v xs :: L)) : Mem w0 w (Ext size v xs v xs :: L) :=
  h.upd ⟨rfl, rfl, rfl, Nat.le_refl _, fun _ _ _ => rfl⟩ (h.ok _ m0).ext (fun _ hk => .inl (hk.elim id id))
section
variable {P : Program} {ops : Array Oper} {rest : List Oper} {o : Oper} {a : Act} {Q : Exit → Act → World → Prop} {w0 w : World} {L : List Chunk}
/-- append onto a slice that has grown. -/
theorem wp_appe (hgd : o.guard = none) (s x : Operand) (t : TypeId)
    (ho : o.op = .call { callee := .builtin .append, args := #[s, x], argTypes := #[t, t] })
    (e : TypeId) (i : TypeInfo) (z : Value) (size bytes : Nat) (ht : P.underlying t = some (.slice e)) (hi : P.info? e = some i) (hz : i.zero = some z)
    (hsize : i.size = size) (hby : i.bytes = bytes) (hzs : z.cells.size = size)
    (b : Option Addr) (n c : Nat) (xs : List Value) (v0 : Value) (xs0 : List Value) (hs : a.eval s = .slice b n c) (hm : Mem w0 w (Ext size (.slice b n c) xs v0 xs0 :: L))
    (ad : Option Addr) (m d : Nat) (news : List Value) (hx : a.eval x = .slice ad m d) (hnews : RdC w size (.slice ad m d) news)
    (h63 : n + m ≤ maxLen) (hbytes : (n + m) * bytes ≤ 140737488355328)
    (h : ∀ b' c' w', Mem w0 w' (Ext size (.slice b' (n + m) c') (xs ++ news) v0 xs0 :: L) → wpList P ops Q rest (a.put o.dst (.slice b' (n + m) c')) w') : wpList P ops Q (o :: rest) a w :=
  wpList_plain hgd fun K hK => by
    have hext := hm.ok _ m0
    have hrng := hm.rng _ m0
    obtain ⟨hown, hrel⟩ := hext
    obtain ⟨b', c', w', hr, h2, h3, h4⟩ := run_app2 (P := P) w t o.type e i z size bytes ht hi hz hsize hby hzs b n c xs hown ad m d news hnews h63 hbytes
    unfold Oper.wp execOp
    simp only [ho, resolve, invoke, builtin, Sem.run_bind, Sem.run_pure, Result.andThen_ok, List.map_toArray, List.map_cons, List.map_nil, hs, hx, hr]
    refine hK _ _ (h b' c' w' (hm.upd ⟨h3.os, h3.tape, h3.output, h3.size, fun k hk hn => h3.block k hk fun hf => hn (.inl hf)⟩ ⟨h2, ?_⟩ ?_))
    · rcases h4 with ⟨rfl, rfl⟩ | ⟨hg, hf⟩
      · rcases hrel with ⟨A, n1, c1, n0, c0, e1, rfl, k1, k2, k3, rfl⟩ | ⟨k1, k2⟩
        · cases e1
          refine .inl ⟨_, _, _, n0, c0, rfl, rfl, by omega, k2, k3, ?_⟩
          rw [List.take_append_of_le_length]
          rw [hown.len]
          exact Nat.mul_le_mul_right _ k1
        · refine .inr ⟨(Own size v0 xs0).loc w w' (fun k hk => h3.block k (hrng k (.inr hk)).2 fun hk' => k2 k hk' hk) k1, fun k hk hk' => k2 k ?_ hk'⟩
          obtain ⟨o', n', c2, e2, hc2⟩ := hk
          cases e2
          exact ⟨o', n, _, rfl, hc2⟩
      · refine .inr ⟨?_, fun k hk hk' => ?_⟩
        · rcases hrel with ⟨A, n1, c1, n0, c0, e1, rfl, k1, k2, k3, rfl⟩ | ⟨k1, k2⟩
          · cases e1
            exact (Own size (.slice b n0 c0) _).loc w w' (fun k hk => hg.block k (hrng k (.inr hk)).2) (hown.short n0 c0 k1 k2 k3)
          · exact (Own size v0 xs0).loc w w' (fun k hk => hg.block k (hrng k (.inr hk)).2) k1
        · have := (hf k hk).1
          have := (hrng k (.inr hk')).2
          omega
    · rintro k (hk | hk)
      · rcases h4 with ⟨rfl, rfl⟩ | ⟨hg, hf⟩
        · obtain ⟨o', n', c2, e2, hc2⟩ := hk
          cases e2
          exact .inl (.inl ⟨o', n, _, rfl, hc2⟩)
        · exact .inr (hf k hk)
      · exact .inl (.inr hk)
end
theorem Mem.blk_own {w0 w : World} {g n size : Nat} {cs : List Value} {t : TypeId} {L : List Chunk} (h : Mem w0 w (Blk g (.cells cs.toArray t) :: L)) (hl : cs.length = n * size) (hn : n ≤ maxLen) (ho : One cs) :
    Mem w0 w (Own size (.slice (some ⟨g, 0, none⟩) n n) cs :: L) := by
  have hb := h.blk m0
  refine h.upd ⟨rfl, rfl, rfl, Nat.le_refl _, fun _ _ _ => rfl⟩ ⟨_, _, _, rfl, hl, Nat.le_refl _, hn, ho, .inr ⟨g, 0, t, _, rfl, hb, by simp [hl], ?_⟩⟩ ?_
  · rw [List.drop_zero]; exact List.take_of_length_le (by simp [hl])
  · rintro k ⟨o, n', c, e, _⟩
    cases e
    exact .inl rfl
/-- No memory. -/
def nochunk : Chunk := ⟨fun _ => False, fun _ => True, fun _ _ _ h => h⟩
theorem getD_mem {L : List Chunk} {i : Nat} : L.getD i nochunk ∈ L ∨ L.getD i nochunk = nochunk := by
  rw [List.getD_eq_getElem?_getD]
  cases h : L[i]? with
  | none => exact .inr rfl
  | some c => exact .inl (List.mem_of_getElem? h)
/-- Some of the first n chunks, in this order; the others behind them. -/
theorem Mem.sel {w0 w : World} {L : List Chunk} (h : Mem w0 w L) (n : Nat) (is : List Nat) (hi : is.Nodup ∧ ∀ i, i ∈ is → i < n) : Mem w0 w (is.map (fun i => L.getD i nochunk) ++ L.drop n) := by
  have hmem : ∀ c, c ∈ is.map (fun i => L.getD i nochunk) ++ L.drop n → c ∈ L ∨ c = nochunk := fun c hc => by
    rcases List.mem_append.1 hc with hc | hc
    · obtain ⟨i, _, rfl⟩ := List.mem_map.1 hc
      exact getD_mem
    · exact .inl (List.mem_of_mem_drop hc)
  have hdis : ∀ i j, i ≠ j → ∀ k, (L.getD i nochunk).foot k → ¬ (L.getD j nochunk).foot k := fun i j hij k h1 h2 => by
    simp only [List.getD_eq_getElem?_getD] at h1 h2
    by_cases hi : i < L.length
    · by_cases hj : j < L.length
      · simp only [List.getElem?_eq_getElem hi, List.getElem?_eq_getElem hj, Option.getD_some] at h1 h2
        rcases Nat.lt_or_gt_of_ne hij with hlt | hlt
        · exact List.pairwise_iff_getElem.1 h.dis i j hi hj hlt k h1 h2
        · exact List.pairwise_iff_getElem.1 h.dis j i hj hi hlt k h2 h1
      · rw [List.getElem?_eq_none (by omega)] at h2; exact h2
    · rw [List.getElem?_eq_none (by omega)] at h1; exact h1
  refine ⟨h.below, fun c hc => ?_, fun c hc k hk => ?_, List.pairwise_append.2 ⟨List.pairwise_map.2 (hi.1.imp fun hij => hdis _ _ hij), h.dis.sublist (List.drop_sublist _ _), fun c hc d hd k h1 h2 => ?_⟩⟩
  · rcases hmem c hc with hc | rfl
    · exact h.ok c hc
    · exact trivial
  · rcases hmem c hc with hc | rfl
    · exact h.rng c hc k hk
    · exact hk.elim
  · obtain ⟨i, hi1, rfl⟩ := List.mem_map.1 hc
    obtain ⟨j, hj, rfl⟩ := List.getElem_of_mem hd
    rw [List.getElem_drop] at h2
    have hjl : n + j < L.length := by simp at hj; omega
    refine hdis i (n + j) (by have := hi.2 i hi1; omega) k h1 ?_
    simp only [List.getD_eq_getElem?_getD, List.getElem?_eq_getElem hjl, Option.getD_some]
    exact h2
theorem Mem.mid {w0 w : World} {A B : List Chunk} {c : Chunk} (h : Mem w0 w (A ++ c :: B)) : Mem w0 w (c :: (A ++ B)) := h.perm List.perm_middle
theorem Mem.unmid {w0 w : World} {A B : List Chunk} {c : Chunk} (h : Mem w0 w (c :: (A ++ B))) : Mem w0 w (A ++ c :: B) := h.perm List.perm_middle.symm
theorem Mem.mid2 {w0 w : World} {A B : List Chunk} {c d : Chunk} (h : Mem w0 w (A ++ c :: d :: B)) : Mem w0 w (d :: (A ++ c :: B)) := h.perm (((List.Perm.swap d c B).append_left A).trans List.perm_middle)
theorem Mem.unmid2 {w0 w : World} {A B : List Chunk} {c d : Chunk} (h : Mem w0 w (d :: (A ++ c :: B))) : Mem w0 w (A ++ c :: d :: B) := h.perm (List.perm_middle.symm.trans ((List.Perm.swap c d B).append_left A))
theorem getD_map {α β : Type} (f : α → β) (l : List α) (k : Nat) (d : α) (d' : β) (h : k < l.length) : (l.map f).getD k d' = f (l.getD k d) := by simp [h]
theorem getD_set {α : Type} (l : List α) (k j : Nat) (x d : α) (h : k < l.length) : (l.set k x).getD j d = if j = k then x else l.getD j d := by
  simp only [List.getD_eq_getElem?_getD, List.getElem?_set]
  by_cases e : k = j
  · subst e; simp [h]
  · rw [if_neg e, if_neg (fun e' => e e'.symm)]
theorem rd_pre {α : Type} {f : α → List Value} {size : Nat} (hf : ∀ x, (f x).length = size) {w : World} {A : Option Addr} {n m c : Nat} {xs ys : List α} (h : RdC w size (.slice A (n + m) c) ((xs ++ ys).flatMap f)) (hl : xs.length = n) : RdC w size (.slice A n c) (xs.flatMap f) := by
  have h1 := h.pre n (by omega)
  have e : ((xs ++ ys).flatMap f).take (n * size) = xs.flatMap f := by
    rw [List.flatMap_append]
    exact List.take_left' (by rw [flatMap_length f size hf, hl])
  rwa [e] at h1
theorem blk_cell {w : World} {g : Nat} {cs : List Value} {t : TypeId} (h : w.heap[g]? = some (.cells cs.toArray t)) (i : Nat) {u : Value} (hu : cs[i]? = some u) : w.cell? ⟨g, i, none⟩ = some u ∧ w.frozen? ⟨g, i, none⟩ = false := by
  constructor
  · simp [World.cell?, h, hu]
  · simp [World.frozen?, h]
theorem getD_snoc_lt {α : Type} (xs : List α) (x d : α) (q : Nat) (h : q < xs.length) : (xs ++ [x]).getD q d = xs.getD q d := by
  simp only [List.getD_eq_getElem?_getD, List.getElem?_append_left h]
theorem getD_snoc_eq {α : Type} (xs : List α) (x d : α) (q : Nat) (h : q = xs.length) : (xs ++ [x]).getD q d = x := by
  subst h; simp
theorem flatMap_set {α : Type} (f : α → List Value) (size : Nat) (hf : ∀ x, (f x).length = size) (d : α) : ∀ (xs : List α) (i j : Nat) (y : α) (v : Value), i < xs.length → j < size → f y = (f (xs.getD i d)).set j v → (xs.flatMap f).set (i * size + j) v = (xs.set i y).flatMap f
  | [], i, j, y, v, hi, _, _ => by simp at hi
  | x :: xs, 0, j, y, v, _, hj, h => by
    rw [List.set_cons_zero, List.flatMap_cons, List.flatMap_cons, Nat.zero_mul, Nat.zero_add, List.set_append_left _ _ (by rw [hf]; exact hj), h]
    rfl
  | x :: xs, i + 1, j, y, v, hi, hj, h => by
    rw [List.set_cons_succ, List.flatMap_cons, List.flatMap_cons, List.set_append_right _ _ (by rw [hf, Nat.succ_mul]; omega), hf, show (i + 1) * size + j - size = i * size + j by rw [Nat.succ_mul]; omega, flatMap_set f size hf d xs i j y v (by simpa using hi) hj h]
theorem cur_step {α : Type} (d : α) (zs xs T : List α) (q : Nat) (hq : q < xs.length) (hz : zs.length = xs.length) : ((zs.take q ++ xs.drop q) ++ T).set q (zs.getD q d) = (zs.take (q + 1) ++ xs.drop (q + 1)) ++ T := by
  rw [List.set_append_left _ _ (by simp; omega), List.set_append_right _ _ (by simp; omega)]
  have e1 : q - (zs.take q).length = 0 := by simp; omega
  rw [e1, List.drop_eq_getElem_cons hq, List.set_cons_zero, take_snoc zs d q (by omega)]
  simp
theorem cur_at {α : Type} (d : α) (zs xs T : List α) (q : Nat) (hq : q < xs.length) (hz : zs.length = xs.length) : ((zs.take q ++ xs.drop q) ++ T).getD q d = xs.getD q d := by
  rw [List.getD_eq_getElem?_getD, List.getElem?_append_left (by simp; omega), List.getElem?_append_right (by simp; omega)]
  have e1 : q - (zs.take q).length = 0 := by simp; omega
  rw [e1, List.drop_eq_getElem_cons hq]
  simp [hq]
theorem cur_behind {α : Type} (d : α) (zs xs T : List α) (q i : Nat) (hz : zs.length = xs.length) (hq : q ≤ xs.length) : ((zs.take q ++ xs.drop q) ++ T).getD (xs.length + i) d = T.getD i d := by
  have e : (zs.take q ++ xs.drop q).length = xs.length := by simp; omega
  rw [List.getD_eq_getElem?_getD, List.getElem?_append_right (by omega), e, Nat.add_sub_cancel_left, ← List.getD_eq_getElem?_getD]
theorem flatMap_take {α : Type} (f : α → List Value) (size : Nat) (hf : ∀ x, (f x).length = size) : ∀ (xs : List α) (n : Nat), (xs.take n).flatMap f = (xs.flatMap f).take (n * size)
  | [], n => by simp
  | x :: xs, 0 => by simp
  | x :: xs, n + 1 => by
    rw [List.take_succ_cons, List.flatMap_cons, List.flatMap_cons, flatMap_take f size hf xs n, show (n + 1) * size = (f x).length + n * size by rw [hf, Nat.succ_mul]; omega, List.take_append, List.take_of_length_le (l := f x) (Nat.le_add_right _ _), Nat.add_sub_cancel_left]
theorem flatMap_drop {α : Type} (f : α → List Value) (size : Nat) (hf : ∀ x, (f x).length = size) : ∀ (xs : List α) (n : Nat), (xs.drop n).flatMap f = (xs.flatMap f).drop (n * size)
  | [], n => by simp
  | x :: xs, 0 => by simp
  | x :: xs, n + 1 => by
    rw [List.drop_succ_cons, List.flatMap_cons, flatMap_drop f size hf xs n, show (n + 1) * size = (f x).length + n * size by rw [hf, Nat.succ_mul]; omega, List.drop_append, @List.drop_eq_nil_of_le _ (f x) _ (Nat.le_add_right _ _), List.nil_append, Nat.add_sub_cancel_left]
end Go.Mm
