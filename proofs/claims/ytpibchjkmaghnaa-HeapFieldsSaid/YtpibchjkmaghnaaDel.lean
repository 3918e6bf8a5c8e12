/- slices.Delete: a slice of one's own, some of its elements put over others of it, and its end cleared. -/
import Derived.Test.YtpibchjkmaghnaaHpMem
namespace Go.Mm
open Go.RowKit
section
variable {P : Program} {w0 w : World} {L : List Chunk}
theorem run_app_in {size g off n c : Nat} {xs : List Value} (hm : Mem w0 w (Own size (.slice (some ⟨g, off, none⟩) n c) xs :: L)) (t ty e : TypeId) (i : TypeInfo) (ht : P.underlying t = some (.slice e)) (hi : P.info? e = some i) (hsize : i.size = size)
    (k : Nat) (a : Option Addr) (m d : Nat) (news : List Value) (hnews : RdC w size (.slice a m d) news) (hk : k + m ≤ n) :
    ∃ w', (Builtin.append_ #[t, t] ty #[.slice (some ⟨g, off, none⟩) k c, .slice a m d]).run P w = .ok (.slice (some ⟨g, off, none⟩) (k + m) c) w' ∧
      Mem w0 w' (Own size (.slice (some ⟨g, off, none⟩) n c) (xs.take (k * size) ++ news ++ xs.drop (k * size + news.length)) :: L) := by
  subst hsize
  have hcap := OwnAt.cap (hm.ok _ m0)
  have hlen := OwnAt.len (hm.ok _ m0)
  obtain ⟨_, _, _, e2, hl, _, _, h1, hrn⟩ := hnews
  cases e2
  have hf := run_first (P := P) w i.size m a m d news hl hrn
  have hle : (k + m) * i.size ≤ n * i.size := Nat.mul_le_mul_right _ hk
  obtain ⟨w', hst, hm'⟩ := Mem.own_row (P := P) hm (k * i.size) news (by rw [Nat.add_mul] at hle; omega) h1
  refine ⟨w', ?_, hm'⟩
  have hroom : k + m ≤ c := by omega
  have ha : (⟨g, off, none⟩ : Addr).add (k * i.size) = ⟨g, off + k * i.size, none⟩ := add_lit _ _ _
  simp [Builtin.append_, run_underlying ht, sizeOf, typeInfo, hi, Builtin.lenOf, hroom, hf, ha, hst]
theorem run_clear_in {size g off n c : Nat} {xs : List Value} (hm : Mem w0 w (Own size (.slice (some ⟨g, off, none⟩) n c) xs :: L)) (t ty e : TypeId) (z : Value) (ht : P.underlying t = some (.slice e)) (hz : ∀ w, (zeroValue e).run P w = .ok z w) (hzs : z.cells.size = size) (h1 : ∀ u, u ∈ z.cells.toList → u.oneCell' = true)
    (k m d q : Nat) (hq : q = off + k * size) (hk : k + m = n) (hm0 : m ≠ 0) :
    ∃ w' Z, (Builtin.clear_ #[t] ty #[.slice (some ⟨g, q, none⟩) m d]).run P w = .ok (.tuple #[]) w' ∧ Mem w0 w' (Own size (.slice (some ⟨g, off, none⟩) n c) (xs.take (k * size) ++ Z) :: L) := by
  subst hq
  have hlen := OwnAt.len (hm.ok _ m0)
  have hZl : (Builtin.zeroCells z.cells m).toList.length = m * size := by simp [Builtin.zeroCells, hzs]
  have hZ1 : One (Builtin.zeroCells z.cells m).toList := fun u hu => by
    by_cases hs : size = 0
    · simp [Builtin.zeroCells, hzs, hs] at hu
    · simp only [Builtin.zeroCells, Array.toList_map, List.mem_map] at hu
      obtain ⟨j, _, rfl⟩ := hu
      have hj : j % z.cells.size < z.cells.size := Nat.mod_lt _ (by omega)
      rw [getElem!_pos z.cells _ hj]
      exact h1 _ (by simp)
  have hle : k * size + m * size = n * size := by rw [← Nat.add_mul, hk]
  obtain ⟨w', hst, hm'⟩ := Mem.own_row (P := P) hm (k * size) _ (by rw [hZl]; omega) hZ1
  refine ⟨w', (Builtin.zeroCells z.cells m).toList, ?_, ?_⟩
  · cases m with
    | zero => exact (hm0 rfl).elim
    | succ m => simp [Builtin.clear_, run_underlying ht, hz, hst]
  · rw [List.drop_eq_nil_of_le (by rw [hZl]; omega), List.append_nil] at hm'
    exact hm'
variable {ops : Array Oper} {rest : List Oper} {o : Oper} {ac : Act} {Q : Exit → Act → World → Prop}
theorem wp_app_in {size g off n c : Nat} {xs : List Value} (hgd : o.guard = none) (s x : Operand) (t : TypeId) (ho : o.op = .call { callee := .builtin .append, args := #[s, x], argTypes := #[t, t] }) (e : TypeId) (i : TypeInfo) (ht : P.underlying t = some (.slice e)) (hi : P.info? e = some i) (hsize : i.size = size)
    (k : Nat) (hs : ac.eval s = .slice (some ⟨g, off, none⟩) k c) (hm : Mem w0 w (Own size (.slice (some ⟨g, off, none⟩) n c) xs :: L)) (a : Option Addr) (m d : Nat) (news : List Value) (hx : ac.eval x = .slice a m d) (hnews : RdC w size (.slice a m d) news) (hk : k + m ≤ n)
    (h : ∀ w', Mem w0 w' (Own size (.slice (some ⟨g, off, none⟩) n c) (xs.take (k * size) ++ news ++ xs.drop (k * size + news.length)) :: L) → wpList P ops Q rest (ac.put o.dst (.slice (some ⟨g, off, none⟩) (k + m) c)) w') : wpList P ops Q (o :: rest) ac w :=
  wpList_plain hgd fun K hK => by
    obtain ⟨w', hr, h2⟩ := run_app_in hm t o.type e i ht hi hsize k a m d news hnews hk
    unfold Oper.wp execOp
    simp only [ho, resolve, invoke, builtin, Sem.run_bind, Sem.run_pure, Result.andThen_ok, List.map_toArray, List.map_cons, List.map_nil, hs, hx, hr]
    exact hK _ _ (h w' h2)
theorem wp_clear_in {size g off n c : Nat} {xs : List Value} (hgd : o.guard = none) (x : Operand) (t : TypeId) (ho : o.op = .call { callee := .builtin .clear, args := #[x], argTypes := #[t] }) (e : TypeId) (z : Value) (ht : P.underlying t = some (.slice e)) (hz : ∀ w, (zeroValue e).run P w = .ok z w) (hzs : z.cells.size = size) (h1 : ∀ u, u ∈ z.cells.toList → u.oneCell' = true)
    (k m d q : Nat) (hx : ac.eval x = .slice (some ⟨g, q, none⟩) m d) (hm : Mem w0 w (Own size (.slice (some ⟨g, off, none⟩) n c) xs :: L)) (hq : q = off + k * size) (hk : k + m = n) (hm0 : m ≠ 0)
    (h : ∀ w' Z, Mem w0 w' (Own size (.slice (some ⟨g, off, none⟩) n c) (xs.take (k * size) ++ Z) :: L) → wpList P ops Q rest (ac.put o.dst (.tuple #[])) w') : wpList P ops Q (o :: rest) ac w :=
  wpList_plain hgd fun K hK => by
    obtain ⟨w', Z, hr, h2⟩ := run_clear_in hm t o.type e z ht hz hzs h1 k m d q hq hk hm0
    unfold Oper.wp execOp
    simp only [ho, resolve, invoke, builtin, Sem.run_bind, Sem.run_pure, Result.andThen_ok, List.map_toArray, List.map_cons, List.map_nil, hx, hr]
    exact hK _ _ (h w' Z h2)
end
end Go.Mm
