/- A map of places of one's own: looked up, written, struck out. -/
import Derived.Test.YtpibchjkmaghnaaHpMake
import Derived.Maps.OwnSet
namespace Go.Proofs.Ytpibchjkmaghnaa
open Go.RowKit Go.Mm
open Go.Maps (Keyed)
set_option maxHeartbeats 4000000
set_option maxRecDepth 100000
theorem kd_i64 : Keyed Try.prog 2 := Maps.int_keyed (show Try.prog.underlying 2 = some (.int .i64) by kernel_rfl)
theorem ty_k64 : Try.prog.underlying 2 = some (.int .i64) := by kernel_rfl
theorem ty_mp : Try.prog.underlying 108 = some (.map 2 3) := by kernel_rfl
theorem zr_int (w : World) : (zeroValue 3).run Try.prog w = .ok (.int .i64 0) w := by kernel_rfl
def fvO (o : Option Nat) (z : DataW Unit) : DataW Unit := match o with | some i => .lit (.int .i64 (i : Nat)) | none => z
/-- A map that reads as a function, of at most so many entries. -/
def mapF (b n : Nat) (f : Int → Option Nat) (w : World) : Prop := ∃ D : DataW Unit, w.ownsMap Try.prog 2 (plainElem Try.prog 3) b n D ∧ Maps.Tidy D ∧ ∀ key : Int, (Lit.int .i64 key).wf = true → ∀ z, D.atKey (.int .i64 key) z = fvO (f key) z
def MapF (b n : Nat) (f : Int → Option Nat) : Chunk :=
  ⟨fun k => k = b, mapF b n f, fun w w' h hw => by
    obtain ⟨D, ⟨es, clock, hb, F, hs, hD⟩, hT, ha⟩ := hw
    exact ⟨D, ⟨es, clock, by rw [h b rfl]; exact hb, F, hs, hD⟩, hT, ha⟩⟩
theorem mapOk_F {b : Nat} {ks : List Int} {w : World} : mapOk (some b) ks w ↔ mapF b ks.length (fun k => ks.idxOf? k) w := Iff.rfl
theorem fvO_lit {o : Option Nat} {c : Int} (h : fvO o (.lit (.int .i64 0)) = .lit (.int .i64 c)) : c = (o.getD 0 : Nat) := by
  cases o with
  | none => simp [fvO] at h; simp [← h]
  | some i => simp [fvO] at h; simp [← h]
theorem has_of {D : DataW Unit} {k : Int} {o : Option Nat} (h : ∀ z, D.atKey (.int .i64 k) z = fvO o z) : Maps.has D (.int .i64 k) = o.isSome := by
  cases o with
  | none => exact Maps.has_false_of_atKey h
  | some i => exact Maps.has_true_of_atKey h
theorem mapF_look {b n : Nat} {f : Int → Option Nat} {w : World} (h : mapF b n f w) (key : Int) (hw : (Lit.int .i64 key).wf = true) :
    (Instr.lookup 108 (.map (some b)) (.int .i64 key) true).run Try.prog w = .ok (.tuple #[.int .i64 ((f key).getD 0 : Nat), .bool (f key).isSome]) w := by
  obtain ⟨D, hown, _, ha⟩ := h
  obtain ⟨v, ps, hrun, hv⟩ := hown.look_ok kd_i64 ty_mp (zr_int w) (plainElem_int ty_int (by decide)) (Maps.keyOf_int_mk ty_k64 hw)
  obtain ⟨c, rfl, hc, _⟩ := plainElem_int_inv ty_int hv
  simp only [Prod.mk.injEq] at hc
  rw [ha key hw] at hc
  rw [hrun, has_of (ha key hw), fvO_lit hc.1]
theorem mapOk_look {mp : Option Nat} {ks : List Int} {w : World} (h : mapOk mp ks w) (key : Int) (hw : (Lit.int .i64 key).wf = true) :
    (Instr.lookup 108 (.map mp) (.int .i64 key) true).run Try.prog w = .ok (.tuple #[.int .i64 ((ks.idxOf? key).getD 0 : Nat), .bool (ks.idxOf? key).isSome]) w := by
  cases mp with
  | none =>
    obtain rfl : ks = [] := h
    exact Maps.look_nil true kd_i64 ty_mp (zr_int w) (Maps.keyOf_int_mk ty_k64 hw)
  | some b => exact mapF_look (mapOk_F.1 h) key hw
theorem mapTurned_upd {b : Nat} {w w' : World} (h : w.mapTurned w' b) : Upd (fun k => k = b) w w' := by
  obtain ⟨es, clock, es', clock', hb, rfl⟩ := h
  exact ⟨rfl, rfl, rfl, by simp [Go.ChangeMaps.setBlock], fun k _ hk => Go.ChangeMaps.heap_setBlock_other hb _ hk⟩
def updF (f : Int → Option Nat) (key : Int) (i : Nat) (k : Int) : Option Nat := if k = key then some i else f k
def delF (f : Int → Option Nat) (key : Int) (k : Int) : Option Nat := if k = key then none else f k
theorem lit_ne {a b : Int} (h : a ≠ b) : (Lit.int .i64 a) ≠ (Lit.int .i64 b) := fun e => h (by cases e; rfl)
theorem isKey (k : Int) : WideAt.IsKeyLit (.int .i64 k) := trivial
theorem mapF_put {b n : Nat} {f : Int → Option Nat} {w : World} (h : mapF b n f w) (hn : n < maxLen) (key : Int) (hw : (Lit.int .i64 key).wf = true) (i : Nat) (hi : i < 9223372036854775808) :
    ∃ w', (Instr.mapUpdate 108 (.map (some b)) (.int .i64 key) (.int .i64 i)).run Try.prog w = .ok () w' ∧ mapF b (if (f key).isSome then n else n + 1) (updF f key i) w' ∧ w.mapTurned w' b := by
  obtain ⟨D, hown, hT, ha⟩ := h
  obtain ⟨w', hrun, h1, h2⟩ := hown.store kd_i64 ty_mp hn (Maps.keyOf_int_mk ty_k64 hw) (plainElem_int (H := Unit) ty_int (show (Lit.int .i64 (i : Int)).wf = true by simp [Lit.wf, IntKind.min, IntKind.max, IntKind.signed, IntKind.bits]; omega))
  refine ⟨w', hrun, ⟨D.put (.int .i64 key) (.lit (.int .i64 (i : Int))), ?_, hT.put (isKey key) _, fun k hk z => ?_⟩, h2⟩
  · obtain ⟨es, clock, hb, F, hs, hD⟩ := h1
    refine ⟨es, clock, hb, F, ?_, hD⟩
    split
    · rename_i hf
      have e1 := Maps.size_put hT (k := Lit.int .i64 key) (DataW.lit (.int .i64 (i : Int)))
      rw [has_of (ha key hw), hf, if_pos rfl] at e1
      have e2 : Maps.size (DataW.put D (Lit.int .i64 key) (DataW.lit (.int .i64 (i : Int)))) = es.size := by rw [hD]; simp [Maps.size, length_sorted]
      have := hown.size_le
      omega
    · exact hs
  · unfold updF
    by_cases q : k = key
    · subst q
      rw [if_pos rfl, Maps.atKey_put_same hT.isMap (isKey k)]
      rfl
    · rw [if_neg q, Maps.atKey_put_other (lit_ne q), ha k hk]
theorem mapF_del {b n : Nat} {f : Int → Option Nat} {w : World} (h : mapF b n f w) (key : Int) (hw : (Lit.int .i64 key).wf = true) (hf : (f key).isSome = true) (ty : TypeId) :
    ∃ w', (Builtin.delete_ #[108, 2] ty #[.map (some b), .int .i64 key]).run Try.prog w = .ok (.tuple #[]) w' ∧ mapF b (n - 1) (delF f key) w' ∧ w.mapTurned w' b := by
  obtain ⟨D, hown, hT, ha⟩ := h
  obtain ⟨w', hrun, h1, h2⟩ := hown.drop kd_i64 ty_mp (Maps.keyOf_int_mk ty_k64 hw) ty
  refine ⟨w', hrun, ⟨D.del (.int .i64 key), ?_, hT.del _, fun k hk z => ?_⟩, h2⟩
  · obtain ⟨es, clock, hb, F, hs, hD⟩ := h1
    refine ⟨es, clock, hb, F, ?_, hD⟩
    have e1 := Maps.size_del hT (k := Lit.int .i64 key)
    rw [has_of (ha key hw), hf, if_pos rfl] at e1
    have e2 : Maps.size (DataW.del D (Lit.int .i64 key)) = es.size := by rw [hD]; simp [Maps.size, length_sorted]
    have := hown.size_le
    omega
  · unfold delF
    by_cases q : k = key
    · subst q
      rw [if_pos rfl, Maps.atKey_del_same]
      rfl
    · rw [if_neg q, Maps.atKey_del_other (lit_ne q), ha k hk]
section
variable {ops : Array Oper} {rest : List Oper} {o : Oper} {a : Act} {Q : Exit → Act → World → Prop} {w0 w : World} {L : List Chunk}
theorem wp_mapput (hg : o.guard = none) (m x v : Operand) (hop : o.op = .mapUpdate 108 m x v) (b n : Nat) (f : Int → Option Nat) (hm : a.eval m = .map (some b)) (hM : Mem w0 w (MapF b n f :: L)) (hn : n < maxLen) (key : Int) (hx : a.eval x = .int .i64 key) (hw : (Lit.int .i64 key).wf = true) (i : Nat) (hv : a.eval v = .int .i64 i) (hi : i < 9223372036854775808)
    (hK : ∀ w', Mem w0 w' (MapF b (if (f key).isSome then n else n + 1) (updF f key i) :: L) → wpList Try.prog ops Q rest (a.put o.dst undef) w') : wpList Try.prog ops Q (o :: rest) a w := by
  refine wpList_plain hg fun K' hK' => ?_
  obtain ⟨w', hrun, r1, r2⟩ := mapF_put (hM.ok _ m0) hn key hw i hi
  unfold Oper.wp
  simp [execOp, hop, hm, hx, hv, hrun, Result.andThen]
  exact hK' _ _ (hK w' (hM.upd (mapTurned_upd r2) r1 (fun k hk => .inl hk)))
theorem wp_mapdel (hg : o.guard = none) (m x : Operand) (hop : o.op = .call { callee := .builtin .delete, args := #[m, x], argTypes := #[108, 2] }) (b n : Nat) (f : Int → Option Nat) (hm : a.eval m = .map (some b)) (hM : Mem w0 w (MapF b n f :: L)) (key : Int) (hx : a.eval x = .int .i64 key) (hw : (Lit.int .i64 key).wf = true) (hf : (f key).isSome = true)
    (hK : ∀ w', Mem w0 w' (MapF b (n - 1) (delF f key) :: L) → wpList Try.prog ops Q rest (a.put o.dst (.tuple #[])) w') : wpList Try.prog ops Q (o :: rest) a w := by
  refine wpList_plain hg fun K' hK' => ?_
  obtain ⟨w', hrun, r1, r2⟩ := mapF_del (hM.ok _ m0) key hw hf o.type
  unfold Oper.wp
  simp only [execOp, hop, resolve, invoke, builtin, Sem.run_bind, Sem.run_pure, Result.andThen_ok, List.map_toArray, List.map_cons, List.map_nil, hm, hx, hrun]
  exact hK' _ _ (hK w' (hM.upd (mapTurned_upd r2) r1 (fun k hk => .inl hk)))
end
theorem Mem.toF {w0 w : World} {L : List Chunk} {b : Nat} {ks : List Int} (h : Mem w0 w (MapC (some b) ks :: L)) : Mem w0 w (MapF b ks.length (fun k => ks.idxOf? k) :: L) := by
  refine ⟨h.below, fun c hc => ?_, fun c hc k hk => ?_, List.pairwise_cons.2 ⟨fun d hd k hk => ?_, (List.pairwise_cons.1 h.dis).2⟩⟩
  · rcases List.mem_cons.1 hc with rfl | hc
    · exact h.ok (MapC (some b) ks) m0
    · exact h.ok c (.tail _ hc)
  · rcases List.mem_cons.1 hc with rfl | hc
    · exact h.rng (MapC (some b) ks) m0 k (by show some b = some k; rw [show k = b from hk])
    · exact h.rng c (.tail _ hc) k hk
  · exact (List.pairwise_cons.1 h.dis).1 d hd k (by show some b = some k; rw [show k = b from hk])
theorem Mem.toC {w0 w : World} {L : List Chunk} {b n : Nat} {f : Int → Option Nat} {ks : List Int} (h : Mem w0 w (MapF b n f :: L)) (hn : n ≤ ks.length) (hf : ∀ k, (Lit.int .i64 k).wf = true → f k = ks.idxOf? k) : Mem w0 w (MapC (some b) ks :: L) := by
  refine ⟨h.below, fun c hc => ?_, fun c hc k hk => ?_, List.pairwise_cons.2 ⟨fun d hd k hk => ?_, (List.pairwise_cons.1 h.dis).2⟩⟩
  · rcases List.mem_cons.1 hc with rfl | hc
    · obtain ⟨D, h1, h2, h3⟩ : mapF b n f w := h.ok (MapF b n f) m0
      exact ⟨D, h1.mono hn, h2, fun key hk z => by rw [h3 key hk, hf key hk]; rfl⟩
    · exact h.ok c (.tail _ hc)
  · rcases List.mem_cons.1 hc with rfl | hc
    · exact h.rng (MapF b n f) m0 k (by show k = b; exact (Option.some.inj hk).symm)
    · exact h.rng c (.tail _ hc) k hk
  · exact (List.pairwise_cons.1 h.dis).1 d hd k (by show k = b; exact (Option.some.inj hk).symm)
theorem Mem.mapmade {w0 w : World} {L : List Chunk} (h : Mem w0 w L) : Mem w0 (w.alloc (.map #[] 0)) (MapC (some w.heap.size) [] :: L) := by
  have h1 := h.alloc (.map #[] 0)
  refine h1.upd ⟨rfl, rfl, rfl, Nat.le_refl _, fun _ _ _ => rfl⟩ ?_ (fun k hk => .inl (Option.some.inj hk).symm)
  exact ⟨.map [], World.ownsMap_made w _ _ _, Maps.tidy_empty, fun key hk z => rfl⟩
end Go.Proofs.Ytpibchjkmaghnaa
