/- FramesCallee: the contract over what comes in. -/
import Derived.Test.YtgflfpepfpekhaaFramesCallee
namespace Go.Proofs.Ytgflfpepfpekhaa
open Go.RowKit Go.Mm Go.WideShapes Go.ChangeShapes
set_option maxHeartbeats 4000000
set_option maxRecDepth 100000
section
variable {H : Type} {enc : TypeId × Value → H} {w : World}
theorem fl_CL : fieldsOf Try.prog 111 = some [(109, 0), (41, 1), (3, 3)] := by kernel_rfl
theorem co_CL : Try.prog.cellsOf 111 = 4 := by kernel_rfl
theorem co_OsF : Try.prog.cellsOf 109 = 1 := by kernel_rfl
theorem ty_OsF : Try.prog.underlying 109 = some (.slice 124) := by kernel_rfl
theorem open_call {v : Value} {d : DataW H} {p : List MemPlace} {base : Nat} (h : DataW.Trod enc Try.prog w 0 (fun _ => true) true 111 v d p) (ok : Value.okWide Try.prog w .any base 111 v) (hb : Rows.uptoBulk d ≤ 1048576) :
    ∃ A n c xs v1 v2 m, v = .agg (callC A n c v1 v2 m).toArray ∧ ObIn w A n c xs := by
  obtain ⟨fs, hfs⟩ := struct_of fl_CL
  obtain ⟨cs, rfl, hcs⟩ := okWide_struct hfs ok
  obtain ⟨fuel, hfu⟩ := h
  obtain ⟨xs, n, rfl, hl, hx, hi⟩ := open_struct fl_CL hfu
  rw [co_CL] at hl
  obtain ⟨a, b, c, e4, e⟩ := list4 hl
  rw [e] at hi
  obtain ⟨⟨d1, p1⟩, ⟨d2, p2⟩, ⟨d3, p3⟩, rfl⟩ := list3 hx
  have h1 := hi 0 _ _ rfl
  have h2 := hi 1 _ _ rfl
  have h3 := hi 2 _ _ rfl
  rw [co_OsF] at h1
  rw [co_V] at h2
  rw [co_int] at h3
  obtain ⟨A, m, k, zs, e1, r1, l1, g1⟩ := open_cells (cRO) (fun d x => InOk w (Rows.uptoBulk d) x) 6 (by omega) ty_OsF co_O (fun x => ⟨cRO_len x, cRO_one x⟩) hel_O h1
  obtain ⟨y, e2, _⟩ := hel_V _ _ _ _ h2
  obtain ⟨z, e3, _⟩ := open_i ty_int h3
  obtain ⟨y1, y2⟩ := y
  have e1 : [a] = [.slice A m k] := e1
  have e2 : [b, c] = [.int .i64 y1, .int .i64 y2] := e2
  have e3 : [e4] = [.int .i64 z] := by first | exact e3 | (rw [e3])
  have q := bulk_part (d := d1) (xs := [d1, d2, d3]) (by simp)
  have b1 := cells_len g1
  have hall : ∀ x, x ∈ zs → ∃ B, InOk w B x ∧ B ≤ 1048576 := fun x hx => by
    obtain ⟨y, hy, hb'⟩ := cells_each g1 hx
    exact ⟨_, hy, by simp at q hb; omega⟩
  refine ⟨A, m, k, zs, y1, y2, z, ?_, ⟨⟨r1, fun x hx => (hall x hx).elim fun _ h => h.1.1⟩, by simp at q hb; omega, fun x hx => ?_, fun x hx => ?_⟩⟩
  · have : cs.toList = [.slice A m k, .int .i64 y1, .int .i64 y2, .int .i64 z] := by
      have h7 : cs.toList = [a, b, c, e4] := by simpa [Value.cells] using e
      simp only [List.cons.injEq, and_true] at e1 e2 e3
      rw [h7, e1, e2.1, e2.2, e3]
    have h8 : cs = [.slice A m k, .int .i64 y1, .int .i64 y2, .int .i64 z].toArray := by rw [← this]
    rw [h8]
    rfl
  · obtain ⟨B, h, hB⟩ := hall x hx
    exact ⟨by have := h.2.1; omega, by have := h.2.2.1; omega⟩
  · obtain ⟨B, h, hB⟩ := hall x hx
    exact ⟨h.2.2.2.1, h.2.2.2.2⟩
end
theorem framesCallee_ok (H : Type) (enc : TypeId × Value → H) (W : World) (base : Nat)
    (v0 : Value) (d0 : DataW H) (p0 : List MemPlace) (h0 : DataW.Trod enc Try.prog W 0 (fun _ => true) true 25 v0 d0 p0) (ok0 : Value.okWide Try.prog W .any base 25 v0)
    (v1 : Value) (d1 : DataW H) (p1 : List MemPlace) (h1 : DataW.Trod enc Try.prog W 0 (fun _ => true) true 111 v1 d1 p1) (ok1 : Value.okWide Try.prog W .any base 111 v1) (hk : Rows.uptoSmall H ([d0, d1] ++ []) = true) :
    Calls Try.prog 12 #[v0, v1] W fun e w' => e = .returned (.bool true) ∧ Gr W w' := by
  have hb := bulk_small hk
  simp only [Rows.uptoBulkAll, List.cons_append, List.nil_append] at hb
  obtain ⟨p, rfl, hp, hkn⟩ := open_prog h0 ok0 (by omega)
  obtain ⟨A, n, c, xs, v1, v2, m, rfl, hx⟩ := open_call h1 ok1 (by omega)
  exact callee_walk W p ⟨hp⟩ hkn A n c xs ⟨hx⟩ v1 v2 m
end Go.Proofs.Ytgflfpepfpekhaa
