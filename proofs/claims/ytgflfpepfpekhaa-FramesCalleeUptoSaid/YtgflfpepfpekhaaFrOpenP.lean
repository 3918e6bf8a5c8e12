/- What came in, read as values, programs and frames. -/
import Derived.Test.YtgflfpepfpekhaaFrCopy
import Derived.Test.YtgflfpepfpekhaaOpenS
import Derived.Test.YtgflfpepfpekhaaBulk
namespace Go.Proofs.Ytgflfpepfpekhaa
open Go.RowKit Go.Mm Go.WideShapes Go.ChangeShapes
set_option maxHeartbeats 1000000
set_option maxRecDepth 100000
theorem fl_V : fieldsOf Try.prog 41 = some [(3, 0), (2, 1)] := by kernel_rfl
theorem fl_I : fieldsOf Try.prog 171 = some [(3, 0), (2, 1)] := by kernel_rfl
theorem fl_C : fieldsOf Try.prog 130 = some [(3, 0), (2, 1), (9, 2)] := by kernel_rfl
theorem fl_H : fieldsOf Try.prog 145 = some [(3, 0), (3, 1), (3, 2), (3, 3)] := by kernel_rfl
theorem fl_F : fieldsOf Try.prog 87 = some [(9, 0), (3, 1), (3, 2), (84, 3), (85, 4)] := by kernel_rfl
theorem fl_R : fieldsOf Try.prog 30 = some [(3, 0), (3, 1), (26, 2)] := by kernel_rfl
theorem fl_P : fieldsOf Try.prog 25 = some [(22, 0), (23, 1)] := by kernel_rfl
theorem struct_of {P : Program} {t : TypeId} {fl : List (TypeId × Nat)} (h : fieldsOf P t = some fl) : ∃ fs, P.underlying t = some (.struct fs) := by
  unfold fieldsOf at h
  split at h
  · rename_i fs hfs; exact ⟨fs, hfs⟩
  · cases h
theorem co_int : Try.prog.cellsOf 3 = 1 := by kernel_rfl
theorem co_i64 : Try.prog.cellsOf 2 = 1 := by kernel_rfl
theorem co_str : Try.prog.cellsOf 9 = 1 := by kernel_rfl
theorem co_V : Try.prog.cellsOf 41 = 2 := by kernel_rfl
theorem co_I : Try.prog.cellsOf 171 = 2 := by kernel_rfl
theorem co_C : Try.prog.cellsOf 130 = 3 := by kernel_rfl
theorem co_H : Try.prog.cellsOf 145 = 4 := by kernel_rfl
theorem co_F : Try.prog.cellsOf 87 = 5 := by kernel_rfl
theorem co_R : Try.prog.cellsOf 30 = 3 := by kernel_rfl
theorem co_P : Try.prog.cellsOf 25 = 2 := by kernel_rfl
theorem co_Vs : Try.prog.cellsOf 26 = 1 := by kernel_rfl
theorem co_Is : Try.prog.cellsOf 84 = 1 := by kernel_rfl
theorem co_Hs : Try.prog.cellsOf 85 = 1 := by kernel_rfl
theorem co_Cs : Try.prog.cellsOf 22 = 1 := by kernel_rfl
theorem co_Fs : Try.prog.cellsOf 23 = 1 := by kernel_rfl
theorem ty_i64 : Try.prog.underlying 2 = some (.int .i64) := by kernel_rfl
theorem ty_Cs' : Try.prog.underlying 22 = some (.slice 130) := by kernel_rfl
theorem ty_Fs' : Try.prog.underlying 23 = some (.slice 87) := by kernel_rfl
theorem ty_Is' : Try.prog.underlying 84 = some (.slice 171) := by kernel_rfl
theorem ty_Hs' : Try.prog.underlying 85 = some (.slice 145) := by kernel_rfl
section
variable {H : Type} {enc : TypeId × Value → H} {w : World}
theorem hel_V (fuel : Nat) (cs : List Value) (d : DataW H) (ps : List MemPlace) (h : DataW.trod enc Try.prog w 0 (fun _ => true) true fuel 41 cs = some (d, ps)) : ∃ x, cs = cV x ∧ True := by
  obtain ⟨xs, n, rfl, hl, hx, hi⟩ := open_struct fl_V h
  rw [co_V] at hl
  obtain ⟨a, b, rfl⟩ := list2 hl
  obtain ⟨⟨d1, p1⟩, ⟨d2, p2⟩, rfl⟩ := list2 hx
  have h1 := hi 0 _ _ rfl
  have h2 := hi 1 _ _ rfl
  rw [co_int] at h1
  rw [co_i64] at h2
  obtain ⟨x, rfl, _⟩ := open_i ty_int h1
  obtain ⟨y, rfl, _⟩ := open_i ty_i64 h2
  exact ⟨(x, y), rfl, trivial⟩
theorem hel_I (fuel : Nat) (cs : List Value) (d : DataW H) (ps : List MemPlace) (h : DataW.trod enc Try.prog w 0 (fun _ => true) true fuel 171 cs = some (d, ps)) : ∃ x, cs = cV x ∧ True := by
  obtain ⟨xs, n, rfl, hl, hx, hi⟩ := open_struct fl_I h
  rw [co_I] at hl
  obtain ⟨a, b, rfl⟩ := list2 hl
  obtain ⟨⟨d1, p1⟩, ⟨d2, p2⟩, rfl⟩ := list2 hx
  have h1 := hi 0 _ _ rfl
  have h2 := hi 1 _ _ rfl
  rw [co_int] at h1
  rw [co_i64] at h2
  obtain ⟨x, rfl, _⟩ := open_i ty_int h1
  obtain ⟨y, rfl, _⟩ := open_i ty_i64 h2
  exact ⟨(x, y), rfl, trivial⟩
theorem hel_C (fuel : Nat) (cs : List Value) (d : DataW H) (ps : List MemPlace) (h : DataW.trod enc Try.prog w 0 (fun _ => true) true fuel 130 cs = some (d, ps)) : ∃ x, cs = cC x ∧ True := by
  obtain ⟨xs, n, rfl, hl, hx, hi⟩ := open_struct fl_C h
  rw [co_C] at hl
  obtain ⟨a, b, c, rfl⟩ := list3 hl
  obtain ⟨⟨d1, p1⟩, ⟨d2, p2⟩, ⟨d3, p3⟩, rfl⟩ := list3 hx
  have h1 := hi 0 _ _ rfl
  have h2 := hi 1 _ _ rfl
  have h3 := hi 2 _ _ rfl
  rw [co_int] at h1
  rw [co_i64] at h2
  rw [co_str] at h3
  obtain ⟨x, rfl, _⟩ := open_i ty_int h1
  obtain ⟨y, rfl, _⟩ := open_i ty_i64 h2
  obtain ⟨s, e, _⟩ := DataW.trod_string ty_str h3
  have e : c = .string s := by simpa using e
  subst e
  exact ⟨(x, y, s), rfl, trivial⟩
theorem hel_H (fuel : Nat) (cs : List Value) (d : DataW H) (ps : List MemPlace) (h : DataW.trod enc Try.prog w 0 (fun _ => true) true fuel 145 cs = some (d, ps)) : ∃ x, cs = cH x ∧ True := by
  obtain ⟨xs, n, rfl, hl, hx, hi⟩ := open_struct fl_H h
  rw [co_H] at hl
  obtain ⟨a, b, c, e, rfl⟩ := list4 hl
  obtain ⟨⟨d1, p1⟩, ⟨d2, p2⟩, ⟨d3, p3⟩, ⟨d4, p4⟩, rfl⟩ := list4 hx
  have h1 := hi 0 _ _ rfl
  have h2 := hi 1 _ _ rfl
  have h3 := hi 2 _ _ rfl
  have h4 := hi 3 _ _ rfl
  rw [co_int] at h1 h2 h3 h4
  obtain ⟨x, rfl, _⟩ := open_i ty_int h1
  obtain ⟨y, rfl, _⟩ := open_i ty_int h2
  obtain ⟨z, rfl, _⟩ := open_i ty_int h3
  obtain ⟨u, rfl, _⟩ := open_i ty_int h4
  exact ⟨(x, y, z, u), rfl, trivial⟩
theorem bulk_part {d : DataW H} {xs : List (DataW H)} (h : d ∈ xs) : Rows.uptoBulk d + 1 ≤ Rows.uptoBulk (.agg xs) := by
  have := bulk_mem xs d h
  simp only [Rows.uptoBulk]; omega
theorem cells_len {d : DataW H} {n c : Nat} {α : Type} {xs : List α} {Good : DataW H → α → Prop} (h : (d = .nil ∧ xs = [] ∧ n = 0) ∨ ∃ (ds sp : List (DataW H)), d = .slice ds sp ∧ ds.length = n ∧ sp.length = c - n ∧ n ≤ c ∧ ∀ (i : Nat) (x : α), xs[i]? = some x → ∃ y, ds[i]? = some y ∧ Good y x) : n + 1 ≤ Rows.uptoBulk d := by
  refine bulk_slice (c := c) (xs := xs) ?_
  rcases h with h | ⟨ds, sp, h1, h2, h3, h4, _⟩
  · exact .inl h
  · exact .inr ⟨ds, sp, h1, h2, h3, h4⟩
theorem cells_each {d : DataW H} {n c : Nat} {α : Type} {xs : List α} {Good : DataW H → α → Prop} (h : (d = .nil ∧ xs = [] ∧ n = 0) ∨ ∃ (ds sp : List (DataW H)), d = .slice ds sp ∧ ds.length = n ∧ sp.length = c - n ∧ n ≤ c ∧ ∀ (i : Nat) (x : α), xs[i]? = some x → ∃ y, ds[i]? = some y ∧ Good y x) {x : α} (hx : x ∈ xs) : ∃ y, Good y x ∧ Rows.uptoBulk y + 1 ≤ Rows.uptoBulk d := by
  rcases h with ⟨_, rfl, _⟩ | ⟨ds, sp, rfl, h2, h3, h4, h5⟩
  · cases hx
  · obtain ⟨i, hi⟩ := List.mem_iff_getElem?.1 hx
    obtain ⟨y, h6, h7⟩ := h5 i x hi
    have := bulk_at h6
    exact ⟨y, h7, by simp only [Rows.uptoBulk]; omega⟩
theorem hel_F (fuel : Nat) (cs : List Value) (d : DataW H) (ps : List MemPlace) (h : DataW.trod enc Try.prog w 0 (fun _ => true) true fuel 87 cs = some (d, ps)) : ∃ x, cs = cF x ∧ (FnOk w x ∧ x.hn ≤ Rows.uptoBulk d ∧ x.cn ≤ Rows.uptoBulk d) := by
  obtain ⟨xs, n, rfl, hl, hx, hi⟩ := open_struct fl_F h
  rw [co_F] at hl
  obtain ⟨a, b, c, e, f, rfl⟩ := list5 hl
  obtain ⟨⟨d1, p1⟩, ⟨d2, p2⟩, ⟨d3, p3⟩, ⟨d4, p4⟩, ⟨d5, p5⟩, rfl⟩ := list5 hx
  have h1 := hi 0 _ _ rfl
  have h2 := hi 1 _ _ rfl
  have h3 := hi 2 _ _ rfl
  have h4 := hi 3 _ _ rfl
  have h5 := hi 4 _ _ rfl
  rw [co_str] at h1
  rw [co_int] at h2 h3
  rw [co_Is] at h4
  rw [co_Hs] at h5
  obtain ⟨s, e1, _⟩ := DataW.trod_string ty_str h1
  have e1 : a = .string s := by simpa using e1
  subst e1
  obtain ⟨x, rfl, _⟩ := open_i ty_int h2
  obtain ⟨y, rfl, _⟩ := open_i ty_int h3
  obtain ⟨A, m, k, zs, e4, r4, l4, g4⟩ := open_cells (cV) (fun _ _ => True) 2 (by omega) ty_Is' co_I (fun x => ⟨cV_len x, cV_one x⟩) hel_I h4
  obtain ⟨B, m', k', us, e5, r5, l5, g5⟩ := open_cells (cH) (fun _ _ => True) 4 (by omega) ty_Hs' co_H (fun x => ⟨cH_len x, cH_one x⟩) hel_H h5
  have e6 : e = .slice A m k := by simpa using e4
  have e7 : f = .slice B m' k' := by simpa using e5
  clear e4 e5
  subst e6; subst e7
  have b4 := cells_len g4
  have b5 := cells_len g5
  have q4 := bulk_part (d := d4) (xs := [d1, d2, d3, d4, d5]) (by simp)
  have q5 := bulk_part (d := d5) (xs := [d1, d2, d3, d4, d5]) (by simp)
  exact ⟨⟨s, x, y, A, m, k, zs, B, m', k', us⟩, rfl, ⟨r4, r5⟩, by simp at q5 ⊢; omega, by simp at q4 ⊢; omega⟩
theorem hel_R (fuel : Nat) (cs : List Value) (d : DataW H) (ps : List MemPlace) (h : DataW.trod enc Try.prog w 0 (fun _ => true) true fuel 30 cs = some (d, ps)) : ∃ x, cs = cR x ∧ (FrOk (Rows.uptoBulk d) w x ∧ x.n + 2 ≤ Rows.uptoBulk d) := by
  obtain ⟨xs, n, rfl, hl, hx, hi⟩ := open_struct fl_R h
  rw [co_R] at hl
  obtain ⟨a, b, e, rfl⟩ := list3 hl
  obtain ⟨⟨d1, p1⟩, ⟨d2, p2⟩, ⟨d3, p3⟩, rfl⟩ := list3 hx
  have h1 := hi 0 _ _ rfl
  have h2 := hi 1 _ _ rfl
  have h3 := hi 2 _ _ rfl
  rw [co_int] at h1 h2
  rw [co_Vs] at h3
  obtain ⟨x, rfl, _⟩ := open_i ty_int h1
  obtain ⟨y, rfl, _⟩ := open_i ty_int h2
  obtain ⟨A, m, k, zs, e4, r4, l4, g4⟩ := open_cells (cV) (fun _ _ => True) 2 (by omega) ty_Vs co_V (fun x => ⟨cV_len x, cV_one x⟩) hel_V h3
  have e6 : e = .slice A m k := by simpa using e4
  clear e4
  subst e6
  have b4 := cells_len g4
  have q4 := bulk_part (d := d3) (xs := [d1, d2, d3]) (by simp)
  have hb : m + 2 ≤ Rows.uptoBulk (DataW.agg ([(d1, p1), (d2, p2), (d3, p3)].map (·.1))) := by simp at q4 ⊢; omega
  exact ⟨⟨x, y, A, m, k, zs⟩, rfl, ⟨r4, by show m ≤ _; omega⟩, hb⟩
/-- Values that came in. -/
theorem open_vals {v : Value} {d : DataW H} {p : List MemPlace} {base : Nat} (h : DataW.Trod enc Try.prog w 0 (fun _ => true) true 26 v d p) (ok : Value.okWide Try.prog w .any base 26 v) :
    ∃ A n c xs, v = .slice A n c ∧ RdC w 2 (.slice A n c) (fV xs) ∧ n + 1 ≤ Rows.uptoBulk d := by
  obtain ⟨A, n, c, xs, rfl, hr, hl, hd⟩ := open_list cV (fun _ _ => True) 2 (by omega) ty_Vs co_V (fun x => ⟨cV_len x, cV_one x⟩) hel_V h ok
  exact ⟨A, n, c, xs, rfl, hr, cells_len hd⟩
/-- A program that came in. -/
theorem open_prog {v : Value} {d : DataW H} {p : List MemPlace} {base : Nat} (h : DataW.Trod enc Try.prog w 0 (fun _ => true) true 25 v d p) (ok : Value.okWide Try.prog w .any base 25 v) (hb : Rows.uptoBulk d ≤ 1048576) :
    ∃ p : Pg, v = vP p ∧ PgOk w p ∧ p.kn ≤ 1048576 := by
  obtain ⟨fs, hfs⟩ := struct_of fl_P
  obtain ⟨cs, rfl, hcs⟩ := okWide_struct hfs ok
  obtain ⟨fuel, hfu⟩ := h
  obtain ⟨xs, n, rfl, hl, hx, hi⟩ := open_struct fl_P hfu
  rw [co_P] at hl
  obtain ⟨a, b, e⟩ := list2 hl
  rw [e] at hi
  obtain ⟨⟨d1, p1⟩, ⟨d2, p2⟩, rfl⟩ := list2 hx
  have h1 := hi 0 _ _ rfl
  have h2 := hi 1 _ _ rfl
  rw [co_Cs] at h1
  rw [co_Fs] at h2
  obtain ⟨A, m, k, zs, e4, r4, l4, g4⟩ := open_cells (cC) (fun _ _ => True) 3 (by omega) ty_Cs' co_C (fun x => ⟨cC_len x, cC_one x⟩) hel_C h1
  obtain ⟨B, m', k', us, e5, r5, l5, g5⟩ := open_cells (cF) (fun d x => FnOk w x ∧ x.hn ≤ Rows.uptoBulk d ∧ x.cn ≤ Rows.uptoBulk d) 5 (by omega) ty_Fs' co_F (fun x => ⟨cF_len x, cF_one x⟩) hel_F h2
  have e6 : a = .slice A m k := by simpa using e4
  have e7 : b = .slice B m' k' := by simpa using e5
  clear e4 e5
  subst e6; subst e7
  have b4 := cells_len g4
  have b5 := cells_len g5
  have q4 := bulk_part (d := d1) (xs := [d1, d2]) (by simp)
  have q5 := bulk_part (d := d2) (xs := [d1, d2]) (by simp)
  simp only [List.map_cons, List.map_nil] at hb
  refine ⟨⟨A, m, k, zs, B, m', k', us⟩, ?_, ⟨r4, r5, fun f hf => ?_, ⟨by show m' ≤ _; omega, fun f hf => ?_⟩⟩, by show m ≤ _; omega⟩
  · have : cs.toList = [.slice A m k, .slice B m' k'] := by simpa [Value.cells] using e
    show Value.agg cs = Value.agg _
    congr 1
    exact Array.toList_inj.1 (by simpa using this)
  · obtain ⟨y, hy, _⟩ := cells_each g5 hf
    exact hy.1
  · obtain ⟨y, hy, hb2⟩ := cells_each g5 hf
    exact ⟨by have := hy.2.1; omega, by have := hy.2.2; omega⟩
/-- Frames that came in. -/
theorem open_frames {v : Value} {d : DataW H} {p : List MemPlace} {base : Nat} (h : DataW.Trod enc Try.prog w 0 (fun _ => true) true 39 v d p) (ok : Value.okWide Try.prog w .any base 39 v) :
    ∃ A n c xs, v = .slice A n c ∧ FrsOk (Rows.uptoBulk d) w A n c xs ∧ n + 1 ≤ Rows.uptoBulk d := by
  obtain ⟨A, n, c, xs, rfl, hr, hl, hd⟩ := open_list cR (fun d x => FrOk (Rows.uptoBulk d) w x ∧ x.n + 2 ≤ Rows.uptoBulk d) 3 (by omega) ty_Rs co_R (fun x => ⟨cR_len x, cR_one x⟩) hel_R h ok
  refine ⟨A, n, c, xs, rfl, ⟨hr, fun f hf => ?_⟩, cells_len hd⟩
  obtain ⟨y, hy, hb⟩ := cells_each hd hf
  exact ⟨hy.1.1, by have := hy.2; omega⟩
/-- A value that came in. -/
theorem open_val {v : Value} {d : DataW H} {p : List MemPlace} {base : Nat} (h : DataW.Trod enc Try.prog w 0 (fun _ => true) true 41 v d p) (ok : Value.okWide Try.prog w .any base 41 v) : ∃ x : V2, v = .agg (cV x).toArray := by
  obtain ⟨fs, hfs⟩ := struct_of fl_V
  obtain ⟨cs, rfl, hcs⟩ := okWide_struct hfs ok
  obtain ⟨fuel, hfu⟩ := h
  obtain ⟨x, hx, _⟩ := hel_V _ _ _ _ hfu
  refine ⟨x, ?_⟩
  have : cs.toList = cV x := by simpa [Value.cells] using hx
  congr 1
  exact Array.toList_inj.1 (by simpa using this)
end
end Go.Proofs.Ytgflfpepfpekhaa
