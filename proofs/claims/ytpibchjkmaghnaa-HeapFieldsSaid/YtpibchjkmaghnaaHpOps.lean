/- Scripts of calls on heaps, as data, and as they come in. -/
import Derived.Test.YtpibchjkmaghnaaHpVals
import Derived.Test.YtpibchjkmaghnaaOpenS
import Derived.Test.YtpibchjkmaghnaaBulk
namespace Go.Proofs.Ytpibchjkmaghnaa
open Go.RowKit Go.Mm Go.WideShapes Go.ChangeShapes
set_option maxHeartbeats 1000000
set_option maxRecDepth 100000
/-- A number from 0 to n - 1 out of any. -/
theorem pick_ok (w : World) (k N : Int) (n : Nat) (hN : N = n) (hn : n ≤ 1048577) (h0 : 0 < n) :
    Calls Try.prog 12 #[.int .i64 k, .int .i64 N] w fun e w' => ∃ j : Nat, e = .returned (.int .i64 j) ∧ w' = w ∧ j < n := by
  subst hN
  go_enter Try.func12, Try.ntmps12
  have h1 : ((n : Int) < 1) = False := by simp; omega
  have hb : -(n : Int) < k.tmod n ∧ k.tmod n < n := by
    have hn0 : (0 : Int) < n := by omega
    exact ⟨Int.lt_tmod_of_pos k hn0, Int.tmod_lt_of_pos k hn0⟩
  by_cases hs : k.tmod n < 0
  · have hw : wrap64 (k.tmod n + n) = k.tmod n + n := IntWalk.wrap64_in _ (by omega)
    have hw2 : IntKind.i64.wrap (k.tmod n + n) = k.tmod n + n := IntWalk.i64_in _ (by omega)
    go_wp2
    go_ret
    exact ⟨(k.tmod n + n).toNat, by rw [Int.toNat_of_nonneg (by omega)]; rfl, rfl, by omega⟩
  · go_wp2
    go_ret
    exact ⟨(k.tmod n).toNat, by rw [Int.toNat_of_nonneg (by omega)]; rfl, rfl, by omega⟩
/-- A call on a heap. -/
structure HOp where
  on : Int
  kd : Int
  v : V2
  x : V2
  I : Int
  M : Int
  A : Option Addr
  n : Nat
  c : Nat
  items : List V2
def cHO (o : HOp) : List Value := [.int .i64 o.on, .int .i64 o.kd, .int .i64 o.v.1, .int .i64 o.v.2, .int .i64 o.x.1, .int .i64 o.x.2, .int .i64 o.I, .int .i64 o.M, .slice o.A o.n o.c]
theorem cHO_len (x : HOp) : (cHO x).length = 9 := rfl
theorem cHO_one (x : HOp) : One (cHO x) := fun u hu => by simp [cHO] at hu; rcases hu with rfl | rfl | rfl | rfl | rfl | rfl | rfl | rfl | rfl <;> rfl
def hop0 : HOp := ⟨0, 0, (0, 0), (0, 0), 0, 0, none, 0, 0, []⟩
section
variable {H : Type} {enc : TypeId × Value → H} {w : World}
theorem fl_V : fieldsOf Try.prog 27 = some [(3, 0), (2, 1)] := by kernel_rfl
theorem fl_HO : fieldsOf Try.prog 32 = some [(3, 0), (3, 1), (27, 2), (27, 4), (2, 6), (3, 7), (30, 8)] := by kernel_rfl
theorem co_int : Try.prog.cellsOf 3 = 1 := by kernel_rfl
theorem co_i64 : Try.prog.cellsOf 2 = 1 := by kernel_rfl
theorem co_V : Try.prog.cellsOf 27 = 2 := by kernel_rfl
theorem co_Vs : Try.prog.cellsOf 30 = 1 := by kernel_rfl
theorem co_HO : Try.prog.cellsOf 32 = 9 := by kernel_rfl
theorem ty_i64 : Try.prog.underlying 2 = some (.int .i64) := by kernel_rfl
theorem ty_HOs : Try.prog.underlying 22 = some (.slice 32) := by kernel_rfl
theorem hel_V (fuel : Nat) (cs : List Value) (d : DataW H) (ps : List MemPlace) (h : DataW.trod enc Try.prog w 0 (fun _ => true) true fuel 27 cs = some (d, ps)) : ∃ x, cs = cV x ∧ True := by
  obtain ⟨xs, n, rfl, hl, hx, hi⟩ := open_struct fl_V h
  rw [co_V] at hl
  obtain ⟨a, b, rfl⟩ := list2 hl
  obtain ⟨⟨d1, p1⟩, ⟨d2, p2⟩, rfl⟩ := list2 hx
  have h1 := hi 0 _ _ rfl
  have h2 := hi 1 _ _ rfl
  rw [co_int] at h1
  rw [co_i64] at h2
  obtain ⟨x, rfl, _⟩ := open_i ty_int h1
  obtain ⟨y, rfl, _⟩ := open_i ty_i64 h2
  exact ⟨(x, y), rfl, trivial⟩
theorem bulk_part {d : DataW H} {xs : List (DataW H)} (h : d ∈ xs) : Rows.uptoBulk d + 1 ≤ Rows.uptoBulk (.agg xs) := by
  have := bulk_mem xs d h
  simp only [Rows.uptoBulk]; omega
theorem cells_len {d : DataW H} {n c : Nat} {α : Type} {xs : List α} {Good : DataW H → α → Prop} (h : (d = .nil ∧ xs = [] ∧ n = 0) ∨ ∃ (ds sp : List (DataW H)), d = .slice ds sp ∧ ds.length = n ∧ sp.length = c - n ∧ n ≤ c ∧ ∀ (i : Nat) (x : α), xs[i]? = some x → ∃ y, ds[i]? = some y ∧ Good y x) : n + 1 ≤ Rows.uptoBulk d := by
  refine bulk_slice (c := c) (xs := xs) ?_
  rcases h with h | ⟨ds, sp, h1, h2, h3, h4, _⟩
  · exact .inl h
  · exact .inr ⟨ds, sp, h1, h2, h3, h4⟩
theorem cells_each {d : DataW H} {n c : Nat} {α : Type} {xs : List α} {Good : DataW H → α → Prop} (h : (d = .nil ∧ xs = [] ∧ n = 0) ∨ ∃ (ds sp : List (DataW H)), d = .slice ds sp ∧ ds.length = n ∧ sp.length = c - n ∧ n ≤ c ∧ ∀ (i : Nat) (x : α), xs[i]? = some x → ∃ y, ds[i]? = some y ∧ Good y x) {x : α} (hx : x ∈ xs) : ∃ y, Good y x ∧ Rows.uptoBulk y + 1 ≤ Rows.uptoBulk d := by
  rcases h with ⟨_, rfl, _⟩ | ⟨ds, sp, rfl, h2, h3, h4, h5⟩
  · cases hx
  · obtain ⟨i, hi⟩ := List.mem_iff_getElem?.1 hx
    obtain ⟨y, h6, h7⟩ := h5 i x hi
    have := bulk_at h6
    exact ⟨y, h7, by simp only [Rows.uptoBulk]; omega⟩
theorem list7 {α : Type} {l : List α} (h : l.length = 7) : ∃ a b c d e f g, l = [a, b, c, d, e, f, g] := by
  match l with
  | [a, b, c, d, e, f, g] => exact ⟨a, b, c, d, e, f, g, rfl⟩
theorem list9 {α : Type} {l : List α} (h : l.length = 9) : ∃ a b c d e f g x y, l = [a, b, c, d, e, f, g, x, y] := by
  match l with
  | [a, b, c, d, e, f, g, x, y] => exact ⟨a, b, c, d, e, f, g, x, y, rfl⟩
theorem hel_HO (fuel : Nat) (cs : List Value) (d : DataW H) (ps : List MemPlace) (h : DataW.trod enc Try.prog w 0 (fun _ => true) true fuel 32 cs = some (d, ps)) : ∃ x, cs = cHO x ∧ (RdC w 2 (.slice x.A x.n x.c) (fV x.items) ∧ x.n + 2 ≤ Rows.uptoBulk d) := by
  obtain ⟨xs, n, rfl, hl, hx, hi⟩ := open_struct fl_HO h
  rw [co_HO] at hl
  obtain ⟨a, b, c, e, f, g, x, y, z, rfl⟩ := list9 hl
  obtain ⟨⟨d1, p1⟩, ⟨d2, p2⟩, ⟨d3, p3⟩, ⟨d4, p4⟩, ⟨d5, p5⟩, ⟨d6, p6⟩, ⟨d7, p7⟩, rfl⟩ := list7 hx
  have h1 := hi 0 _ _ rfl
  have h2 := hi 1 _ _ rfl
  have h3 := hi 2 _ _ rfl
  have h4 := hi 3 _ _ rfl
  have h5 := hi 4 _ _ rfl
  have h6 := hi 5 _ _ rfl
  have h7 := hi 6 _ _ rfl
  rw [co_int] at h1 h2 h6
  rw [co_V] at h3 h4
  rw [co_i64] at h5
  rw [co_Vs] at h7
  obtain ⟨x1, rfl, _⟩ := open_i ty_int h1
  obtain ⟨x2, rfl, _⟩ := open_i ty_int h2
  obtain ⟨x3, e3, _⟩ := hel_V _ _ _ _ h3
  obtain ⟨x4, e4, _⟩ := hel_V _ _ _ _ h4
  obtain ⟨x5, rfl, _⟩ := open_i ty_i64 h5
  obtain ⟨x6, rfl, _⟩ := open_i ty_int h6
  obtain ⟨A, m, k, zs, e7, r7, l7, g7⟩ := open_cells (cV) (fun _ _ => True) 2 (by omega) ty_Vs co_V (fun x => ⟨cV_len x, cV_one x⟩) hel_V h7
  replace e3 : [c, e] = cV x3 := e3
  replace e4 : [f, g] = cV x4 := e4
  replace e7 : [z] = [.slice A m k] := e7
  simp only [cV, List.cons.injEq, and_true] at e3 e4 e7
  obtain ⟨rfl, rfl⟩ := e3
  obtain ⟨rfl, rfl⟩ := e4
  subst e7
  have b7 := cells_len g7
  have q7 := bulk_part (d := d7) (xs := [d1, d2, d3, d4, d5, d6, d7]) (by simp)
  exact ⟨⟨x1, x2, x3, x4, x5, x6, A, m, k, zs⟩, rfl, r7, by show m + 2 ≤ _; simp at q7 ⊢; omega⟩
/-- A script that came in. -/
theorem open_hops {v : Value} {d : DataW H} {p : List MemPlace} {base : Nat} (h : DataW.Trod enc Try.prog w 0 (fun _ => true) true 22 v d p) (ok : Value.okWide Try.prog w .any base 22 v) :
    ∃ (A : Option Addr) (n c : Nat) (ops : List HOp), v = .slice A n c ∧ RdC w 9 (.slice A n c) (ops.flatMap cHO) ∧ (∀ x, x ∈ ops → RdC w 2 (.slice x.A x.n x.c) (fV x.items) ∧ x.n + 3 ≤ Rows.uptoBulk d) ∧ n + 1 ≤ Rows.uptoBulk d := by
  obtain ⟨A, n, c, xs, rfl, hr, hl, hd⟩ := open_list cHO (fun d x => RdC w 2 (.slice x.A x.n x.c) (fV x.items) ∧ x.n + 2 ≤ Rows.uptoBulk d) 9 (by omega) ty_HOs co_HO (fun x => ⟨cHO_len x, cHO_one x⟩) hel_HO h ok
  refine ⟨A, n, c, xs, rfl, hr, fun f hf => ?_, cells_len hd⟩
  obtain ⟨y, hy, hb'⟩ := cells_each hd hf
  exact ⟨hy.1, by have := hy.2; omega⟩
/-- Call number k of a script. -/
theorem rdHO_at {A : Option Addr} {n c : Nat} {ops : List HOp} (h : RdC w 9 (.slice A n c) (ops.flatMap cHO)) (k : Nat) (hk : k < n) :
    ∃ b o, A = some ⟨b, o, none⟩ ∧ (∀ (j : Nat) (u : Value), (cHO (ops.getD k hop0))[j]? = some u → w.cell? ⟨b, o + k * 9 + j, none⟩ = some u) ∧ k < ops.length := by
  obtain ⟨b, o, e, hc, _, h2⟩ := rd_at cHO_len (by omega) hop0 h k hk
  exact ⟨b, o, e, hc, h2⟩
end
end Go.Proofs.Ytpibchjkmaghnaa
