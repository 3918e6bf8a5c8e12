/- Scripts of calls on stacks, as data, and as they come in. -/
import Derived.Test.YtgflfpepfpekhaaStkRef
import Derived.Test.YtgflfpepfpekhaaFrOpenP
namespace Go.Proofs.Ytgflfpepfpekhaa
open Go.RowKit Go.Mm Go.WideShapes
set_option maxRecDepth 100000
set_option linter.unusedSimpArgs false
structure OpL where
  on : Int
  kd : Int
  N : Int
  A : Option Addr
  n : Nat
  c : Nat
  xs : List Int
def cO (x : OpL) : List Value := [.int .i64 x.on, .int .i64 x.kd, .int .i64 x.N, .slice x.A x.n x.c]
theorem cO_len (x : OpL) : (cO x).length = 4 := rfl
theorem cO_one (x : OpL) : One (cO x) := fun u hu => by simp [cO] at hu; rcases hu with rfl | rfl | rfl | rfl <;> rfl
theorem row_O : (Try.prog.underlying 53).map (·.isRow) = some true := by kernel_rfl
theorem szO : (Try.prog.info? 53).map (·.size) = some 4 := by kernel_rfl
def op0 : OpL := ⟨0, 0, 0, none, 0, 0, []⟩
def tot : List OpL → Nat
  | [] => 0
  | x :: l => 1 + x.n + tot l
theorem tot_app (a b : List OpL) : tot (a ++ b) = tot a + tot b := by
  induction a with
  | nil => simp [tot]
  | cons x a ih => simp [tot, ih]; omega
theorem tot_succ (ops : List OpL) (k : Nat) (h : k < ops.length) : tot (ops.take (k + 1)) = tot (ops.take k) + 1 + (ops.getD k op0).n := by
  rw [List.take_succ_eq_append_getElem h, tot_app]
  simp [tot, h]; omega
theorem tot_take (ops : List OpL) (k : Nat) : tot (ops.take k) ≤ tot ops := by
  conv => rhs; rw [← List.take_append_drop k ops, tot_app]
  omega
theorem tot_le (ops : List OpL) (k : Nat) : k ≤ ops.length → k ≤ tot (ops.take k) := by
  induction k with
  | zero => intro _; omega
  | succ k ih => intro h; rw [tot_succ ops k (by omega)]; have := ih (by omega); omega
structure ScrOk (w : World) (A : Option Addr) (m c : Nat) (ops : List OpL) : Prop where
  rd : RdC w 4 (.slice A m c) (ops.flatMap cO)
  each : ∀ x, x ∈ ops → RdC w 1 (.slice x.A x.n x.c) (nums .i64 x.xs) ∧ x.n ≤ 1048576 ∧ x.N ≤ 9223372036854775807
section
variable {H : Type} {enc : TypeId × Value → H} {w : World}
theorem fl_O : fieldsOf Try.prog 53 = some [(3, 0), (3, 1), (3, 2), (51, 3)] := by kernel_rfl
theorem co_O : Try.prog.cellsOf 53 = 4 := by kernel_rfl
theorem co_long : Try.prog.cellsOf 2 = 1 := by kernel_rfl
theorem co_longs : Try.prog.cellsOf 51 = 1 := by kernel_rfl
theorem ty_Ops : Try.prog.underlying 50 = some (.slice 53) := by kernel_rfl
def cN (x : Int) : List Value := [.int .i64 x]
theorem cN_nums (xs : List Int) : xs.flatMap cN = nums .i64 xs := by induction xs with
  | nil => rfl
  | cons x xs ih => simp [cN, nums, ih] at *
theorem hel_N (fuel : Nat) (cs : List Value) (d : DataW H) (ps : List MemPlace) (h : DataW.trod enc Try.prog w 0 (fun _ => true) true fuel 2 cs = some (d, ps)) : ∃ x, cs = cN x ∧ True := by
  obtain ⟨n, e, hx, hw⟩ := DataW.trod_int ty_long h
  exact ⟨n, e, trivial⟩
theorem i64_le {n : Int} (h : (Lit.int .i64 n).wf = true) : n ≤ 9223372036854775807 := by
  simp only [Lit.wf, IntKind.min, IntKind.max, IntKind.signed, IntKind.bits, Bool.and_eq_true, decide_eq_true_eq, if_true] at h
  omega
theorem hel_O (fuel : Nat) (cs : List Value) (d : DataW H) (ps : List MemPlace) (h : DataW.trod enc Try.prog w 0 (fun _ => true) true fuel 53 cs = some (d, ps)) : ∃ x, cs = cO x ∧ (RdC w 1 (.slice x.A x.n x.c) (nums .i64 x.xs) ∧ x.n + 2 ≤ Rows.uptoBulk d ∧ x.N ≤ 9223372036854775807) := by
  obtain ⟨xs, n, rfl, hl, hx, hi⟩ := open_struct fl_O h
  rw [co_O] at hl
  obtain ⟨a, b, c, e, rfl⟩ := list4 hl
  obtain ⟨⟨d1, p1⟩, ⟨d2, p2⟩, ⟨d3, p3⟩, ⟨d4, p4⟩, rfl⟩ := list4 hx
  have h1 := hi 0 _ _ rfl
  have h2 := hi 1 _ _ rfl
  have h3 := hi 2 _ _ rfl
  have h4 := hi 3 _ _ rfl
  rw [co_int] at h1 h2 h3
  rw [co_longs] at h4
  obtain ⟨x, rfl, _⟩ := open_i ty_int h1
  obtain ⟨y, rfl, _⟩ := open_i ty_int h2
  obtain ⟨z, rfl, _, hz⟩ := open_i ty_int h3
  obtain ⟨A, m, k, zs, e4, r4, l4, g4⟩ := open_cells (cN) (fun _ _ => True) 1 (by omega) ty_longs co_long (fun x => ⟨rfl, fun u hu => by simp [cN] at hu; subst hu; rfl⟩) hel_N h4
  have e6 : e = .slice A m k := by simpa using e4
  clear e4
  subst e6
  have b4 := cells_len g4
  have q4 := bulk_part (d := d4) (xs := [d1, d2, d3, d4]) (by simp)
  refine ⟨⟨x, y, z, A, m, k, zs⟩, rfl, by rw [← cN_nums]; exact r4, by show m + 2 ≤ _; simp at q4 ⊢; omega, i64_le hz⟩
theorem open_script {v : Value} {d : DataW H} {p : List MemPlace} {base : Nat} (h : DataW.Trod enc Try.prog w 0 (fun _ => true) true 50 v d p) (ok : Value.okWide Try.prog w .any base 50 v) (hb : Rows.uptoBulk d ≤ 1048576) :
    ∃ A n c ops, v = .slice A n c ∧ ScrOk w A n c ops ∧ n + 1 ≤ Rows.uptoBulk d := by
  obtain ⟨A, n, c, xs, rfl, hr, hl, hd⟩ := open_list cO (fun d x => RdC w 1 (.slice x.A x.n x.c) (nums .i64 x.xs) ∧ x.n + 2 ≤ Rows.uptoBulk d ∧ x.N ≤ 9223372036854775807) 4 (by omega) ty_Ops co_O (fun x => ⟨cO_len x, cO_one x⟩) hel_O h ok
  refine ⟨A, n, c, xs, rfl, ⟨hr, fun f hf => ?_⟩, cells_len hd⟩
  obtain ⟨y, hy, hb'⟩ := cells_each hd hf
  exact ⟨hy.1, by have := hy.2.1; omega, hy.2.2⟩
end
end Go.Proofs.Ytgflfpepfpekhaa
