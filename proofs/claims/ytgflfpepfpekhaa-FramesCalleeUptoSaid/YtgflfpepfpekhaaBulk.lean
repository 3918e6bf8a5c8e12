/- How much a reading holds: bounds out of the given bulk. -/
import Derived.Test.YtgflfpepfpekhaaRows
namespace Go.Proofs.Ytgflfpepfpekhaa
variable {H : Type}
theorem bulk_pos (d : DataW H) : 1 ≤ Rows.uptoBulk d := by
  cases d with
  | lit l => cases l <;> simp [Rows.uptoBulk]
  | _ => simp [Rows.uptoBulk]
theorem bulk_len : ∀ (ds : List (DataW H)), ds.length ≤ Rows.uptoBulkAll ds
  | [] => by simp
  | d :: r => by have h1 := bulk_len r; have h2 := bulk_pos d; simp only [Rows.uptoBulkAll, List.length_cons]; omega
theorem bulk_mem : ∀ (ds : List (DataW H)) (d : DataW H), d ∈ ds → Rows.uptoBulk d ≤ Rows.uptoBulkAll ds
  | [], _, h => by cases h
  | x :: r, d, h => by
    simp only [Rows.uptoBulkAll]
    rcases List.mem_cons.1 h with rfl | h
    · omega
    · have := bulk_mem r d h; omega
theorem bulk_at {ds : List (DataW H)} {d : DataW H} {i : Nat} (h : ds[i]? = some d) : Rows.uptoBulk d ≤ Rows.uptoBulkAll ds := bulk_mem ds d (List.mem_of_getElem? h)
theorem bulk_small {ds : List (DataW H)} (h : Rows.uptoSmall H ds = true) : Rows.uptoBulkAll ds ≤ 1048576 := by simpa [Rows.uptoSmall] using h
/-- A slice's length, out of its bulk. -/
theorem bulk_slice {d : DataW H} {n c : Nat} {α : Type} {xs : List α} (h : (d = .nil ∧ xs = [] ∧ n = 0) ∨ ∃ (ds sp : List (DataW H)), d = .slice ds sp ∧ ds.length = n ∧ sp.length = c - n ∧ n ≤ c) : n + 1 ≤ Rows.uptoBulk d := by
  rcases h with ⟨rfl, _, rfl⟩ | ⟨ds, sp, rfl, rfl, _, _⟩
  · simp [Rows.uptoBulk]
  · have := bulk_len ds; simp only [Rows.uptoBulk]; omega
end Go.Proofs.Ytgflfpepfpekhaa
