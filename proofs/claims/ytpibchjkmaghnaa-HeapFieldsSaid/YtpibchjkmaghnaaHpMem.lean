/- A heap in memory: one thing taken out, changed, put back; New, Spend, Len, Spent. -/
import Derived.Test.YtpibchjkmaghnaaHpNamed
namespace Go.Mm
theorem Mem.drop2 {w0 w : World} {a b : Chunk} {L : List Chunk} (h : Mem w0 w (a :: b :: L)) : Mem w0 w (a :: L) := h.sub ((List.sublist_cons_self _ _).cons_cons _)
end Go.Mm
namespace Go.Proofs.Ytpibchjkmaghnaa
open Go.RowKit Go.Mm
set_option maxHeartbeats 2000000
set_option maxRecDepth 100000
/-- What is left of a heap beside one thing. -/
def Hp.rest (h : Hp) (i : Nat) : List Chunk := Blk h.g (.cells h.cells.toArray 93) :: Own 1 (.slice h.A h.ths.length h.c) (h.ths.map Th.val) :: (h.ths.take i ++ h.ths.drop (i + 1)).map ThC
/-- A heap, thing number i another. -/
def Hp.upd (h : Hp) (i : Nat) (t : Th) : Hp := { h with ths := h.ths.set i t }
theorem Hp.opn {w0 w : World} {L : List Chunk} {h : Hp} (hm : Mem w0 w (HpC h :: L)) (i : Nat) (hi : i < h.ths.length) : Mem w0 w ((h.ths.getD i th0).chunks ++ (h.rest i ++ L)) := by
  have h1 : Mem w0 w (h.chunks ++ L) := Mem.opn hm
  have hp : (h.ths.map ThC).Perm (ThC (h.ths.getD i th0) :: (h.ths.take i ++ h.ths.drop (i + 1)).map ThC) := by
    have := (perm_pull h.ths i (h.ths.getD i th0) (by simp [hi])).map ThC
    simpa using this
  have h2 : Mem w0 w (ThC (h.ths.getD i th0) :: (h.rest i ++ L)) := by
    refine h1.perm ?_
    have e : (h.chunks ++ L).Perm ((Blk h.g (.cells h.cells.toArray 93) :: Own 1 (.slice h.A h.ths.length h.c) (h.ths.map Th.val) :: ThC (h.ths.getD i th0) :: (h.ths.take i ++ h.ths.drop (i + 1)).map ThC) ++ L) :=
      List.Perm.append_right L (List.Perm.cons _ (List.Perm.cons _ hp))
    exact e.trans (((List.Perm.swap _ _ _).cons _).trans (List.Perm.swap _ _ _))
  exact Mem.opn h2
theorem Hp.cls {w0 w : World} {L : List Chunk} {h : Hp} (i : Nat) (hi : i < h.ths.length) (t : Th) (hv : t.val = (h.ths.getD i th0).val) (hm : Mem w0 w (t.chunks ++ (h.rest i ++ L))) : Mem w0 w (HpC (h.upd i t) :: L) := by
  have h1 : Mem w0 w (ThC t :: (h.rest i ++ L)) := Mem.sht t.chunks hm
  have hp : (ThC t :: (h.ths.take i ++ h.ths.drop (i + 1)).map ThC).Perm ((h.ths.set i t).map ThC) := by
    have := (perm_back h.ths i hi t).map ThC
    simpa using this
  have hvs : (h.ths.set i t).map Th.val = h.ths.map Th.val := by
    rw [List.map_set, hv]
    apply List.ext_getElem (by simp)
    intro j h1 h2
    rw [List.getElem_set]
    split
    · rename_i e; subst e; simp [hi]
    · rfl
  refine Mem.sht (h.upd i t).chunks (h1.perm ?_)
  have e : ((Blk h.g (.cells h.cells.toArray 93) :: Own 1 (.slice h.A h.ths.length h.c) (h.ths.map Th.val) :: ThC t :: (h.ths.take i ++ h.ths.drop (i + 1)).map ThC) ++ L).Perm ((h.upd i t).chunks ++ L) := by
    refine List.Perm.append_right L ?_
    unfold Hp.chunks Hp.cells Hp.upd
    simp only [List.length_set, hvs]
    exact List.Perm.cons _ (List.Perm.cons _ hp)
  exact ((List.Perm.swap _ _ _).trans ((List.Perm.swap _ _ _).cons _)).trans e
/-- Is there room for so much? -/
def Hp.room (h : Hp) (n : Int) : Bool := decide (0 ≤ n) && decide (n ≤ h.budget - h.spent)
def Hp.spend (h : Hp) (n : Int) : Hp := if h.room n then { h with spent := h.spent + n } else h
theorem heapNew_ok (w0 w : World) (L : List Chunk) (hm : Mem w0 w L) (b s : Int) :
    Calls Try.prog 13 #[.int .i64 b, .int .i64 s] w fun e w' => ∃ g, e = .returned (.pointer (some ⟨g, 0, none⟩)) ∧ Mem w0 w' (HpC ⟨g, max b 0, max s 0, none, 0, []⟩ :: L) := by
  have key : ∀ X Y : Int, Mem w0 (w.alloc (.cells [.int .i64 X, .int .i64 Y, .slice none 0 0].toArray 93)) (HpC ⟨w.heap.size, X, Y, none, 0, []⟩ :: L) := fun X Y =>
    Mem.sht (Hp.chunks ⟨w.heap.size, X, Y, none, 0, []⟩) ((hm.nil 1 none).alloc _)
  go_enter Try.func13, Try.ntmps13
  go_wp2
  all_goals
    go_ret
    refine ⟨w.heap.size, rfl, ?_⟩
    (first | rw [show max b 0 = 0 by omega] | rw [show max b 0 = b by omega])
    (first | rw [show max s 0 = 0 by omega] | rw [show max s 0 = s by omega])
    exact key _ _
theorem heapLen_ok (w0 w : World) (L : List Chunk) (h : Hp) (hm : Mem w0 w L) (hh : HpC h ∈ L) :
    Calls Try.prog 20 #[.pointer (some ⟨h.g, 0, none⟩)] w fun e w' => e = .returned (.int .i64 h.ths.length) ∧ w' = w := by
  obtain ⟨_, _, c2, _, _, _⟩ := Hp.read hm hh
  go_enter Try.func20, Try.ntmps20
  go_wp2
  go_ret
  exact ⟨rfl, rfl⟩
theorem heapSpent_ok (w0 w : World) (L : List Chunk) (h : Hp) (hm : Mem w0 w L) (hh : HpC h ∈ L) :
    Calls Try.prog 19 #[.pointer (some ⟨h.g, 0, none⟩)] w fun e w' => e = .returned (.int .i64 h.spent) ∧ w' = w := by
  obtain ⟨_, c1, _, _, _, _⟩ := Hp.read hm hh
  go_enter Try.func19, Try.ntmps19
  go_wp2
  go_ret
  exact ⟨rfl, rfl⟩
theorem heapSpend_ok (w0 w : World) (L : List Chunk) (h : Hp) (hm : Mem w0 w (HpC h :: L)) (hok : Fact h.Ok) (n : Int) :
    Calls Try.prog 48 #[.pointer (some ⟨h.g, 0, none⟩), .int .i64 n] w fun e w' => e = .returned (.bool (h.room n)) ∧ Mem w0 w' (HpC (h.spend n) :: L) := by
  obtain ⟨c0, c1, _, _, _, _⟩ := Hp.read hm m0
  have b0 := hok.out.b0
  have b1 := hok.out.b1
  have s0 := hok.out.s0
  have s1 := hok.out.s1
  have e1 : IntKind.i64.wrap (h.budget - h.spent) = h.budget - h.spent := IntWalk.i64_in _ (by omega)
  go_enter Try.func48, Try.ntmps48
  go_upto_region 1 with (fail)
  by_cases q0 : n < 0
  · have q0' : decide (n < 0) = true := decide_eq_true q0
    have hr : Fact (h.room n = false) := ⟨by unfold Hp.room; simp; omega⟩
    go_quiet (fail)
    go_wp2
    go_ret
    refine ⟨by rw [hr.out]; rfl, ?_⟩
    rw [show h.spend n = h from by unfold Hp.spend; rw [hr.out]; rfl]
    exact hm.drewN _
  · have q0' : decide (n < 0) = false := decide_eq_false q0
    by_cases q1 : h.budget - h.spent < n
    · have q1' : decide (n > h.budget - h.spent) = true := decide_eq_true q1
      have hr : Fact (h.room n = false) := ⟨by unfold Hp.room; simp; omega⟩
      go_quiet (fail)
      go_wp2
      go_ret
      refine ⟨by rw [hr.out]; rfl, ?_⟩
      rw [show h.spend n = h from by unfold Hp.spend; rw [hr.out]; rfl]
      exact hm.drewN _
    · have q1' : decide (n > h.budget - h.spent) = false := decide_eq_false q1
      have hr : Fact (h.room n = true) := ⟨by unfold Hp.room; simp; omega⟩
      have e2 : IntKind.i64.wrap (h.spent + n) = h.spent + n := IntWalk.i64_in _ (by omega)
      go_quiet (fail)
      have hm1 := hm.drewN nq
      clear c0 c1
      generalize w.drewN nq = w1 at hm1 ⊢
      have hm2 : Mem w0 w1 (Blk h.g (.cells h.cells.toArray 93) :: (Own 1 (.slice h.A h.ths.length h.c) (h.ths.map Th.val) :: h.ths.map ThC ++ L)) := Mem.opn hm1
      have c1 := hm2.cell m0 1 rfl
      have f1 := hm2.free m0 1
      go_wp2
      go_ret
      refine ⟨by rw [hr.out]; rfl, ?_⟩
      have hm3 := hm2.set 1 (.int .i64 (h.spent + n))
      rw [show h.spend n = { h with spent := h.spent + n } from by unfold Hp.spend; rw [hr.out]; rfl]
      exact Mem.sht (Hp.chunks { h with spent := h.spent + n }) hm3
end Go.Proofs.Ytpibchjkmaghnaa
