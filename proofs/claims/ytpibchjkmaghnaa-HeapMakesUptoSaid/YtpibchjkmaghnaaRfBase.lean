/- The reference's heap: as data, where it lies; New, Room, Spend, make. -/
import Derived.Test.YtpibchjkmaghnaaHpSame
namespace Go.Proofs.Ytpibchjkmaghnaa
open Go.RowKit Go.Mm
set_option maxHeartbeats 4000000
set_option maxRecDepth 100000
set_option linter.unusedSimpArgs false
def RO.chunks (x : RO) : List Chunk := [Own 2 (.slice x.A x.ob.items.length x.c) (fV x.ob.items), Own 1 (.slice x.KA x.ob.keys.length x.kc) (nums .i64 x.ob.keys)]
def RoC (x : RO) : Chunk := Chunk.all x.chunks
theorem RoC.reads {x : RO} {w : World} (h : (RoC x).ok w) : x.reads w := ⟨(h.1 _ (.head _) : OwnAt _ _ _ w).rd, (h.1 _ (.tail _ (.head _)) : OwnAt _ _ _ w).rd⟩
structure Rf where
  g : Nat
  budget : Int
  spent : Int
  A : Option Addr
  c : Nat
  xs : List RO
def Rf.cells (r : Rf) : List Value := [.int .i64 r.budget, .int .i64 r.spent, .slice r.A r.xs.length r.c]
def Rf.chunks (r : Rf) : List Chunk := Blk r.g (.cells r.cells.toArray 57) :: Own 6 (.slice r.A r.xs.length r.c) (r.xs.flatMap cRO) :: r.xs.map RoC
def RfC (r : Rf) : Chunk := Chunk.all r.chunks
def Rf.abs (r : Rf) : Hs := ⟨r.budget, r.spent, r.xs.map (·.ob)⟩
structure Rf.Ok (r : Rf) : Prop where
  each : ∀ x, x ∈ r.xs → x.ob.items.length ≤ 1048576 ∧ x.ob.keys.length ≤ 1048576
  size : r.xs.length ≤ 16777216
  b0 : 0 ≤ r.budget
  b1 : r.budget ≤ 9223372036854775807
  s0 : 0 ≤ r.spent
  s1 : r.spent ≤ 9223372036854775807
def RfQ (w0 : World) (L : List Chunk) (g : Nat) (s : Hs) (w : World) : Prop := ∃ r : Rf, r.g = g ∧ r.abs = s ∧ r.Ok ∧ Mem w0 w (RfC r :: L)
theorem Hs.room_rng {s : Hs} {n : Int} (h : s.room n = true) : 0 ≤ n ∧ n ≤ s.budget - s.spent := by simpa [Hs.room] using h
theorem Rf.abs_len (r : Rf) : r.abs.objs.length = r.xs.length := by simp [Rf.abs]
theorem Rf.read {w0 w : World} {L : List Chunk} {r : Rf} (hm : Mem w0 w L) (hh : RfC r ∈ L) :
    w.cell? ⟨r.g, 0, none⟩ = some (.int .i64 r.budget) ∧ w.cell? ⟨r.g, 1, none⟩ = some (.int .i64 r.spent) ∧ w.cell? ⟨r.g, 2, none⟩ = some (.slice r.A r.xs.length r.c) ∧ ObsR w r.A r.xs.length r.c r.xs := by
  have ho := hm.ok _ hh
  have hb : w.heap[r.g]? = some (.cells r.cells.toArray 57 (0, 0)) := ho.1 _ (.head _)
  have hs : OwnAt 6 (.slice r.A r.xs.length r.c) (r.xs.flatMap cRO) w := ho.1 _ (.tail _ (.head _))
  refine ⟨by rw [cell_of_row w _ _ _ _ _ hb]; rfl, by rw [cell_of_row w _ _ _ _ _ hb]; rfl, by rw [cell_of_row w _ _ _ _ _ hb]; rfl, hs.rd, fun x hx => ?_⟩
  have ht : (RoC x).ok w := ho.1 _ (.tail _ (.tail _ (List.mem_map_of_mem hx)))
  exact RoC.reads ht
theorem refNew_ok (w0 w : World) (L : List Chunk) (hm : Mem w0 w L) (b s : Int) :
    Calls Try.prog 44 #[.int .i64 b, .int .i64 s] w fun e w' => ∃ g, e = .returned (.pointer (some ⟨g, 0, none⟩)) ∧ Mem w0 w' (RfC ⟨g, max b 0, max s 0, none, 0, []⟩ :: L) := by
  have key : ∀ X Y : Int, Mem w0 (w.alloc (.cells [.int .i64 X, .int .i64 Y, .slice none 0 0].toArray 57)) (RfC ⟨w.heap.size, X, Y, none, 0, []⟩ :: L) := fun X Y =>
    Mem.sht (Rf.chunks ⟨w.heap.size, X, Y, none, 0, []⟩) ((hm.nil 6 none).alloc _)
  by_cases hb : b < 0 <;> by_cases hs : s < 0
  all_goals
    go_enter Try.func44, Try.ntmps44
    go_wp2
    go_ret
    refine ⟨w.heap.size, rfl, ?_⟩
    (first | rw [show max b 0 = 0 by omega] | rw [show max b 0 = b by omega])
    (first | rw [show max s 0 = 0 by omega] | rw [show max s 0 = s by omega])
    exact key _ _
theorem refRoom_ok (w0 w : World) (L : List Chunk) (r : Rf) (hm : Mem w0 w L) (hh : RfC r ∈ L) (hok : Fact r.Ok) (n : Int) :
    Calls Try.prog 104 #[.pointer (some ⟨r.g, 0, none⟩), .int .i64 n] w fun e w' => e = .returned (.bool (r.abs.room n)) ∧ ∃ m, w' = w.drewN m := by
  obtain ⟨c0, c1, _, _⟩ := Rf.read hm hh
  have b0 := hok.out.b0
  have b1 := hok.out.b1
  have s0 := hok.out.s0
  have s1 := hok.out.s1
  have e1 : IntKind.i64.wrap (r.budget - r.spent) = r.budget - r.spent := IntWalk.i64_in _ (by omega)
  by_cases q0 : 0 ≤ n
  · have q0' : decide (n ≥ 0) = true := decide_eq_true q0
    by_cases q1 : r.spent ≤ r.budget
    · have q1' : decide (r.spent ≤ r.budget) = true := decide_eq_true q1
      have hr : r.abs.room n = decide (n ≤ r.budget - r.spent) := by unfold Hs.room; rw [decide_eq_true q0]; rfl
      rw [hr]
      clear hr
      go_enter Try.func104, Try.ntmps104
      go_upto_region 1 with (fail)
      go_quiet (fail)
      go_wp2
      go_ret
      exact ⟨rfl, _, rfl⟩
    · have q1' : decide (r.spent ≤ r.budget) = false := decide_eq_false q1
      have hr : r.abs.room n = false := by unfold Hs.room; rw [decide_eq_false (show ¬ n ≤ r.abs.budget - r.abs.spent by show ¬ n ≤ r.budget - r.spent; omega), Bool.and_false]
      rw [hr]
      clear hr
      go_enter Try.func104, Try.ntmps104
      go_upto_region 1 with (fail)
      go_quiet (fail)
      go_wp2
      go_ret
      exact ⟨rfl, _, rfl⟩
  · have q0' : decide (n ≥ 0) = false := decide_eq_false q0
    have hr : r.abs.room n = false := by unfold Hs.room; rw [decide_eq_false q0, Bool.false_and]
    rw [hr]
    clear hr
    go_enter Try.func104, Try.ntmps104
    go_upto_region 1 with (fail)
    go_quiet (fail)
    go_wp2
    go_ret
    exact ⟨rfl, _, rfl⟩
def Rf.pay (r : Rf) (n : Int) : Rf := { r with spent := r.spent + n }
theorem Rf.pay_ok {r : Rf} (hok : r.Ok) (n : Int) (hr : r.abs.room n = true) : (r.pay n).Ok := by
  have hr' : 0 ≤ n ∧ n ≤ r.budget - r.spent := Hs.room_rng hr
  have b1 := hok.b1
  have s0 := hok.s0
  exact ⟨hok.each, hok.size, hok.b0, hok.b1, by simp only [Rf.pay]; omega, by simp only [Rf.pay]; omega⟩
theorem refSpend_ok (w0 w : World) (L : List Chunk) (r : Rf) (hm : Mem w0 w (RfC r :: L)) (hok : Fact r.Ok) (n : Int) :
    Calls Try.prog 86 #[.pointer (some ⟨r.g, 0, none⟩), .int .i64 n] w fun e w' => e = .returned (.bool (r.abs.room n)) ∧ RfQ w0 L r.g (r.abs.spend n) w' := by
  unfold Hs.spend
  have hroom := refRoom_ok w0 w _ r hm m0 hok n
  cases hr : r.abs.room n with
  | false =>
    rw [hr] at hroom
    go_enter Try.func86, Try.ntmps86
    go_wp2_with fail
    refine hroom.mono ?_
    rintro e w1 ⟨rfl, m, rfl⟩
    go_wp2_with fail
    go_ret
    exact ⟨rfl, r, rfl, rfl, hok.out, hm.drewN m⟩
  | true =>
    have hok2 := Rf.pay_ok hok.out n hr
    have hr' : 0 ≤ n ∧ n ≤ r.budget - r.spent := Hs.room_rng hr
    have b1 := hok.out.b1
    have s0 := hok.out.s0
    have e2 : IntKind.i64.wrap (r.spent + n) = r.spent + n := IntWalk.i64_in _ (by omega)
    rw [hr] at hroom
    clear hr
    go_enter Try.func86, Try.ntmps86
    go_wp2_with fail
    refine hroom.mono ?_
    rintro e w1 ⟨rfl, m, rfl⟩
    have hm1 := hm.drewN m
    generalize w.drewN m = w1 at hm1 ⊢
    have hm2 : Mem w0 w1 (Blk r.g (.cells r.cells.toArray 57) :: (Own 6 (.slice r.A r.xs.length r.c) (r.xs.flatMap cRO) :: r.xs.map RoC ++ L)) := Mem.opn hm1
    have c1 := hm2.cell m0 1 rfl
    have f1 := hm2.free m0 1
    go_wp2
    go_ret
    have hm3 := hm2.set 1 (.int .i64 (r.spent + n))
    exact ⟨rfl, r.pay n, rfl, rfl, hok2, Mem.sht (Rf.chunks (r.pay n)) hm3⟩
theorem ty_Os : Try.prog.underlying 42 = some (.slice 71) := by kernel_rfl
theorem inf_O : (Try.prog.info? 71).map (fun i => (i.zero, i.size, i.bytes)) = some (some (.agg #[.int .i64 0, .slice none 0 0, .slice none 0 0, .int .i64 0, .int .i64 0, .bool false]), 6, 80) := by kernel_rfl
end Go.Proofs.Ytpibchjkmaghnaa
