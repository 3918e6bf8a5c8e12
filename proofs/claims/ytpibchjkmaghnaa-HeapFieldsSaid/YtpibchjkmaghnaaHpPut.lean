/- A heap's new objects: put. -/
import Derived.Test.YtpibchjkmaghnaaHpMem
namespace Go.Proofs.Ytpibchjkmaghnaa
open Go.RowKit Go.Mm
set_option maxHeartbeats 2000000
set_option maxRecDepth 100000
theorem ty_Ts : Try.prog.underlying 91 = some (.slice 102) := by kernel_rfl
theorem inf_T : (Try.prog.info? 102).map (fun i => (i.zero, i.size, i.bytes)) = some (some .nilIface, 1, 16) := by kernel_rfl
/-- A heap with one thing more, at a cost. -/
def Hp.push (h : Hp) (n : Int) (A : Option Addr) (c : Nat) (t : Th) : Hp := { h with spent := h.spent + n, A := A, c := c, ths := h.ths ++ [t] }
theorem putNo_ok (w0 w : World) (L : List Chunk) (h : Hp) (hm : Mem w0 w (HpC h :: L)) (hok : Fact h.Ok) (n : Int) (hr : Fact (h.room n = false)) (v : Value) :
    Calls Try.prog 53 #[.pointer (some ⟨h.g, 0, none⟩), .int .i64 n, v] w fun e w' => e = .returned (.tuple #[.agg #[.int .i64 0, .int .i64 0], .bool false]) ∧ Mem w0 w' (HpC h :: L) := by
  go_enter Try.func53, Try.ntmps53
  go_wp2_with fail
  have hm1 := hm.alloc (.cells [.int .i64 0, .int .i64 0].toArray 27)
  generalize hgb : w.heap.size = gb at hm1 ⊢
  generalize hw1 : w.alloc (.cells [.int .i64 0, .int .i64 0].toArray 27) = w1 at hm1
  try refine wp_world hw1 ?_
  clear hw1 hgb
  refine (heapSpend_ok w0 w1 (Blk gb (.cells [.int .i64 0, .int .i64 0].toArray 27) :: L) h hm1.swap hok n).mono ?_
  rintro e w2 ⟨rfl, hm2⟩
  rw [show h.spend n = h from by unfold Hp.spend; rw [hr.out]; rfl] at hm2
  rw [hr.out]
  go_wp2_with (refine wp_setrow rfl 27 _ _ rfl gb rfl 27 _ [.int .i64 0, .int .i64 0] rfl hm2.swap sz_V rfl (cV_one (0, 0)) ?_; intro w3 hm3)
  refine bodyPost_ret (Mm.res_cell_tmp rfl _ gb 27 [.int .i64 0, .int .i64 0] (0, 0) rfl hm3 m0 row_V sz_V) rfl ⟨rfl, hm3.tail⟩
theorem putYes_ok (w0 w : World) (L : List Chunk) (h : Hp) (t : Th) (hm : Mem w0 w (HpC h :: ThC t :: L)) (hok : Fact h.Ok) (n : Int) (hr : Fact (h.room n = true)) (hl : h.ths.length < 1099511627776) (hk : t.ob.kind = 6 ∨ t.ob.kind = 7 ∨ t.ob.kind = 8 ∨ t.ob.kind = 9) :
    Calls Try.prog 53 #[.pointer (some ⟨h.g, 0, none⟩), .int .i64 n, t.val] w fun e w' => ∃ A c, e = .returned (.tuple #[.agg #[.int .i64 t.ob.kind, .int .i64 h.ths.length], .bool true]) ∧ Mem w0 w' (HpC (h.push n A c t) :: L) := by
  obtain ⟨iT, hi, hz0, hz1, hz2⟩ := info_parts inf_T
  have hkd := kind_ok t hk
  clear hk
  unfold Th.val at hkd ⊢
  generalize hT : thTy t.ob.kind = T at hkd ⊢
  replace hT := Fact.mk hT
  go_enter Try.func53, Try.ntmps53
  go_wp2_with fail
  have hm1 := hm.alloc (.cells [.int .i64 0, .int .i64 0].toArray 27)
  generalize hgb : w.heap.size = gb at hm1 ⊢
  generalize hw1 : w.alloc (.cells [.int .i64 0, .int .i64 0].toArray 27) = w1 at hm1
  try refine wp_world hw1 ?_
  clear hw1 hgb
  refine (heapSpend_ok w0 w1 (Blk gb (.cells [.int .i64 0, .int .i64 0].toArray 27) :: ThC t :: L) h hm1.swap hok n).mono ?_
  rintro e w2 ⟨rfl, hm2⟩
  rw [show h.spend n = { h with spent := h.spent + n } from by unfold Hp.spend; rw [hr.out]; rfl] at hm2
  rw [hr.out]
  have hm3 : Mem w0 w2 (Blk h.g (.cells [.int .i64 h.budget, .int .i64 (h.spent + n), .slice h.A h.ths.length h.c].toArray 93) :: Own 1 (.slice h.A h.ths.length h.c) (h.ths.map Th.val) :: (h.ths.map ThC ++ (Blk gb (.cells [.int .i64 0, .int .i64 0].toArray 27) :: ThC t :: L))) := Mem.opn hm2
  have c2 := hm3.cell m0 2 rfl
  go_wp2_with (at_builtin; refine wp_app rfl _ _ _ rfl 102 iT _ 1 16 ty_Ts hi hz0 hz1 hz2 rfl h.A h.ths.length h.c _ rfl (hm3.alloc _).pull2 _ 1 1 [.iface T (.pointer (some ⟨t.g, 0, none⟩))] rfl (RdC.lit _ _ _ _ _ rfl (by simp [maxLen]) (fun u hu => by simp at hu; subst hu; rfl)) (by unfold maxLen; omega) (by omega) ?_; intro A1 c1 w3 HM1; have HM2 := HM1.back2; have f1 := HM2.free m1 2; have c3 := HM2.cell m1 2 rfl)
  have HM3 := HM2.tail.set 2 (.slice A1 (h.ths.length + 1) c1)
  simp only [List.set_cons_succ, List.set_cons_zero] at HM3
  clear f1 c3 c2 HM2 HM1 hm3 hm2 hm1
  generalize w3.setCell ⟨h.g, 2, none⟩ (.slice A1 (h.ths.length + 1) c1) = w4 at HM3 ⊢
  have c2 := HM3.cell m0 2 rfl
  have e2 : IntKind.i64.wrap (h.ths.length : Int) = h.ths.length := IntWalk.i64_in _ (by omega)
  have e1 : IntKind.i64.wrap ((h.ths.length : Int) + 1 - 1) = h.ths.length := by rw [Int.add_sub_cancel]; exact e2
  have hp : ∀ (a b g : Chunk) (M : List Chunk), (a :: b :: (h.ths.map ThC ++ (g :: ThC t :: M))).Perm (g :: a :: b :: (h.ths.map ThC ++ ThC t :: M)) := fun a b g M =>
    ((List.perm_middle.cons b).cons a).trans (((List.Perm.swap _ _ _).cons a).trans (List.Perm.swap _ _ _))
  have HM4 := HM3.perm (hp _ _ _ _)
  clear hp HM3
  refine wp_region_still_tail 9 (by kernel_rfl) (by kernel_rfl) ?_
  simp only [List.take_succ_cons, List.take_zero, List.drop_succ_cons, List.drop_zero]
  repeat (first | (refine still_inv rfl _ _ _ _ (by rfl) (.iface T (.pointer (some ⟨t.g, 0, none⟩))) (by rfl) [] (by rfl) (.int .i64 t.ob.kind) hkd ?_; simp only [Act.put, List.setIfInBounds_toArray, List.set_cons_zero, List.set_cons_succ]) | still_step)
  refine wpStill_nil ?_
  have HM5 := HM4.drew
  go_wp2_with (refine wp_setrow rfl 27 _ _ rfl gb rfl 27 _ [.int .i64 t.ob.kind, .int .i64 h.ths.length] rfl HM5 sz_V rfl (cV_one (t.ob.kind, (h.ths.length : Int))) ?_; intro w5 hm5)
  refine bodyPost_ret (Mm.res_cell_tmp rfl _ gb 27 [.int .i64 t.ob.kind, .int .i64 h.ths.length] (0, 0) rfl hm5 m0 row_V sz_V) rfl ⟨A1, c1, rfl, ?_⟩
  have e : h.ths.map Th.val ++ [.iface T (.pointer (some ⟨t.g, 0, none⟩))] = (h.ths ++ [t]).map Th.val := by simp [Th.val, hT.out]
  have hm6 := hm5.tail
  rw [e] at hm6
  refine Mem.sht (h.push n A1 c1 t).chunks ?_
  simpa [Hp.chunks, Hp.cells, Hp.push] using hm6
end Go.Proofs.Ytpibchjkmaghnaa
