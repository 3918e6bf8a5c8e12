/- The reference's heap: make. -/
import Derived.Test.YtpibchjkmaghnaaRfBase
namespace Go.Mm
open Go.RowKit
theorem run_rng {P : Program} {o : Oper} {a : Act} {w : World} (ty : TypeId) (x : Operand) (ho : o.op = .load ty x) (b q : Nat) (hx : a.eval x = .pointer (some ⟨b, q, none⟩)) (cs : List Value)
    (hc : w.rangeAt b q cs) (hd : (P.underlying ty).map (·.isRow) = some true) (hi : (P.info? ty).map (·.size) = some cs.length) : (execOp a.eval o).run P w = .ok (.value (.agg cs.toArray)) w := by
  obtain ⟨d, hu, hr⟩ : ∃ d, P.underlying ty = some d ∧ d.isRow = true := by
    cases e : P.underlying ty with
    | none => rw [e] at hd; simp at hd
    | some d => rw [e] at hd; exact ⟨d, rfl, by simpa using hd⟩
  have hl := run_loadVar_mid (P := P) w b q ty cs d hc hu hr hi
  simp [execOp, ho, Instr.loadAt, hx, Instr.sureAddr, hl]
end Go.Mm
namespace Go.Proofs.Ytpibchjkmaghnaa
open Go.RowKit Go.Mm
set_option maxHeartbeats 4000000
set_option maxRecDepth 100000
set_option linter.unusedSimpArgs false
theorem sz_Os : (Try.prog.info? 42).map (·.size) = some 1 := by kernel_rfl
def Rf.put (r : Rf) (n : Int) (A : Option Addr) (c : Nat) (x : RO) : Rf := { r with spent := r.spent + n, A := A, c := c, xs := r.xs ++ [x] }
theorem Rf.put_abs (r : Rf) (n : Int) (A : Option Addr) (c : Nat) (x : RO) : (r.put n A c x).abs = ⟨r.budget, r.spent + n, r.xs.map (·.ob) ++ [x.ob]⟩ := by simp [Rf.put, Rf.abs]
theorem Rf.put_ok {r : Rf} (hok : r.Ok) (n : Int) (hr : r.abs.room n = true) (A : Option Addr) (c : Nat) (x : RO) (hx : x.ob.items.length ≤ 1048576 ∧ x.ob.keys.length ≤ 1048576) (hl : r.xs.length < 16777216) : (r.put n A c x).Ok := by
  have h1 := Rf.pay_ok hok n hr
  refine ⟨fun u hu => ?_, by simp only [Rf.put, List.length_append, List.length_cons, List.length_nil]; omega, h1.b0, h1.b1, h1.s0, h1.s1⟩
  simp only [Rf.put, List.mem_append, List.mem_cons, List.not_mem_nil, or_false] at hu
  rcases hu with hu | rfl
  · exact hok.each u hu
  · exact hx
theorem refMake_ok (w0 w : World) (L : List Chunk) (r : Rf) (x : RO) (hm : Mem w0 w (RfC r :: RoC x :: L)) (hok : Fact r.Ok) (may : Bool) (n : Int) (hx : x.ob.items.length ≤ 1048576 ∧ x.ob.keys.length ≤ 1048576) (hl : r.xs.length < 16777216) :
    Calls Try.prog 105 #[.pointer (some ⟨r.g, 0, none⟩), .bool may, .int .i64 n, .agg (cRO x).toArray] w fun e w' => e = .returned (r.abs.makeR may n x.ob.kind) ∧ RfQ w0 L r.g (r.abs.make may n x.ob) w' := by
  obtain ⟨iO, hiO, hz0, hz1, hz2⟩ := info_parts inf_O
  unfold Hs.makeR Hs.make
  have hx := Fact.mk hx
  have hroom := fun (w1 : World) (L1 : List Chunk) (hm1 : Mem w0 w1 L1) (hh : RfC r ∈ L1) => refRoom_ok w0 w1 L1 r hm1 hh hok n
  have hnoP : ∀ (w1 : World), Mem w0 w1 (RfC r :: L) → RfQ w0 L r.g r.abs w1 := fun w1 h1 => ⟨r, rfl, rfl, hok.out, h1⟩
  have hyes := fun hr A c => Rf.put_ok hok.out n hr A c x hx.out hl
  have hb : ∃ b, b = r.abs.room n := ⟨_, rfl⟩
  obtain ⟨b, hb⟩ := hb
  rw [← hb] at hroom hyes ⊢
  have hbr : b = true → 0 ≤ n ∧ n ≤ r.budget - r.spent := fun h => Hs.room_rng (hb.symm.trans h)
  clear hb
  have hlen : r.abs.objs.length = r.xs.length := r.abs_len
  rw [hlen]
  replace hroom := Fact.mk hroom
  replace hnoP := Fact.mk hnoP
  replace hyes := Fact.mk hyes
  cases may with
  | false =>
    rw [Bool.false_and]
    go_enter Try.func105, Try.ntmps105
    go_upto_region 1 with (fail)
    have hm1 := (hm.alloc (.cells (cRO x).toArray 71)).alloc (.cells [.int .i64 0, .int .i64 0].toArray 27)
    simp only [World.size_alloc] at hm1
    generalize hgb : w.heap.size = g at hm1 ⊢
    generalize hw1 : (w.alloc (.cells (cRO x).toArray 71)).alloc (.cells [.int .i64 0, .int .i64 0].toArray 27) = w1 at hm1
    try refine wp_world hw1 ?_
    clear hw1 hgb
    go_wp2_with (refine wp_setrow rfl 27 _ _ rfl (g + 1) rfl 27 _ [.int .i64 0, .int .i64 0] rfl hm1 sz_V rfl (cV_one (0, 0)) ?_; intro w2 hm2)
    refine bodyPost_ret (Mm.res_cell_tmp rfl _ (g + 1) 27 [.int .i64 0, .int .i64 0] (0, 0) rfl hm2 m0 row_V sz_V) rfl ⟨rfl, hnoP.out _ hm2.tail.tail.drop2⟩
  | true =>
    rw [Bool.true_and]
    cases b with
    | false =>
      go_enter Try.func105, Try.ntmps105
      go_upto_region 1 with (fail)
      have hm1 := (hm.alloc (.cells (cRO x).toArray 71)).alloc (.cells [.int .i64 0, .int .i64 0].toArray 27)
      simp only [World.size_alloc] at hm1
      generalize hgb : w.heap.size = g at hm1 ⊢
      generalize hw1 : (w.alloc (.cells (cRO x).toArray 71)).alloc (.cells [.int .i64 0, .int .i64 0].toArray 27) = w1 at hm1
      try refine wp_world hw1 ?_
      clear hw1 hgb
      go_wp2_with fail
      refine (hroom.out w1 _ hm1 m2).mono ?_
      rintro e w2 ⟨rfl, m, rfl⟩
      go_wp2_with (refine wp_setrow rfl 27 _ _ rfl (g + 1) rfl 27 _ [.int .i64 0, .int .i64 0] rfl (hm1.drewN m) sz_V rfl (cV_one (0, 0)) ?_; intro w2 hm2)
      refine bodyPost_ret (Mm.res_cell_tmp rfl _ (g + 1) 27 [.int .i64 0, .int .i64 0] (0, 0) rfl hm2 m0 row_V sz_V) rfl ⟨rfl, hnoP.out _ hm2.tail.tail.drop2⟩
    | true =>
      have hbr := hbr rfl
      have b1 := hok.out.b1
      have s0 := hok.out.s0
      have e2 : IntKind.i64.wrap (r.spent + n) = r.spent + n := IntWalk.i64_in _ (by omega)
      go_enter Try.func105, Try.ntmps105
      go_upto_region 1 with (fail)
      have hm1 := (hm.alloc (.cells (cRO x).toArray 71)).alloc (.cells [.int .i64 0, .int .i64 0].toArray 27)
      simp only [World.size_alloc] at hm1
      generalize hgb : w.heap.size = g at hm1 ⊢
      generalize hw1 : (w.alloc (.cells (cRO x).toArray 71)).alloc (.cells [.int .i64 0, .int .i64 0].toArray 27) = w1 at hm1
      try refine wp_world hw1 ?_
      clear hw1 hgb hm
      go_wp2_with fail
      refine (hroom.out w1 _ hm1 m2).mono ?_
      rintro e w2 ⟨rfl, m, rfl⟩
      have hm2 := (hm1.drewN m).pull2
      clear hm1
      generalize w1.drewN m = w2 at hm2 ⊢
      have hm3 : Mem w0 w2 (Blk r.g (.cells r.cells.toArray 57) :: (Own 6 (.slice r.A r.xs.length r.c) (r.xs.flatMap cRO) :: r.xs.map RoC ++ (Blk (g + 1) (.cells [.int .i64 0, .int .i64 0].toArray 27) :: Blk g (.cells (cRO x).toArray 71) :: RoC x :: L))) := Mem.opn hm2
      have hp : ∀ (a b u v z : Chunk) (M : List Chunk), (a :: (b :: r.xs.map RoC ++ (u :: v :: z :: M))).Perm (a :: b :: u :: v :: (r.xs.map RoC ++ z :: M)) := fun a b u v z M => by
        refine List.Perm.cons a (List.Perm.cons b ?_)
        exact (List.perm_middle).trans (List.Perm.cons u List.perm_middle)
      have hm4 := hm3.perm (hp _ _ _ _ _ _)
      clear hm2 hm3 hp
      have c1 := hm4.cell m0 1 rfl
      go_upto_region 4 with (refine wp_setat rfl 3 _ _ rfl r.g 1 rfl 57 _ [.int .i64 (r.spent + n)] (Rf.pay r n).cells (.int .i64 (r.spent + n)) rfl rfl hm4 sz_int (by simp [Rf.cells]) (one_one rfl) rfl ?_; intro w3 hm5)
      clear c1 hm4
      have hm6 := hm5.drew
      have hS : w3.drew.cell? ⟨r.g, 2, none⟩ = some (.slice r.A r.xs.length r.c) ∧ w3.drew.rangeAt g 0 (cRO x) := ⟨hm6.cell m0 2 rfl, rng_blk hm6 m3⟩
      clear hm5
      refine wp_region_until (S := fun W => W.cell? ⟨r.g, 2, none⟩ = some (.slice r.A r.xs.length r.c) ∧ W.rangeAt g 0 (cRO x)) 8 (by kernel_rfl) ?_
      generalize w3.drew = w4 at hm6 hS ⊢
      refine wpAnyU_take 0 (v := ?vsa0) rfl (by kernel_rfl) (by kernel_rfl) (fun _ _ _ h => h) hS (Or.inl ⟨rfl, ?ysa0⟩) ?rsa0
      case ysa0 =>
        intro W hW
        obtain ⟨hW0, hW1⟩ := hW
        go_simp
        try with_reducible rfl
      try simp only [Act.put, List.getElem_toArray, List.getElem_cons_succ, List.getElem_cons_zero, List.setIfInBounds_toArray, List.set_cons_zero, List.set_cons_succ]
      refine wpAnyU_take 1 (v := ?vsa1) rfl (by kernel_rfl) (by kernel_rfl) (fun _ _ _ h => h) hS (Or.inl ⟨rfl, ?ysa1⟩) ?rsa1
      case ysa1 =>
        intro W hW
        obtain ⟨hW0, hW1⟩ := hW
        go_simp
        try with_reducible rfl
      try simp only [Act.put, List.getElem_toArray, List.getElem_cons_succ, List.getElem_cons_zero, List.setIfInBounds_toArray, List.set_cons_zero, List.set_cons_succ]
      refine wpAnyU_take 2 (v := ?vsa2) rfl (by kernel_rfl) (by kernel_rfl) (fun _ _ _ h => h) hS (Or.inl ⟨rfl, ?ysa2⟩) ?rsa2
      case ysa2 =>
        intro W hW
        obtain ⟨hW0, hW1⟩ := hW
        go_simp
        try with_reducible rfl
      try simp only [Act.put, List.getElem_toArray, List.getElem_cons_succ, List.getElem_cons_zero, List.setIfInBounds_toArray, List.set_cons_zero, List.set_cons_succ]
      refine wpAnyU_take 3 (v := ?vsa3) rfl (by kernel_rfl) (by kernel_rfl) (fun _ _ _ h => h) hS (Or.inl ⟨rfl, ?ysa3⟩) ?rsa3
      case ysa3 =>
        intro W hW
        obtain ⟨hW0, hW1⟩ := hW
        go_simp
        try with_reducible rfl
      try simp only [Act.put, List.getElem_toArray, List.getElem_cons_succ, List.getElem_cons_zero, List.setIfInBounds_toArray, List.set_cons_zero, List.set_cons_succ]
      refine wpAnyU_take 4 (v := ?vsa4) rfl (by kernel_rfl) (by kernel_rfl) (fun _ _ _ h => h) hS (Or.inl ⟨rfl, ?ysa4⟩) ?rsa4
      case ysa4 =>
        intro W hW
        obtain ⟨hW0, hW1⟩ := hW
        go_simp
        try with_reducible rfl
      try simp only [Act.put, List.getElem_toArray, List.getElem_cons_succ, List.getElem_cons_zero, List.setIfInBounds_toArray, List.set_cons_zero, List.set_cons_succ]
      refine wpAnyU_take 5 (v := .agg (cRO x).toArray) rfl (by kernel_rfl) (by kernel_rfl) (fun _ _ _ h => h) hS (Or.inl ⟨rfl, ?yz5⟩) ?rz5
      case yz5 =>
        intro W hW
        exact run_rng 71 _ rfl g 0 rfl (cRO x) hW.2 row_O sz_O
      try simp only [Act.put, List.getElem_toArray, List.getElem_cons_succ, List.getElem_cons_zero, List.setIfInBounds_toArray, List.set_cons_zero, List.set_cons_succ]
      refine wpAnyU_one 6 (by kernel_rfl) rfl (fun K hK => ?_)
      go_simp
      have hm7 := hm6.alloc (.cells (cRO x).toArray 71)
      refine hK _ _ (fun _ => ⟨hm7.cell m1 2 rfl, rng_blk hm7 m4⟩) ?_
      clear hK K
      try simp only [Act.put, List.getElem_toArray, List.getElem_cons_succ, List.getElem_cons_zero, List.setIfInBounds_toArray, List.set_cons_zero, List.set_cons_succ]
      refine wpAnyU_one 7 (by kernel_rfl) rfl (fun K hK => ?_)
      refine step_app rfl _ _ _ rfl 71 iO _ 6 80 ty_Os hiO hz0 hz1 hz2 rfl r.A r.xs.length r.c _ rfl hm7.pull2 _ 1 1 (cRO x) rfl (RdC.lit _ _ _ _ _ rfl (by simp [maxLen]) (cRO_one x)) (by unfold maxLen; omega) (by omega) ?_
      intro A1 c3 w6 HM1
      have HM2 := HM1.back2.tail
      clear hm7 HM1
      refine hK _ _ (fun _ => ⟨HM2.cell m0 2 rfl, rng_blk HM2 m3⟩) ?_
      clear hK K
      have c2 := HM2.cell m0 2 rfl
      have f2 := HM2.free m0 2
      try simp only [Act.put, List.getElem_toArray, List.getElem_cons_succ, List.getElem_cons_zero, List.setIfInBounds_toArray, List.set_cons_zero, List.set_cons_succ]
      refine wpAnyU_one 8 (by kernel_rfl) rfl (fun K hK => ?_)
      go_simp
      refine hK _ _ (fun h => absurd h (by decide)) ?_
      clear hK K
      try simp only [Act.put, List.getElem_toArray, List.getElem_cons_succ, List.getElem_cons_zero, List.setIfInBounds_toArray, List.set_cons_zero, List.set_cons_succ]
      refine wpAnyU_one 9 (by kernel_rfl) rfl (fun K hK => ?_)
      go_simp
      refine hK _ _ (fun h => absurd h (by decide)) ?_
      clear hK K
      try simp only [Act.put, List.getElem_toArray, List.getElem_cons_succ, List.getElem_cons_zero, List.setIfInBounds_toArray, List.set_cons_zero, List.set_cons_succ]
      refine wpAnyU_one 10 (by kernel_rfl) rfl (fun K hK => ?_)
      refine step_setat rfl 42 _ _ rfl r.g 2 rfl 57 _ [.slice A1 (r.xs.length + 1) c3] [.int .i64 r.budget, .int .i64 (r.spent + n), .slice A1 (r.xs.length + 1) c3] (.slice A1 (r.xs.length + 1) c3) rfl rfl HM2 sz_Os (by simp [Rf.cells]) (one_one rfl) rfl ?_
      intro w7 HM3
      refine hK _ _ (fun h => absurd h (by decide)) ?_
      clear hK K c2 f2 HM2 hS hm6
      try simp only [Act.put, List.getElem_toArray, List.getElem_cons_succ, List.getElem_cons_zero, List.setIfInBounds_toArray, List.set_cons_zero, List.set_cons_succ]
      refine wpAnyU_done (by kernel_rfl) ?_ _
      go_upto_region 5 with (fail)
      have hm8 := HM3.drew
      have z0 := hm8.cell m3 0 rfl
      have z2 := hm8.cell m0 2 rfl
      have e4 : IntKind.i64.wrap (r.xs.length : Int) = r.xs.length := IntWalk.i64_in _ (by omega)
      refine wp_region_still_tail 9 (by kernel_rfl) (by kernel_rfl) ?_
      simp only [List.take_succ_cons, List.take_zero, List.drop_succ_cons, List.drop_zero]
      repeat still_step
      refine wpStill_nil ?_
      go_wp2_with (refine wp_setrow rfl 27 _ _ rfl (g + 1) rfl 27 _ [.int .i64 x.ob.kind, .int .i64 r.xs.length] rfl hm8.pull2 sz_V rfl (cV_one (x.ob.kind, (r.xs.length : Int))) ?_; intro w9 hm9)
      refine bodyPost_ret (Mm.res_cell_tmp rfl _ (g + 1) 27 [.int .i64 x.ob.kind, .int .i64 r.xs.length] (0, 0) rfl hm9 m0 row_V sz_V) rfl ⟨rfl, r.put n A1 c3 x, rfl, Rf.put_abs r n A1 c3 x, hyes.out (by first | trivial | rfl) A1 c3, ?_⟩
      have hm10 := hm9.tail.sub (List.Sublist.cons_cons _ (List.Sublist.cons_cons _ (List.sublist_cons_self _ _)))
      refine Mem.sht (Rf.put r n A1 c3 x).chunks ?_
      have e : r.xs.map RoC ++ RoC x :: L = (r.xs ++ [x]).map RoC ++ L := by simp
      rw [e] at hm10
      have e2 : r.xs.flatMap cRO ++ cRO x = (r.xs ++ [x]).flatMap cRO := by simp
      rw [e2] at hm10
      simpa [Rf.chunks, Rf.cells, Rf.put] using hm10
end Go.Proofs.Ytpibchjkmaghnaa
