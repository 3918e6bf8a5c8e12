/- A heap's channels: Recv. -/
import Derived.Test.YtpibchjkmaghnaaHpSend
namespace Go.Mm
open Go.RowKit
theorem step_setrow {P : Program} {ops : Array Oper} {o : Oper} {a : Act} {K : Act → World → Prop} {Q : Exit → Act → World → Prop} {E : Prop} {w0 w : World} {L : List Chunk} (hw : Region.wanted o (yielded ops a.tmps) = true) (ty : TypeId) (p x : Operand) (ho : o.op = .store ty p x) (g : Nat) (hp : a.eval p = .pointer (some ⟨g, 0, none⟩)) (t : TypeId) (cs us : List Value) (hx : a.eval x = .agg us.toArray)
    (hm : Mem w0 w (Blk g (.cells cs.toArray t) :: L)) (hi : (P.info? ty).map (·.size) = some us.length) (hl : cs.length = us.length) (h1 : One us)
    (h : ∀ w', Mem w0 w' (Blk g (.cells us.toArray t) :: L) → K (a.put o.dst undef) w') : if Region.wanted o (yielded ops a.tmps) = true then o.wp P a w K Q else E := by
  rw [if_pos hw]
  obtain ⟨inf, hi1, hi2⟩ : ∃ inf, P.info? ty = some inf ∧ inf.size = us.length := by
    cases h : P.info? ty with
    | none => rw [h] at hi; simp at hi
    | some inf => rw [h] at hi; exact ⟨inf, rfl, by simpa using hi⟩
  have hg := hm.blk m0
  have hst := run_storeCells_at P g 0 t us 0 cs.toArray w hg (by simp [hl]) h1
  simp only [Nat.zero_add, List.take_zero, List.nil_append] at hst
  have e : cs.drop us.length = [] := by rw [List.drop_eq_nil_iff]; omega
  simp only [e, List.append_nil] at hst
  unfold Oper.wp execOp
  simp only [ho, hp, hx]
  simp [Instr.storeAt, Instr.sureAddr, storeVar, sizeOf, typeInfo, hi1, hi2, Value.cells, hst]
  refine h _ (hm.upd ⟨rfl, rfl, rfl, by simp, fun k _ hk => setRow_other w g k _ (fun e => hk e)⟩ ?_ (fun k hk => .inl hk))
  exact setRow_heap w g cs.toArray us.toArray t _ hg
end Go.Mm
namespace Go.Proofs.Ytpibchjkmaghnaa
open Go.RowKit Go.Mm
set_option maxHeartbeats 4000000
set_option maxRecDepth 100000
set_option linter.unusedSimpArgs false
theorem Hp.opnC1 {w0 w : World} {L : List Chunk} {h : Hp} {X : Chunk} (hm : Mem w0 w (HpC h :: X :: L)) (i : Nat) (hi : i < h.ths.length) (t : Th) (ht : h.ths.getD i th0 = t) (hk : t.ob.kind = 9) :
    Mem w0 w (X :: Blk t.g (.cells [.int .i64 t.ob.cap, .slice t.A t.n t.c, .bool t.ob.shut].toArray 97) :: Own 2 (.slice t.A t.n t.c) (fV t.ob.items) :: (t.more ++ (h.rest i ++ L))) := by
  have h1 := Hp.opnC hm i hi t ht hk
  rw [← List.append_assoc] at h1 ⊢
  exact h1.perm (((List.perm_middle.cons _).cons _).trans (((List.Perm.swap _ _ _).cons _).trans (List.Perm.swap _ _ _)))
theorem Hp.clsC1 {w0 w : World} {L : List Chunk} {h : Hp} {X : Chunk} (i : Nat) (hi : i < h.ths.length) (t : Th) (ht : h.ths.getD i th0 = t) (hk : t.ob.kind = 9) (A : Option Addr) (n c : Nat) (items : List V2) (sh : Bool)
    (hm : Mem w0 w (X :: Blk t.g (.cells [.int .i64 t.ob.cap, .slice A n c, .bool sh].toArray 97) :: Own 2 (.slice A n c) (fV items) :: (t.more ++ (h.rest i ++ L)))) : Mem w0 w (X :: HpC (h.upd i (t.queue A n c items sh)) :: L) := by
  refine (Hp.clsC (L := X :: L) i hi t ht hk A n c items sh ?_).swap
  rw [← List.append_assoc] at hm ⊢
  exact hm.perm ((((List.perm_middle.cons _).cons _).trans (((List.Perm.swap _ _ _).cons _).trans (List.Perm.swap _ _ _))).symm)
theorem rng2 {w : World} {b o : Nat} {x : V2} (r0 : w.cell? ⟨b, o, none⟩ = some (.int .i64 x.1)) (r1 : w.cell? ⟨b, o + 1, none⟩ = some (.int .i64 x.2)) : w.rangeAt b o (cV x) := fun j v hv => by
  match j with
  | 0 => cases hv; exact r0
  | 1 => cases hv; exact r1
  | _ + 2 => cases hv
def recvR (o : Ob) : Value := match o.items with | [] => .tuple #[.agg #[.int .i64 0, .int .i64 0], .bool o.shut, .int .i64 0] | x :: _ => .tuple #[.agg #[.int .i64 x.1, .int .i64 x.2], .bool true, .int .i64 0]
theorem recv_ok (w0 w : World) (L : List Chunk) (h : Hp) (hm : Mem w0 w (HpC h :: L)) (hok : Fact h.Ok) (K N : Int) (i : Nat) (hn : nm h.objs (K, N) = some i) (t : Th) (ht : Fact (h.ths.getD i th0 = t)) (hk : Fact (t.ob.kind = 9)) (hsz : t.ob.items.length ≤ 1048576) :
    Calls Try.prog 17 #[.pointer (some ⟨h.g, 0, none⟩), .agg #[.int .i64 K, .int .i64 N]] w fun e w' => e = .returned (recvR t.ob) ∧ ∃ A n c, Mem w0 w' (HpC (h.upd i (t.queue A n c t.ob.items.tail t.ob.shut)) :: L) := by
  have hil := (nm_in hn).1
  have has := Fact.mk (asK_yes hn ht.out 9 hk.out)
  clear hn
  go_enter Try.func17, Try.ntmps17
  go_upto_region 1 with (fail)
  have hm1 := (hm.alloc (.cells [.int .i64 K, .int .i64 N].toArray 27)).alloc (.cells [.int .i64 0, .int .i64 0].toArray 27)
  simp only [World.size_alloc] at hm1
  generalize hgb : w.heap.size = gb at hm1 ⊢
  generalize hw1 : (w.alloc (.cells [.int .i64 K, .int .i64 N].toArray 27)).alloc (.cells [.int .i64 0, .int .i64 0].toArray 27) = w1 at hm1
  try refine wp_world hw1 ?_
  clear hw1 hgb
  go_wp2_with (refine wp_rng rfl 27 _ rfl gb 0 rfl (cV (K, N)) (rng_blk hm1 m1) row_V sz_V ?_)
  refine (channel_ok w0 w1 _ h hm1 m2 hok K N).mono ?_
  rintro e w2 ⟨rfl, hg2⟩
  rw [has.out]
  have hm2 := Hp.opnC1 ((hm1.gr hg2).drop2.swap) i hil t ht.out hk.out
  obtain ⟨R, hR⟩ : ∃ R, R = t.more ++ (h.rest i ++ L) := ⟨_, rfl⟩
  rw [← hR] at hm2
  replace hR := Fact.mk hR
  have hl : t.ob.items.length = t.n := rdV_len (hm2.rd m2)
  have hcap := OwnAt.cap (hm2.ok _ m2)
  have c1 := hm2.cell m1 1 rfl
  have c2 := hm2.cell m1 2 rfl
  simp only [trapK]
  have key : Fact (∀ (W : World) (X : Chunk) (A : Option Addr) (n c : Nat) (its : List V2), Mem w0 W (X :: Blk t.g (.cells [.int .i64 t.ob.cap, .slice A n c, .bool t.ob.shut].toArray 97) :: Own 2 (.slice A n c) (fV its) :: R) → Mem w0 W (X :: HpC (h.upd i (t.queue A n c its t.ob.shut)) :: L)) := ⟨fun W X A n c its hM => by
    rw [hR.out] at hM
    exact Hp.clsC1 i hil t ht.out hk.out A n c its t.ob.shut hM⟩
  cases hq : t.ob.items with
  | nil =>
    have hr : Fact (recvR t.ob = .tuple #[.agg #[.int .i64 0, .int .i64 0], .bool t.ob.shut, .int .i64 0]) := ⟨by unfold recvR; rw [hq]⟩
    rw [hq] at hm2 hl
    have hn0 : t.n = 0 := by simpa using hl.symm
    rw [hn0] at hm2 c1 hcap
    have hq := Fact.mk hq
    clear hl
    generalize hsh : t.ob.shut = sh at hm2 c2 key hr
    replace hsh := Fact.mk hsh
    go_upto_region 5 with (fail)
    clear c1
    have hm3 := hm2.drew
    have hS : w2.drew.cell? ⟨t.g, 2, none⟩ = some (.bool sh) := hm3.cell m1 2 rfl
    refine wp_region_until (S := fun W => W.cell? ⟨t.g, 2, none⟩ = some (.bool sh)) 6 (by kernel_rfl) ?_
    refine wpAnyU_take 0 (v := ?vsa0) rfl (by kernel_rfl) (by kernel_rfl) (fun _ _ _ h => h) hS (Or.inl ⟨rfl, ?ysa0⟩) ?rsa0
    case ysa0 =>
      intro W hW
      go_simp
      try with_reducible rfl
    try simp only [Act.put, List.setIfInBounds_toArray, List.set_cons_zero, List.set_cons_succ]
    refine wpAnyU_take 1 (v := ?vsa1) rfl (by kernel_rfl) (by kernel_rfl) (fun _ _ _ h => h) hS (Or.inl ⟨rfl, ?ysa1⟩) ?rsa1
    case ysa1 =>
      intro W hW
      go_simp
      try with_reducible rfl
    try simp only [Act.put, List.setIfInBounds_toArray, List.set_cons_zero, List.set_cons_succ]
    refine wpAnyU_take 2 (v := ?vsa2) rfl (by kernel_rfl) (by kernel_rfl) (fun _ _ _ h => h) hS (Or.inl ⟨rfl, ?ysa2⟩) ?rsa2
    case ysa2 =>
      intro W hW
      go_simp
      try with_reducible rfl
    try simp only [Act.put, List.setIfInBounds_toArray, List.set_cons_zero, List.set_cons_succ]
    refine wpAnyU_take 3 (v := ?vsa3) rfl (by kernel_rfl) (by kernel_rfl) (fun _ _ _ h => h) hS (Or.inl ⟨rfl, ?ysa3⟩) ?rsa3
    case ysa3 =>
      intro W hW
      go_simp
      try with_reducible rfl
    try simp only [Act.put, List.setIfInBounds_toArray, List.set_cons_zero, List.set_cons_succ]
    refine wpAnyU_take 4 (v := ?vsa4) rfl (by kernel_rfl) (by kernel_rfl) (fun _ _ _ h => h) hS (Or.inl ⟨rfl, ?ysa4⟩) ?rsa4
    case ysa4 =>
      intro W hW
      go_simp
      try with_reducible rfl
    try simp only [Act.put, List.setIfInBounds_toArray, List.set_cons_zero, List.set_cons_succ]
    refine wpAnyU_one 5 (by kernel_rfl) rfl (fun K hK => ?_)
    refine step_setrow rfl 27 _ _ rfl (gb + 1) rfl 27 _ [.int .i64 0, .int .i64 0] rfl hm3 sz_V rfl (cV_one (0, 0)) ?_
    intro w4 hm4
    refine hK _ _ (fun _ => hm4.cell m1 2 rfl) ?_
    clear hK K
    try simp only [Act.put, List.setIfInBounds_toArray, List.set_cons_zero, List.set_cons_succ]
    refine wpAnyU_one 6 (by kernel_rfl) rfl (fun K hK => ?_)
    go_simp
    refine hK _ _ (fun h => absurd h (by decide)) ?_
    clear hK K
    refine wpAnyU_one 7 (by kernel_rfl) rfl (fun K hK => ?_)
    go_simp
    refine hK _ _ (fun h => absurd h (by decide)) ?_
    clear hK K
    refine wpAnyU_done (by kernel_rfl) ?_ _
    go_wp2
    refine bodyPost_ret (Mm.res_cell_tmp2 rfl _ (gb + 1) 27 [.int .i64 0, .int .i64 0] (0, 0) rfl hm4 m0 row_V sz_V) rfl ⟨by rw [hr.out]; rfl, t.A, 0, t.c, ?_⟩
    rw [hq.out, hsh.out]
    exact (key.out w4 _ t.A 0 t.c [] hm4).tail
  | cons x xs =>
    have hr : Fact (recvR t.ob = .tuple #[.agg #[.int .i64 x.1, .int .i64 x.2], .bool true, .int .i64 0]) := ⟨by unfold recvR; rw [hq]⟩
    rw [hq] at hm2 hl hsz
    have hq := Fact.mk hq
    have hnp : 0 < t.n := by rw [← hl]; simp
    have hnz : decide ((t.n : Int) = 0) = false := decide_eq_false (by omega)
    have hnB : t.n ≤ 1048576 := by omega
    have hl := Fact.mk hl
    clear hsz
    generalize t.n = n at hm2 hcap c1 hnp hnz hnB hl
    generalize hsh : t.ob.shut = sh at hm2 c2 key hr
    replace hsh := Fact.mk hsh
    obtain ⟨b, o, hA, r0, r1, _, _⟩ := rdV_at (hm2.rd m2) 0 hnp
    simp only [List.getD_cons_zero, Nat.zero_mul, Nat.add_zero] at r0 r1
    rw [hA] at hm2 c1
    go_upto_region 6 with (fail)
    have rx := rng2 r0 r1
    go_upto_region 7 with (first | (refine wp_rng rfl 27 _ rfl b o rfl (cV x) rx row_V sz_V ?_) | (refine wp_setrow rfl 27 _ _ rfl w2.heap.size rfl 27 _ (cV x) rfl (hm2.alloc _) sz_V rfl (cV_one x) ?_; intro w3 hm3))
    clear r0 r1 rx c1 c2
    generalize w2.heap.size = gx at hm3 ⊢
    have c1 := hm3.cell m2 1 rfl
    go_wp2_with fail
    refine (delV_ok w0 w3 _ (some ⟨b, o, none⟩) n t.c _ hm3.pull3 0 hnp hnB 0 1 rfl rfl).mono ?_
    rintro e w4 ⟨rfl, hm4⟩
    have hm5 := hm4.pull3
    clear c1
    have c1 := hm5.cell m0 1 rfl
    have f1 := hm5.free m0 1
    go_upto_region 8 with (fail)
    have hm6 := hm5.set 1 (.slice (some ⟨b, o, none⟩) (n - 1) t.c)
    simp only [List.set_cons_succ, List.set_cons_zero] at hm6
    clear c1 f1
    generalize w4.setCell ⟨t.g, 1, none⟩ (.slice (some ⟨b, o, none⟩) (n - 1) t.c) = w5 at hm6 ⊢
    have hm7 := hm6.pull3
    go_wp2_with (first | (refine wp_rng rfl 27 _ rfl gx 0 rfl (cV x) (rng_blk hm7 m3) row_V sz_V ?_) | (refine wp_setrow rfl 27 _ _ rfl (gb + 1) rfl 27 _ (cV x) rfl hm7 sz_V rfl (cV_one x) ?_; intro w8 hm8))
    refine bodyPost_ret (Mm.res_cell_tmp2 rfl _ (gb + 1) 27 (cV x) (0, 0) rfl hm8 m0 row_V sz_V) rfl ⟨by rw [hr.out]; rfl, some ⟨b, o, none⟩, n - 1, t.c, ?_⟩
    rw [hq.out, hsh.out]
    have e : List.take (0 * 2) (fV (x :: xs)) ++ List.drop (0 * 2 + 2) (fV (x :: xs)) = fV xs := by simp [fV, cV]
    rw [e] at hm8
    exact (key.out w8 _ _ _ _ xs (hm8.sub (.cons_cons _ (.cons_cons _ (.cons_cons _ (List.sublist_cons_self _ _)))))).tail
end Go.Proofs.Ytpibchjkmaghnaa
