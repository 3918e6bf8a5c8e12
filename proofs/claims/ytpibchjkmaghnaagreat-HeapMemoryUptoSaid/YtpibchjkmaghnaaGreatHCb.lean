/- Lemmas for the row HeapMemoryRow (contracts of functions, laws of memory). Conditions: those that each lemma states. -/
import Derived.Maps.OwnSet
import Derived.Test.YtpibchjkmaghnaaGreatHCa
namespace Go.Mm
open Go.RowKit
theorem step_setrow {P : Program} {ops : Array Oper} {o : Oper} {a : Act} {K : Act → World → Prop} {Q : Exit → Act → World → Prop} {E : Prop} {w0 w : World} {L : List Chunk} (hw : Region.wanted o (yielded ops a.tmps) = true) (ty : TypeId) (p x : Operand) (ho : o.op = .store ty p x) (g : Nat) (hp : a.eval p = .pointer (some ⟨g, 0, none⟩)) (t : TypeId) (cs us : List Value) (hx : a.eval x = .agg us.toArray)
    (hm : Mem w0 w (Blk g (.cells cs.toArray t) :: L)) (hi : (P.info? ty).map (·.size) = some us.length) (hl : cs.length = us.length) (h1 : One us)
    (h : ∀ w', Mem w0 w' (Blk g (.cells us.toArray t) :: L) → K (a.put o.dst undef) w') : if Region.wanted o (yielded ops a.tmps) = true then o.wp P a w K Q else E := by
  rw [if_pos hw]
  obtain ⟨inf, hi1, hi2⟩ : ∃ inf, P.info? ty = some inf ∧ inf.size = us.length := by
    cases h : P.info? ty with
    | none => rw [h] at hi; simp at hi
    | some inf => rw [h] at hi; exact ⟨inf, rfl, by simpa using hi⟩
  have hg := hm.blk m0
  have hst := run_storeCells_at P g 0 t us 0 cs.toArray w hg (by simp [hl]) h1
  simp only [Nat.zero_add, List.take_zero, List.nil_append] at hst
  have e : cs.drop us.length = [] := by rw [List.drop_eq_nil_iff]; omega
  simp only [e, List.append_nil] at hst
  unfold Oper.wp execOp
  simp only [ho, hp, hx]
  simp [Instr.storeAt, Instr.sureAddr, storeVar, sizeOf, typeInfo, hi1, hi2, Value.cells, hst]
  refine h _ (hm.upd ⟨rfl, rfl, rfl, by simp, fun k _ hk => setRow_other w g k _ (fun e => hk e)⟩ ?_ (fun k hk => .inl hk))
  exact setRow_heap w g cs.toArray us.toArray t _ hg
end Go.Mm
namespace Go.Proofs.YtpibchjkmaghnaaGreat
open Go.RowKit Go.Mm
set_option maxHeartbeats 4000000
set_option maxRecDepth 100000
set_option linter.unusedSimpArgs false
theorem Hp.opnC1 {w0 w : World} {L : List Chunk} {h : Hp} {X : Chunk} (hm : Mem w0 w (HpC h :: X :: L)) (i : Nat) (hi : i < h.ths.length) (t : Th) (ht : h.ths.getD i th0 = t) (hk : t.ob.kind = 9) :
    Mem w0 w (X :: Blk t.g (.cells [.int .i64 t.ob.cap, .slice t.A t.n t.c, .bool t.ob.shut].toArray 129) :: Own 2 (.slice t.A t.n t.c) (fV t.ob.items) :: (t.more ++ (h.rest i ++ L))) := by
  have h1 := Hp.opnC hm i hi t ht hk
  rw [← List.append_assoc] at h1 ⊢
  exact h1.perm (((List.perm_middle.cons _).cons _).trans (((List.Perm.swap _ _ _).cons _).trans (List.Perm.swap _ _ _)))
theorem Hp.clsC1 {w0 w : World} {L : List Chunk} {h : Hp} {X : Chunk} (i : Nat) (hi : i < h.ths.length) (t : Th) (ht : h.ths.getD i th0 = t) (hk : t.ob.kind = 9) (A : Option Addr) (n c : Nat) (items : List V2) (sh : Bool)
    (hm : Mem w0 w (X :: Blk t.g (.cells [.int .i64 t.ob.cap, .slice A n c, .bool sh].toArray 129) :: Own 2 (.slice A n c) (fV items) :: (t.more ++ (h.rest i ++ L)))) : Mem w0 w (X :: HpC (h.upd i (t.queue A n c items sh)) :: L) := by
  refine (Hp.clsC (L := X :: L) i hi t ht hk A n c items sh ?_).swap
  rw [← List.append_assoc] at hm ⊢
  exact hm.perm ((((List.perm_middle.cons _).cons _).trans (((List.Perm.swap _ _ _).cons _).trans (List.Perm.swap _ _ _))).symm)
theorem rng2 {w : World} {b o : Nat} {x : V2} (r0 : w.cell? ⟨b, o, none⟩ = some (.int .i64 x.1)) (r1 : w.cell? ⟨b, o + 1, none⟩ = some (.int .i64 x.2)) : w.rangeAt b o (cV x) := fun j v hv => by
  match j with
  | 0 => cases hv; exact r0
  | 1 => cases hv; exact r1
  | _ + 2 => cases hv
def recvR (o : Ob) : Value := match o.items with | [] => .tuple #[.agg #[.int .i64 0, .int .i64 0], .bool o.shut, .int .i64 0] | x :: _ => .tuple #[.agg #[.int .i64 x.1, .int .i64 x.2], .bool true, .int .i64 0]
theorem recv_ok (w0 w : World) (L : List Chunk) (h : Hp) (hm : Mem w0 w (HpC h :: L)) (hok : Fact h.Ok) (K N : Int) (i : Nat) (hn : nm h.objs (K, N) = some i) (t : Th) (ht : Fact (h.ths.getD i th0 = t)) (hk : Fact (t.ob.kind = 9)) (hsz : t.ob.items.length ≤ 1048576) :
    Calls Tryz.prog 92 #[.pointer (some ⟨h.g, 0, none⟩), .agg #[.int .i64 K, .int .i64 N]] w fun e w' => e = .returned (recvR t.ob) ∧ ∃ A n c, Mem w0 w' (HpC (h.upd i (t.queue A n c t.ob.items.tail t.ob.shut)) :: L) := by
  have hil := (nm_in hn).1
  have has := Fact.mk (asK_yes hn ht.out 9 hk.out)
  clear hn
  go_enter Tryz.func92, Tryz.ntmps92
  go_upto_region 1 with (fail)
  have hm1 := (hm.alloc (.cells [.int .i64 K, .int .i64 N].toArray 35)).alloc (.cells [.int .i64 0, .int .i64 0].toArray 35)
  simp only [World.size_alloc] at hm1
  generalize hgb : w.heap.size = gb at hm1 ⊢
  generalize hw1 : (w.alloc (.cells [.int .i64 K, .int .i64 N].toArray 35)).alloc (.cells [.int .i64 0, .int .i64 0].toArray 35) = w1 at hm1
  try refine wp_world hw1 ?_
  clear hw1 hgb
  go_wp2_with (refine wp_rng rfl 35 _ rfl gb 0 rfl (cV (K, N)) (rng_blk hm1 m1) row_V sz_V ?_)
  refine (channel_ok w0 w1 _ h hm1 m2 hok K N).mono ?_
  rintro e w2 ⟨rfl, hg2⟩
  rw [has.out]
  have hm2 := Hp.opnC1 ((hm1.gr hg2).drop2.swap) i hil t ht.out hk.out
  obtain ⟨R, hR⟩ : ∃ R, R = t.more ++ (h.rest i ++ L) := ⟨_, rfl⟩
  rw [← hR] at hm2
  replace hR := Fact.mk hR
  have hl : t.ob.items.length = t.n := rdV_len (hm2.rd m2)
  have hcap := OwnAt.cap (hm2.ok _ m2)
  have c1 := hm2.cell m1 1 rfl
  have c2 := hm2.cell m1 2 rfl
  simp only [trapK]
  have key : Fact (∀ (W : World) (X : Chunk) (A : Option Addr) (n c : Nat) (its : List V2), Mem w0 W (X :: Blk t.g (.cells [.int .i64 t.ob.cap, .slice A n c, .bool t.ob.shut].toArray 129) :: Own 2 (.slice A n c) (fV its) :: R) → Mem w0 W (X :: HpC (h.upd i (t.queue A n c its t.ob.shut)) :: L)) := ⟨fun W X A n c its hM => by
    rw [hR.out] at hM
    exact Hp.clsC1 i hil t ht.out hk.out A n c its t.ob.shut hM⟩
  cases hq : t.ob.items with
  | nil =>
    have hr : Fact (recvR t.ob = .tuple #[.agg #[.int .i64 0, .int .i64 0], .bool t.ob.shut, .int .i64 0]) := ⟨by unfold recvR; rw [hq]⟩
    rw [hq] at hm2 hl
    have hn0 : t.n = 0 := by simpa using hl.symm
    rw [hn0] at hm2 c1 hcap
    have hq := Fact.mk hq
    clear hl
    generalize hsh : t.ob.shut = sh at hm2 c2 key hr
    replace hsh := Fact.mk hsh
    go_upto_region 5 with (fail)
    clear c1
    have hm3 := hm2.drew
    have hS : w2.drew.cell? ⟨t.g, 2, none⟩ = some (.bool sh) := hm3.cell m1 2 rfl
    refine wp_region_until (S := fun W => W.cell? ⟨t.g, 2, none⟩ = some (.bool sh)) 6 (by kernel_rfl) ?_
    refine wpAnyU_take 0 (v := ?vsa0) rfl (by kernel_rfl) (by kernel_rfl) (fun _ _ _ h => h) hS (Or.inl ⟨rfl, ?ysa0⟩) ?rsa0
    case ysa0 =>
      intro W hW
      go_simp
      try with_reducible rfl
    try simp only [Act.put, List.setIfInBounds_toArray, List.set_cons_zero, List.set_cons_succ]
    refine wpAnyU_take 1 (v := ?vsa1) rfl (by kernel_rfl) (by kernel_rfl) (fun _ _ _ h => h) hS (Or.inl ⟨rfl, ?ysa1⟩) ?rsa1
    case ysa1 =>
      intro W hW
      go_simp
      try with_reducible rfl
    try simp only [Act.put, List.setIfInBounds_toArray, List.set_cons_zero, List.set_cons_succ]
    refine wpAnyU_take 2 (v := ?vsa2) rfl (by kernel_rfl) (by kernel_rfl) (fun _ _ _ h => h) hS (Or.inl ⟨rfl, ?ysa2⟩) ?rsa2
    case ysa2 =>
      intro W hW
      go_simp
      try with_reducible rfl
    try simp only [Act.put, List.setIfInBounds_toArray, List.set_cons_zero, List.set_cons_succ]
    refine wpAnyU_take 3 (v := ?vsa3) rfl (by kernel_rfl) (by kernel_rfl) (fun _ _ _ h => h) hS (Or.inl ⟨rfl, ?ysa3⟩) ?rsa3
    case ysa3 =>
      intro W hW
      go_simp
      try with_reducible rfl
    try simp only [Act.put, List.setIfInBounds_toArray, List.set_cons_zero, List.set_cons_succ]
    refine wpAnyU_take 4 (v := ?vsa4) rfl (by kernel_rfl) (by kernel_rfl) (fun _ _ _ h => h) hS (Or.inl ⟨rfl, ?ysa4⟩) ?rsa4
    case ysa4 =>
      intro W hW
      go_simp
      try with_reducible rfl
    try simp only [Act.put, List.setIfInBounds_toArray, List.set_cons_zero, List.set_cons_succ]
    refine wpAnyU_one 5 (by kernel_rfl) rfl (fun K hK => ?_)
    refine step_setrow rfl 35 _ _ rfl (gb + 1) rfl 35 _ [.int .i64 0, .int .i64 0] rfl hm3 sz_V rfl (cV_one (0, 0)) ?_
    intro w4 hm4
    refine hK _ _ (fun _ => hm4.cell m1 2 rfl) ?_
    clear hK K
    try simp only [Act.put, List.setIfInBounds_toArray, List.set_cons_zero, List.set_cons_succ]
    refine wpAnyU_one 6 (by kernel_rfl) rfl (fun K hK => ?_)
    go_simp
    refine hK _ _ (fun h => absurd h (by decide)) ?_
    clear hK K
    refine wpAnyU_one 7 (by kernel_rfl) rfl (fun K hK => ?_)
    go_simp
    refine hK _ _ (fun h => absurd h (by decide)) ?_
    clear hK K
    refine wpAnyU_done (by kernel_rfl) ?_ _
    go_wp2
    refine bodyPost_ret (Mm.res_cell_tmp2 rfl _ (gb + 1) 35 [.int .i64 0, .int .i64 0] (0, 0) rfl hm4 m0 row_V sz_V) rfl ⟨by rw [hr.out]; rfl, t.A, 0, t.c, ?_⟩
    rw [hq.out, hsh.out]
    exact (key.out w4 _ t.A 0 t.c [] hm4).tail
  | cons x xs =>
    have hr : Fact (recvR t.ob = .tuple #[.agg #[.int .i64 x.1, .int .i64 x.2], .bool true, .int .i64 0]) := ⟨by unfold recvR; rw [hq]⟩
    rw [hq] at hm2 hl hsz
    have hq := Fact.mk hq
    have hnp : 0 < t.n := by rw [← hl]; simp
    have hnz : decide ((t.n : Int) = 0) = false := decide_eq_false (by omega)
    have hnB : t.n ≤ 1048576 := by omega
    have hl := Fact.mk hl
    clear hsz
    generalize t.n = n at hm2 hcap c1 hnp hnz hnB hl
    generalize hsh : t.ob.shut = sh at hm2 c2 key hr
    replace hsh := Fact.mk hsh
    obtain ⟨b, o, hA, r0, r1, _, _⟩ := rdV_at (hm2.rd m2) 0 hnp
    simp only [List.getD_cons_zero, Nat.zero_mul, Nat.add_zero] at r0 r1
    rw [hA] at hm2 c1
    go_upto_region 6 with (fail)
    have rx := rng2 r0 r1
    go_upto_region 7 with (first | (refine wp_rng rfl 35 _ rfl b o rfl (cV x) rx row_V sz_V ?_) | (refine wp_setrow rfl 35 _ _ rfl w2.heap.size rfl 35 _ (cV x) rfl (hm2.alloc _) sz_V rfl (cV_one x) ?_; intro w3 hm3))
    clear r0 r1 rx c1 c2
    generalize w2.heap.size = gx at hm3 ⊢
    have c1 := hm3.cell m2 1 rfl
    go_wp2_with fail
    refine (delV_ok w0 w3 _ (some ⟨b, o, none⟩) n t.c _ hm3.pull3 0 hnp hnB 0 1 rfl rfl).mono ?_
    rintro e w4 ⟨rfl, hm4⟩
    have hm5 := hm4.pull3
    clear c1
    have c1 := hm5.cell m0 1 rfl
    have f1 := hm5.free m0 1
    go_upto_region 8 with (fail)
    have hm6 := hm5.set 1 (.slice (some ⟨b, o, none⟩) (n - 1) t.c)
    simp only [List.set_cons_succ, List.set_cons_zero] at hm6
    clear c1 f1
    generalize w4.setCell ⟨t.g, 1, none⟩ (.slice (some ⟨b, o, none⟩) (n - 1) t.c) = w5 at hm6 ⊢
    have hm7 := hm6.pull3
    go_wp2_with (first | (refine wp_rng rfl 35 _ rfl gx 0 rfl (cV x) (rng_blk hm7 m3) row_V sz_V ?_) | (refine wp_setrow rfl 35 _ _ rfl (gb + 1) rfl 35 _ (cV x) rfl hm7 sz_V rfl (cV_one x) ?_; intro w8 hm8))
    refine bodyPost_ret (Mm.res_cell_tmp2 rfl _ (gb + 1) 35 (cV x) (0, 0) rfl hm8 m0 row_V sz_V) rfl ⟨by rw [hr.out]; rfl, some ⟨b, o, none⟩, n - 1, t.c, ?_⟩
    rw [hq.out, hsh.out]
    have e : List.take (0 * 2) (fV (x :: xs)) ++ List.drop (0 * 2 + 2) (fV (x :: xs)) = fV xs := by simp [fV, cV]
    rw [e] at hm8
    exact (key.out w8 _ _ _ _ xs (hm8.sub (.cons_cons _ (.cons_cons _ (.cons_cons _ (List.sublist_cons_self _ _)))))).tail
end Go.Proofs.YtpibchjkmaghnaaGreat
namespace Go.Proofs.YtpibchjkmaghnaaGreat
open Go.RowKit Go.Mm
set_option maxHeartbeats 4000000
set_option maxRecDepth 100000
set_option linter.unusedSimpArgs false
/-- An object's cells. -/
def obC (k : Int) (A : Option Addr) (n c : Nat) (KA : Option Addr) (kn kc : Nat) (fn cap : Int) (sh : Bool) : List Value := [.int .i64 k, .slice A n c, .slice KA kn kc, .int .i64 fn, .int .i64 cap, .bool sh]
theorem obC_one (k : Int) (A : Option Addr) (n c : Nat) (KA : Option Addr) (kn kc : Nat) (fn cap : Int) (sh : Bool) : One (obC k A n c KA kn kc fn cap sh) := fun u hu => by simp [obC] at hu; rcases hu with rfl | rfl | rfl | rfl | rfl | rfl <;> rfl
theorem sz_O : (Tryz.prog.info? 41).map (·.size) = some 6 := by kernel_rfl
theorem row_O : (Tryz.prog.underlying 41).map (·.isRow) = some true := by kernel_rfl
theorem objA_ok (w0 w : World) (L : List Chunk) (hm : Mem w0 w L) (g : Nat) (A : Option Addr) (n c : Nat) (xs : List V2) (hx : Fact (RdC w 2 (.slice A n c) (fV xs))) (hn : n ≤ 16777216)
    (c0 : w.cell? ⟨g, 0, none⟩ = some (.slice A n c)) :
    Calls Tryz.prog 115 #[.pointer (some ⟨g, 0, none⟩)] w fun e w' => ∃ A' c', e = .returned (.agg (obC 6 A' n c' none 0 0 0 0 false).toArray) ∧ Mem w0 w' (Own 2 (.slice A' n c') (fV xs) :: L) := by
  go_enter Tryz.func115, Tryz.ntmps115
  go_upto_region 1 with (fail)
  have hm1 := hm.alloc (.cells [.int .i64 0, .slice none 0 0, .slice none 0 0, .int .i64 0, .int .i64 0, .bool false].toArray 41)
  have hg1 := (Gr.refl w).alloc (.cells [.int .i64 0, .slice none 0 0, .slice none 0 0, .int .i64 0, .int .i64 0, .bool false].toArray 41)
  generalize hgb : w.heap.size = gb at hm1 ⊢
  generalize hw1 : w.alloc (.cells [.int .i64 0, .slice none 0 0, .slice none 0 0, .int .i64 0, .int .i64 0, .bool false].toArray 41) = w1 at hm1 hg1
  try refine wp_world hw1 ?_
  clear hw1 hgb
  replace c0 := hg1.cell c0
  go_wp2_with fail
  refine (clone_ok w1 w1 [] (Mem.start w1) A n c xs ⟨hx.out.gr hg1⟩ hn).mono ?_
  rintro e w2 ⟨A2, c2, rfl, hM2⟩
  have hm2 := hm1.join hM2
  go_wp2_with (refine wp_setrow rfl 41 _ _ rfl gb rfl 41 _ (obC 6 A2 n c2 none 0 0 0 0 false) rfl hm2.swap sz_O rfl (obC_one _ _ _ _ _ _ _ _ _ _) ?_; intro w3 hm3)
  exact bodyPost_ret (Mm.res_cell rfl _ gb 41 (obC 6 A2 n c2 none 0 0 0 0 false) (0, 0) rfl hm3 m0 row_O sz_O) rfl ⟨A2, c2, rfl, hm3.tail⟩
theorem objB_ok (w0 w : World) (L : List Chunk) (hm : Mem w0 w L) (g : Nat) (fn : Int) (A : Option Addr) (n c : Nat) (xs : List V2) (hx : Fact (RdC w 2 (.slice A n c) (fV xs))) (hn : n ≤ 16777216)
    (c0 : w.cell? ⟨g, 0, none⟩ = some (.int .i64 fn)) (c1 : w.cell? ⟨g, 1, none⟩ = some (.slice A n c)) :
    Calls Tryz.prog 120 #[.pointer (some ⟨g, 0, none⟩)] w fun e w' => ∃ A' c', e = .returned (.agg (obC 8 A' n c' none 0 0 fn 0 false).toArray) ∧ Mem w0 w' (Own 2 (.slice A' n c') (fV xs) :: L) := by
  go_enter Tryz.func120, Tryz.ntmps120
  go_upto_region 1 with (fail)
  have hm1 := hm.alloc (.cells [.int .i64 0, .slice none 0 0, .slice none 0 0, .int .i64 0, .int .i64 0, .bool false].toArray 41)
  have hg1 := (Gr.refl w).alloc (.cells [.int .i64 0, .slice none 0 0, .slice none 0 0, .int .i64 0, .int .i64 0, .bool false].toArray 41)
  generalize hgb : w.heap.size = gb at hm1 ⊢
  generalize hw1 : w.alloc (.cells [.int .i64 0, .slice none 0 0, .slice none 0 0, .int .i64 0, .int .i64 0, .bool false].toArray 41) = w1 at hm1 hg1
  try refine wp_world hw1 ?_
  clear hw1 hgb
  have hm2 := hm1.drew
  have hx2 := hx.out.gr hg1.drew
  have hS := And.intro (hg1.drew.cell c0) (hg1.drew.cell c1)
  refine wp_region_until (S := fun W => W.cell? ⟨g, 0, none⟩ = some (.int .i64 fn) ∧ W.cell? ⟨g, 1, none⟩ = some (.slice A n c)) 10 (by kernel_rfl) ?_
  generalize w1.drew = w2 at hS hm2 hx2 ⊢
  refine wpAnyU_take 0 (v := ?vsa0) rfl (by kernel_rfl) (by kernel_rfl) (fun _ _ _ h => h) hS (Or.inl ⟨rfl, ?ysa0⟩) ?rsa0
  case ysa0 =>
    intro W hW
    obtain ⟨hW0, hW1⟩ := hW
    go_simp
    try with_reducible rfl
  try simp only [Act.put, List.getElem_toArray, List.getElem_cons_succ, List.getElem_cons_zero, List.setIfInBounds_toArray, List.set_cons_zero, List.set_cons_succ]
  refine wpAnyU_take 1 (v := ?vsa1) rfl (by kernel_rfl) (by kernel_rfl) (fun _ _ _ h => h) hS (Or.inl ⟨rfl, ?ysa1⟩) ?rsa1
  case ysa1 =>
    intro W hW
    obtain ⟨hW0, hW1⟩ := hW
    go_simp
    try with_reducible rfl
  try simp only [Act.put, List.getElem_toArray, List.getElem_cons_succ, List.getElem_cons_zero, List.setIfInBounds_toArray, List.set_cons_zero, List.set_cons_succ]
  refine wpAnyU_take 2 (v := ?vsa2) rfl (by kernel_rfl) (by kernel_rfl) (fun _ _ _ h => h) hS (Or.inl ⟨rfl, ?ysa2⟩) ?rsa2
  case ysa2 =>
    intro W hW
    obtain ⟨hW0, hW1⟩ := hW
    go_simp
    try with_reducible rfl
  try simp only [Act.put, List.getElem_toArray, List.getElem_cons_succ, List.getElem_cons_zero, List.setIfInBounds_toArray, List.set_cons_zero, List.set_cons_succ]
  refine wpAnyU_take 3 (v := ?vsa3) rfl (by kernel_rfl) (by kernel_rfl) (fun _ _ _ h => h) hS (Or.inl ⟨rfl, ?ysa3⟩) ?rsa3
  case ysa3 =>
    intro W hW
    obtain ⟨hW0, hW1⟩ := hW
    go_simp
    try with_reducible rfl
  try simp only [Act.put, List.getElem_toArray, List.getElem_cons_succ, List.getElem_cons_zero, List.setIfInBounds_toArray, List.set_cons_zero, List.set_cons_succ]
  refine wpAnyU_take 4 (v := ?vsa4) rfl (by kernel_rfl) (by kernel_rfl) (fun _ _ _ h => h) hS (Or.inl ⟨rfl, ?ysa4⟩) ?rsa4
  case ysa4 =>
    intro W hW
    obtain ⟨hW0, hW1⟩ := hW
    go_simp
    try with_reducible rfl
  try simp only [Act.put, List.getElem_toArray, List.getElem_cons_succ, List.getElem_cons_zero, List.setIfInBounds_toArray, List.set_cons_zero, List.set_cons_succ]
  refine wpAnyU_take 5 (v := ?vsa5) rfl (by kernel_rfl) (by kernel_rfl) (fun _ _ _ h => h) hS (Or.inl ⟨rfl, ?ysa5⟩) ?rsa5
  case ysa5 =>
    intro W hW
    obtain ⟨hW0, hW1⟩ := hW
    go_simp
    try with_reducible rfl
  try simp only [Act.put, List.getElem_toArray, List.getElem_cons_succ, List.getElem_cons_zero, List.setIfInBounds_toArray, List.set_cons_zero, List.set_cons_succ]
  refine wpAnyU_take 6 (v := ?vsa6) rfl (by kernel_rfl) (by kernel_rfl) (fun _ _ _ h => h) hS (Or.inl ⟨rfl, ?ysa6⟩) ?rsa6
  case ysa6 =>
    intro W hW
    obtain ⟨hW0, hW1⟩ := hW
    go_simp
    try with_reducible rfl
  try simp only [Act.put, List.getElem_toArray, List.getElem_cons_succ, List.getElem_cons_zero, List.setIfInBounds_toArray, List.set_cons_zero, List.set_cons_succ]
  refine wpAnyU_take 7 (v := ?vsa7) rfl (by kernel_rfl) (by kernel_rfl) (fun _ _ _ h => h) hS (Or.inl ⟨rfl, ?ysa7⟩) ?rsa7
  case ysa7 =>
    intro W hW
    obtain ⟨hW0, hW1⟩ := hW
    go_simp
    try with_reducible rfl
  try simp only [Act.put, List.getElem_toArray, List.getElem_cons_succ, List.getElem_cons_zero, List.setIfInBounds_toArray, List.set_cons_zero, List.set_cons_succ]
  refine wpAnyU_one 8 (by kernel_rfl) rfl (fun K hK => ?_)
  refine step_call rfl 67 Tryz.f67 Tryz.func67 (by kernel_rfl) (by kernel_rfl) _ _ rfl #[.slice A n c] (by simp [Act.eval]) ?_
  refine (clone_ok w2 w2 [] (Mem.start w2) A n c xs ⟨hx2⟩ hn).mono ?_
  rintro e w3 ⟨A3, c3, rfl, hM3⟩
  refine ⟨_, rfl, ?_⟩
  have hT := And.intro (Gr.cell hM3.below hS.1) (Gr.cell hM3.below hS.2)
  refine hK _ _ (fun _ => hT) ?_
  clear hK K
  try simp only [Act.put, List.getElem_toArray, List.getElem_cons_succ, List.getElem_cons_zero, List.setIfInBounds_toArray, List.set_cons_zero, List.set_cons_succ]
  have hm3 := hm2.join hM3
  refine wpAnyU_one 9 (by kernel_rfl) rfl (fun K hK => ?_)
  go_simp
  refine hK _ _ (fun _ => ⟨hT.1, hT.2⟩) ?_
  clear hK K
  try simp only [Act.put, List.getElem_toArray, List.getElem_cons_succ, List.getElem_cons_zero, List.setIfInBounds_toArray, List.set_cons_zero, List.set_cons_succ]
  refine wpAnyU_one 10 (by kernel_rfl) rfl (fun K hK => ?_)
  refine step_setrow rfl 41 _ _ rfl gb rfl 41 _ (obC 8 A3 n c3 none 0 0 fn 0 false) rfl hm3.swap sz_O rfl (obC_one _ _ _ _ _ _ _ _ _ _) ?_
  intro w9 hm9
  refine hK _ _ (fun h => absurd h (by decide)) ?_
  clear hK K
  refine wpAnyU_done (by kernel_rfl) ?_ _
  go_wp2
  exact bodyPost_ret (Mm.res_cell rfl _ gb 41 (obC 8 A3 n c3 none 0 0 fn 0 false) (0, 0) rfl hm9 m0 row_O sz_O) rfl ⟨A3, c3, rfl, hm9.tail⟩
theorem objC_ok (w0 w : World) (L : List Chunk) (hm : Mem w0 w L) (g : Nat) (cap : Int) (sh : Bool) (A : Option Addr) (n c : Nat) (xs : List V2) (hx : Fact (RdC w 2 (.slice A n c) (fV xs))) (hn : n ≤ 16777216)
    (c0 : w.cell? ⟨g, 0, none⟩ = some (.int .i64 cap)) (c1 : w.cell? ⟨g, 1, none⟩ = some (.slice A n c)) (c2 : w.cell? ⟨g, 2, none⟩ = some (.bool sh)) :
    Calls Tryz.prog 124 #[.pointer (some ⟨g, 0, none⟩)] w fun e w' => ∃ A' c', e = .returned (.agg (obC 9 A' n c' none 0 0 0 cap sh).toArray) ∧ Mem w0 w' (Own 2 (.slice A' n c') (fV xs) :: L) := by
  go_enter Tryz.func124, Tryz.ntmps124
  go_upto_region 1 with (fail)
  have hm1 := hm.alloc (.cells [.int .i64 0, .slice none 0 0, .slice none 0 0, .int .i64 0, .int .i64 0, .bool false].toArray 41)
  have hg1 := (Gr.refl w).alloc (.cells [.int .i64 0, .slice none 0 0, .slice none 0 0, .int .i64 0, .int .i64 0, .bool false].toArray 41)
  generalize hgb : w.heap.size = gb at hm1 ⊢
  generalize hw1 : w.alloc (.cells [.int .i64 0, .slice none 0 0, .slice none 0 0, .int .i64 0, .int .i64 0, .bool false].toArray 41) = w1 at hm1 hg1
  try refine wp_world hw1 ?_
  clear hw1 hgb
  have hm2 := hm1.drew
  have hx2 := hx.out.gr hg1.drew
  have hS := And.intro (hg1.drew.cell c0) (And.intro (hg1.drew.cell c1) (hg1.drew.cell c2))
  refine wp_region_until (S := fun W => W.cell? ⟨g, 0, none⟩ = some (.int .i64 cap) ∧ W.cell? ⟨g, 1, none⟩ = some (.slice A n c) ∧ W.cell? ⟨g, 2, none⟩ = some (.bool sh)) 14 (by kernel_rfl) ?_
  generalize w1.drew = w2 at hS hm2 hx2 ⊢
  refine wpAnyU_take 0 (v := ?vsa0) rfl (by kernel_rfl) (by kernel_rfl) (fun _ _ _ h => h) hS (Or.inl ⟨rfl, ?ysa0⟩) ?rsa0
  case ysa0 =>
    intro W hW
    obtain ⟨hW0, hW1, hW2⟩ := hW
    go_simp
    try with_reducible rfl
  try simp only [Act.put, List.getElem_toArray, List.getElem_cons_succ, List.getElem_cons_zero, List.setIfInBounds_toArray, List.set_cons_zero, List.set_cons_succ]
  refine wpAnyU_take 1 (v := ?vsa1) rfl (by kernel_rfl) (by kernel_rfl) (fun _ _ _ h => h) hS (Or.inl ⟨rfl, ?ysa1⟩) ?rsa1
  case ysa1 =>
    intro W hW
    obtain ⟨hW0, hW1, hW2⟩ := hW
    go_simp
    try with_reducible rfl
  try simp only [Act.put, List.getElem_toArray, List.getElem_cons_succ, List.getElem_cons_zero, List.setIfInBounds_toArray, List.set_cons_zero, List.set_cons_succ]
  refine wpAnyU_take 2 (v := ?vsa2) rfl (by kernel_rfl) (by kernel_rfl) (fun _ _ _ h => h) hS (Or.inl ⟨rfl, ?ysa2⟩) ?rsa2
  case ysa2 =>
    intro W hW
    obtain ⟨hW0, hW1, hW2⟩ := hW
    go_simp
    try with_reducible rfl
  try simp only [Act.put, List.getElem_toArray, List.getElem_cons_succ, List.getElem_cons_zero, List.setIfInBounds_toArray, List.set_cons_zero, List.set_cons_succ]
  refine wpAnyU_take 3 (v := ?vsa3) rfl (by kernel_rfl) (by kernel_rfl) (fun _ _ _ h => h) hS (Or.inl ⟨rfl, ?ysa3⟩) ?rsa3
  case ysa3 =>
    intro W hW
    obtain ⟨hW0, hW1, hW2⟩ := hW
    go_simp
    try with_reducible rfl
  try simp only [Act.put, List.getElem_toArray, List.getElem_cons_succ, List.getElem_cons_zero, List.setIfInBounds_toArray, List.set_cons_zero, List.set_cons_succ]
  refine wpAnyU_take 4 (v := ?vsa4) rfl (by kernel_rfl) (by kernel_rfl) (fun _ _ _ h => h) hS (Or.inl ⟨rfl, ?ysa4⟩) ?rsa4
  case ysa4 =>
    intro W hW
    obtain ⟨hW0, hW1, hW2⟩ := hW
    go_simp
    try with_reducible rfl
  try simp only [Act.put, List.getElem_toArray, List.getElem_cons_succ, List.getElem_cons_zero, List.setIfInBounds_toArray, List.set_cons_zero, List.set_cons_succ]
  refine wpAnyU_take 5 (v := ?vsa5) rfl (by kernel_rfl) (by kernel_rfl) (fun _ _ _ h => h) hS (Or.inl ⟨rfl, ?ysa5⟩) ?rsa5
  case ysa5 =>
    intro W hW
    obtain ⟨hW0, hW1, hW2⟩ := hW
    go_simp
    try with_reducible rfl
  try simp only [Act.put, List.getElem_toArray, List.getElem_cons_succ, List.getElem_cons_zero, List.setIfInBounds_toArray, List.set_cons_zero, List.set_cons_succ]
  refine wpAnyU_take 6 (v := ?vsa6) rfl (by kernel_rfl) (by kernel_rfl) (fun _ _ _ h => h) hS (Or.inl ⟨rfl, ?ysa6⟩) ?rsa6
  case ysa6 =>
    intro W hW
    obtain ⟨hW0, hW1, hW2⟩ := hW
    go_simp
    try with_reducible rfl
  try simp only [Act.put, List.getElem_toArray, List.getElem_cons_succ, List.getElem_cons_zero, List.setIfInBounds_toArray, List.set_cons_zero, List.set_cons_succ]
  refine wpAnyU_take 7 (v := ?vsa7) rfl (by kernel_rfl) (by kernel_rfl) (fun _ _ _ h => h) hS (Or.inl ⟨rfl, ?ysa7⟩) ?rsa7
  case ysa7 =>
    intro W hW
    obtain ⟨hW0, hW1, hW2⟩ := hW
    go_simp
    try with_reducible rfl
  try simp only [Act.put, List.getElem_toArray, List.getElem_cons_succ, List.getElem_cons_zero, List.setIfInBounds_toArray, List.set_cons_zero, List.set_cons_succ]
  refine wpAnyU_take 9 (v := ?vsa9) rfl (by kernel_rfl) (by kernel_rfl) (fun _ _ _ h => h) hS (Or.inl ⟨rfl, ?ysa9⟩) ?rsa9
  case ysa9 =>
    intro W hW
    obtain ⟨hW0, hW1, hW2⟩ := hW
    go_simp
    try with_reducible rfl
  try simp only [Act.put, List.getElem_toArray, List.getElem_cons_succ, List.getElem_cons_zero, List.setIfInBounds_toArray, List.set_cons_zero, List.set_cons_succ]
  refine wpAnyU_take 10 (v := ?vsa10) rfl (by kernel_rfl) (by kernel_rfl) (fun _ _ _ h => h) hS (Or.inl ⟨rfl, ?ysa10⟩) ?rsa10
  case ysa10 =>
    intro W hW
    obtain ⟨hW0, hW1, hW2⟩ := hW
    go_simp
    try with_reducible rfl
  try simp only [Act.put, List.getElem_toArray, List.getElem_cons_succ, List.getElem_cons_zero, List.setIfInBounds_toArray, List.set_cons_zero, List.set_cons_succ]
  refine wpAnyU_take 11 (v := ?vsa11) rfl (by kernel_rfl) (by kernel_rfl) (fun _ _ _ h => h) hS (Or.inl ⟨rfl, ?ysa11⟩) ?rsa11
  case ysa11 =>
    intro W hW
    obtain ⟨hW0, hW1, hW2⟩ := hW
    go_simp
    try with_reducible rfl
  try simp only [Act.put, List.getElem_toArray, List.getElem_cons_succ, List.getElem_cons_zero, List.setIfInBounds_toArray, List.set_cons_zero, List.set_cons_succ]
  refine wpAnyU_take 12 (v := ?vsa12) rfl (by kernel_rfl) (by kernel_rfl) (fun _ _ _ h => h) hS (Or.inl ⟨rfl, ?ysa12⟩) ?rsa12
  case ysa12 =>
    intro W hW
    obtain ⟨hW0, hW1, hW2⟩ := hW
    go_simp
    try with_reducible rfl
  try simp only [Act.put, List.getElem_toArray, List.getElem_cons_succ, List.getElem_cons_zero, List.setIfInBounds_toArray, List.set_cons_zero, List.set_cons_succ]
  refine wpAnyU_one 8 (by kernel_rfl) rfl (fun K hK => ?_)
  refine step_call rfl 67 Tryz.f67 Tryz.func67 (by kernel_rfl) (by kernel_rfl) _ _ rfl #[.slice A n c] (by simp [Act.eval]) ?_
  refine (clone_ok w2 w2 [] (Mem.start w2) A n c xs ⟨hx2⟩ hn).mono ?_
  rintro e w3 ⟨A3, c3, rfl, hM3⟩
  refine ⟨_, rfl, ?_⟩
  have hT := And.intro (Gr.cell hM3.below hS.1) (And.intro (Gr.cell hM3.below hS.2.1) (Gr.cell hM3.below hS.2.2))
  refine hK _ _ (fun _ => hT) ?_
  clear hK K
  try simp only [Act.put, List.getElem_toArray, List.getElem_cons_succ, List.getElem_cons_zero, List.setIfInBounds_toArray, List.set_cons_zero, List.set_cons_succ]
  have hm3 := hm2.join hM3
  refine wpAnyU_one 13 (by kernel_rfl) rfl (fun K hK => ?_)
  go_simp
  refine hK _ _ (fun _ => ⟨hT.1, hT.2.1, hT.2.2⟩) ?_
  clear hK K
  try simp only [Act.put, List.getElem_toArray, List.getElem_cons_succ, List.getElem_cons_zero, List.setIfInBounds_toArray, List.set_cons_zero, List.set_cons_succ]
  refine wpAnyU_one 14 (by kernel_rfl) rfl (fun K hK => ?_)
  refine step_setrow rfl 41 _ _ rfl gb rfl 41 _ (obC 9 A3 n c3 none 0 0 0 cap sh) rfl hm3.swap sz_O rfl (obC_one _ _ _ _ _ _ _ _ _ _) ?_
  intro w9 hm9
  refine hK _ _ (fun h => absurd h (by decide)) ?_
  clear hK K
  refine wpAnyU_done (by kernel_rfl) ?_ _
  go_wp2
  exact bodyPost_ret (Mm.res_cell rfl _ gb 41 (obC 9 A3 n c3 none 0 0 0 cap sh) (0, 0) rfl hm9 m0 row_O sz_O) rfl ⟨A3, c3, rfl, hm9.tail⟩
theorem objR_ok (w0 w : World) (L : List Chunk) (hm : Mem w0 w L) (g : Nat) (A : Option Addr) (n c : Nat) (xs : List V2) (hx : Fact (RdC w 2 (.slice A n c) (fV xs))) (hn : n ≤ 16777216) (KA : Option Addr) (kn kc : Nat) (ks : List Int) (hk : Fact (RdC w 1 (.slice KA kn kc) (nums .i64 ks))) (hkn : kn ≤ 16777216)
    (c0 : w.cell? ⟨g, 0, none⟩ = some (.slice KA kn kc)) (c1 : w.cell? ⟨g, 1, none⟩ = some (.slice A n c)) :
    Calls Tryz.prog 128 #[.pointer (some ⟨g, 0, none⟩)] w fun e w' => ∃ A' c' K' k', e = .returned (.agg (obC 7 A' n c' K' kn k' 0 0 false).toArray) ∧ Mem w0 w' (Own 2 (.slice A' n c') (fV xs) :: Own 1 (.slice K' kn k') (nums .i64 ks) :: L) := by
  go_enter Tryz.func128, Tryz.ntmps128
  go_upto_region 1 with (fail)
  have hm1 := hm.alloc (.cells [.int .i64 0, .slice none 0 0, .slice none 0 0, .int .i64 0, .int .i64 0, .bool false].toArray 41)
  have hg1 := (Gr.refl w).alloc (.cells [.int .i64 0, .slice none 0 0, .slice none 0 0, .int .i64 0, .int .i64 0, .bool false].toArray 41)
  generalize hgb : w.heap.size = gb at hm1 ⊢
  generalize hw1 : w.alloc (.cells [.int .i64 0, .slice none 0 0, .slice none 0 0, .int .i64 0, .int .i64 0, .bool false].toArray 41) = w1 at hm1 hg1
  try refine wp_world hw1 ?_
  clear hw1 hgb
  have hm2 := hm1.drew
  have hx2 := hx.out.gr hg1.drew
  have hk2 := hk.out.gr hg1.drew
  have hS := And.intro (hg1.drew.cell c0) (hg1.drew.cell c1)
  refine wp_region_until (S := fun W => W.cell? ⟨g, 0, none⟩ = some (.slice KA kn kc) ∧ W.cell? ⟨g, 1, none⟩ = some (.slice A n c)) 11 (by kernel_rfl) ?_
  generalize w1.drew = w2 at hS hm2 hx2 hk2 ⊢
  refine wpAnyU_take 0 (v := ?vsa0) rfl (by kernel_rfl) (by kernel_rfl) (fun _ _ _ h => h) hS (Or.inl ⟨rfl, ?ysa0⟩) ?rsa0
  case ysa0 =>
    intro W hW
    obtain ⟨hW0, hW1⟩ := hW
    go_simp
    try with_reducible rfl
  try simp only [Act.put, List.getElem_toArray, List.getElem_cons_succ, List.getElem_cons_zero, List.setIfInBounds_toArray, List.set_cons_zero, List.set_cons_succ]
  refine wpAnyU_take 1 (v := ?vsa1) rfl (by kernel_rfl) (by kernel_rfl) (fun _ _ _ h => h) hS (Or.inl ⟨rfl, ?ysa1⟩) ?rsa1
  case ysa1 =>
    intro W hW
    obtain ⟨hW0, hW1⟩ := hW
    go_simp
    try with_reducible rfl
  try simp only [Act.put, List.getElem_toArray, List.getElem_cons_succ, List.getElem_cons_zero, List.setIfInBounds_toArray, List.set_cons_zero, List.set_cons_succ]
  refine wpAnyU_take 2 (v := ?vsa2) rfl (by kernel_rfl) (by kernel_rfl) (fun _ _ _ h => h) hS (Or.inl ⟨rfl, ?ysa2⟩) ?rsa2
  case ysa2 =>
    intro W hW
    obtain ⟨hW0, hW1⟩ := hW
    go_simp
    try with_reducible rfl
  try simp only [Act.put, List.getElem_toArray, List.getElem_cons_succ, List.getElem_cons_zero, List.setIfInBounds_toArray, List.set_cons_zero, List.set_cons_succ]
  refine wpAnyU_take 3 (v := ?vsa3) rfl (by kernel_rfl) (by kernel_rfl) (fun _ _ _ h => h) hS (Or.inl ⟨rfl, ?ysa3⟩) ?rsa3
  case ysa3 =>
    intro W hW
    obtain ⟨hW0, hW1⟩ := hW
    go_simp
    try with_reducible rfl
  try simp only [Act.put, List.getElem_toArray, List.getElem_cons_succ, List.getElem_cons_zero, List.setIfInBounds_toArray, List.set_cons_zero, List.set_cons_succ]
  refine wpAnyU_take 5 (v := ?vsa5) rfl (by kernel_rfl) (by kernel_rfl) (fun _ _ _ h => h) hS (Or.inl ⟨rfl, ?ysa5⟩) ?rsa5
  case ysa5 =>
    intro W hW
    obtain ⟨hW0, hW1⟩ := hW
    go_simp
    try with_reducible rfl
  try simp only [Act.put, List.getElem_toArray, List.getElem_cons_succ, List.getElem_cons_zero, List.setIfInBounds_toArray, List.set_cons_zero, List.set_cons_succ]
  refine wpAnyU_take 6 (v := ?vsa6) rfl (by kernel_rfl) (by kernel_rfl) (fun _ _ _ h => h) hS (Or.inl ⟨rfl, ?ysa6⟩) ?rsa6
  case ysa6 =>
    intro W hW
    obtain ⟨hW0, hW1⟩ := hW
    go_simp
    try with_reducible rfl
  try simp only [Act.put, List.getElem_toArray, List.getElem_cons_succ, List.getElem_cons_zero, List.setIfInBounds_toArray, List.set_cons_zero, List.set_cons_succ]
  refine wpAnyU_take 7 (v := ?vsa7) rfl (by kernel_rfl) (by kernel_rfl) (fun _ _ _ h => h) hS (Or.inl ⟨rfl, ?ysa7⟩) ?rsa7
  case ysa7 =>
    intro W hW
    obtain ⟨hW0, hW1⟩ := hW
    go_simp
    try with_reducible rfl
  try simp only [Act.put, List.getElem_toArray, List.getElem_cons_succ, List.getElem_cons_zero, List.setIfInBounds_toArray, List.set_cons_zero, List.set_cons_succ]
  refine wpAnyU_take 8 (v := ?vsa8) rfl (by kernel_rfl) (by kernel_rfl) (fun _ _ _ h => h) hS (Or.inl ⟨rfl, ?ysa8⟩) ?rsa8
  case ysa8 =>
    intro W hW
    obtain ⟨hW0, hW1⟩ := hW
    go_simp
    try with_reducible rfl
  try simp only [Act.put, List.getElem_toArray, List.getElem_cons_succ, List.getElem_cons_zero, List.setIfInBounds_toArray, List.set_cons_zero, List.set_cons_succ]
  refine wpAnyU_one 4 (by kernel_rfl) rfl (fun K hK => ?_)
  refine step_call rfl 130 Tryz.f130 Tryz.func130 (by kernel_rfl) (by kernel_rfl) _ _ rfl #[.slice KA kn kc] (by simp [Act.eval]) ?_
  refine (cloneN_ok w2 w2 [] (Mem.start w2) KA kn kc ks ⟨hk2⟩ hkn).mono ?_
  rintro e w3 ⟨A3, c3, rfl, hM3⟩
  refine ⟨_, rfl, ?_⟩
  have hT := And.intro (Gr.cell hM3.below hS.1) (Gr.cell hM3.below hS.2)
  refine hK _ _ (fun _ => hT) ?_
  clear hK K
  try simp only [Act.put, List.getElem_toArray, List.getElem_cons_succ, List.getElem_cons_zero, List.setIfInBounds_toArray, List.set_cons_zero, List.set_cons_succ]
  have hm3 := hm2.join hM3
  have hx3 := hx2.gr hM3.below
  refine wpAnyU_one 9 (by kernel_rfl) rfl (fun K hK => ?_)
  refine step_call rfl 67 Tryz.f67 Tryz.func67 (by kernel_rfl) (by kernel_rfl) _ _ rfl #[.slice A n c] (by simp [Act.eval]) ?_
  refine (clone_ok w3 w3 [] (Mem.start w3) A n c xs ⟨hx3⟩ hn).mono ?_
  rintro e w4 ⟨A4, c4, rfl, hM4⟩
  refine ⟨_, rfl, ?_⟩
  have hU := And.intro (Gr.cell hM4.below hT.1) (Gr.cell hM4.below hT.2)
  refine hK _ _ (fun _ => hU) ?_
  clear hK K
  try simp only [Act.put, List.getElem_toArray, List.getElem_cons_succ, List.getElem_cons_zero, List.setIfInBounds_toArray, List.set_cons_zero, List.set_cons_succ]
  have hm4 := hm3.join hM4
  refine wpAnyU_one 10 (by kernel_rfl) rfl (fun K hK => ?_)
  go_simp
  refine hK _ _ (fun _ => ⟨hU.1, hU.2⟩) ?_
  clear hK K
  try simp only [Act.put, List.getElem_toArray, List.getElem_cons_succ, List.getElem_cons_zero, List.setIfInBounds_toArray, List.set_cons_zero, List.set_cons_succ]
  refine wpAnyU_one 11 (by kernel_rfl) rfl (fun K hK => ?_)
  refine step_setrow rfl 41 _ _ rfl gb rfl 41 _ (obC 7 A4 n c4 A3 kn c3 0 0 false) rfl (hm4.perm (((List.Perm.swap _ _ _).cons _).trans (List.Perm.swap _ _ _))) sz_O rfl (obC_one _ _ _ _ _ _ _ _ _ _) ?_
  intro w9 hm9
  refine hK _ _ (fun h => absurd h (by decide)) ?_
  clear hK K
  refine wpAnyU_done (by kernel_rfl) ?_ _
  go_wp2
  exact bodyPost_ret (Mm.res_cell rfl _ gb 41 (obC 7 A4 n c4 A3 kn c3 0 0 false) (0, 0) rfl hm9 m0 row_O sz_O) rfl ⟨A4, c4, A3, c3, rfl, hm9.tail⟩
end Go.Proofs.YtpibchjkmaghnaaGreat
namespace Go.Proofs.YtpibchjkmaghnaaGreat
open Go.RowKit Go.Mm
set_option maxHeartbeats 4000000
set_option maxRecDepth 100000
/-- An object handed out: in memory of its own. -/
def ObQ (w0 : World) (L : List Chunk) (o : Ob) (v : Value) (w : World) : Prop := ∃ A c K k, v = .agg (obC o.kind A o.items.length c K o.keys.length k o.fn o.cap o.shut).toArray ∧ Mem w0 w (Own 2 (.slice A o.items.length c) (fV o.items) :: Own 1 (.slice K o.keys.length k) (nums .i64 o.keys) :: L)
theorem mobA (a : Addr) (w : World) : (callMethod (.iface 114 (.pointer (some a))) "portage/heap.object" #[]).run Tryz.prog w = .ok (.enter 115 #[.pointer (some a)]) w := by kernel_rfl
theorem mobR (a : Addr) (w : World) : (callMethod (.iface 130 (.pointer (some a))) "portage/heap.object" #[]).run Tryz.prog w = .ok (.enter 128 #[.pointer (some a)]) w := by kernel_rfl
theorem mobB (a : Addr) (w : World) : (callMethod (.iface 117 (.pointer (some a))) "portage/heap.object" #[]).run Tryz.prog w = .ok (.enter 120 #[.pointer (some a)]) w := by kernel_rfl
theorem mobC (a : Addr) (w : World) : (callMethod (.iface 127 (.pointer (some a))) "portage/heap.object" #[]).run Tryz.prog w = .ok (.enter 124 #[.pointer (some a)]) w := by kernel_rfl
/-- What a thing's chunks say. -/
theorem Th.reads {t : Th} {w : World} (h : ∀ c, c ∈ t.chunks → c.ok w) : (∀ (i : Nat) (u : Value), t.cells[i]? = some u → w.cell? ⟨t.g, i, none⟩ = some u) ∧ RdC w 2 (.slice t.A t.n t.c) (fV t.ob.items) ∧ RdC w 1 (.slice t.KA t.kn t.kc) (nums .i64 t.ob.keys) := by
  have h1 : w.heap[t.g]? = some (.cells t.cells.toArray (thEl t.ob.kind) (0, 0)) := h _ (.head _)
  have h2 : OwnAt 2 (.slice t.A t.n t.c) (fV t.ob.items) w := h _ (.tail _ (.head _))
  have h3 : OwnAt 1 (.slice t.KA t.kn t.kc) (nums .i64 t.ob.keys) w := h _ (.tail _ (.tail _ (.head _)))
  exact ⟨fun i u hu => by rw [cell_of_row w _ _ _ _ _ h1]; simpa using hu, h2.rd, h3.rd⟩
theorem objI_ok (w0 w : World) (L : List Chunk) (hm : Mem w0 w L) (t : Th) (ht : t.Ok) (hc : ∀ c, c ∈ t.chunks → c.ok w) :
    ICalls Tryz.prog t.val "portage/heap.object" #[] w fun e w' => ∃ v, e = .returned v ∧ ObQ w0 L t.ob v w' := by
  obtain ⟨h0, hx, hk⟩ := Th.reads hc
  have hl := rdV_len hx
  have hkl := RdC.nlen hk
  have hsz := ht.size
  have nk := ht.nokeys
  have nf := ht.fn
  have nc := ht.cap
  have kk := ht.keys
  unfold ObQ
  rw [hl, hkl]
  rcases t.val_of ht.kind with ⟨hkd, hv⟩ | ⟨hkd, hv⟩ | ⟨hkd, hv⟩ | ⟨hkd, hv⟩ <;> rw [hv] <;> rw [hkd] at nk nf nc kk <;> rw [hkd] <;> simp only [Th.cells, hkd] at h0
  · have e1 := nk (by decide)
    have e2 := nf (by decide)
    have e3 := nc (by decide)
    have e4 : t.kn = 0 := by rw [e1] at hkl; exact hkl.symm
    rw [e2, e3.1, e3.2, e4, e1]
    refine ⟨_, _, mobA _ w, (objA_ok w0 w L hm t.g t.A t.n t.c t.ob.items ⟨hx⟩ (by omega) (h0 0 _ rfl)).mono ?_⟩
    rintro e w' ⟨A, c, rfl, hm'⟩
    exact ⟨_, rfl, A, c, none, 0, rfl, (Mem.nil hm' 1 none).swap⟩
  · have e2 := nf (by decide)
    have e3 := nc (by decide)
    have e4 := kk rfl
    rw [e2, e3.1, e3.2]
    refine ⟨_, _, mobR _ w, (objR_ok w0 w L hm t.g t.A t.n t.c t.ob.items ⟨hx⟩ (by omega) t.KA t.kn t.kc t.ob.keys ⟨hk⟩ (by omega) (h0 0 _ rfl) (h0 1 _ rfl)).mono ?_⟩
    rintro e w' ⟨A, c, K, k, rfl, hm'⟩
    exact ⟨_, rfl, A, c, K, k, rfl, hm'⟩
  · have e1 := nk (by decide)
    have e3 := nc (by decide)
    have e4 : t.kn = 0 := by rw [e1] at hkl; exact hkl.symm
    rw [e3.1, e3.2, e4, e1]
    refine ⟨_, _, mobB _ w, (objB_ok w0 w L hm t.g t.ob.fn t.A t.n t.c t.ob.items ⟨hx⟩ (by omega) (h0 0 _ rfl) (h0 1 _ rfl)).mono ?_⟩
    rintro e w' ⟨A, c, rfl, hm'⟩
    exact ⟨_, rfl, A, c, none, 0, rfl, (Mem.nil hm' 1 none).swap⟩
  · have e1 := nk (by decide)
    have e2 := nf (by decide)
    have e4 : t.kn = 0 := by rw [e1] at hkl; exact hkl.symm
    rw [e2, e4, e1]
    refine ⟨_, _, mobC _ w, (objC_ok w0 w L hm t.g t.ob.cap t.ob.shut t.A t.n t.c t.ob.items ⟨hx⟩ (by omega) (h0 0 _ rfl) (h0 1 _ rfl) (h0 2 _ rfl)).mono ?_⟩
    rintro e w' ⟨A, c, rfl, hm'⟩
    exact ⟨_, rfl, A, c, none, 0, rfl, (Mem.nil hm' 1 none).swap⟩
def Hs.is (s : Hs) (i : Int) : Bool := decide (0 ≤ i) && decide (i < s.objs.length)
def Hs.at (s : Hs) (i : Int) : Ob := match s.is i with | true => s.objs.getD i.toNat ob0 | false => ob0
theorem object_ok (w0 w : World) (L : List Chunk) (h : Hp) (hm : Mem w0 w (HpC h :: L)) (hok : Fact h.Ok) (i : Int) :
    Calls Tryz.prog 41 #[.pointer (some ⟨h.g, 0, none⟩), .int .i64 i] w fun e w' => ∃ v, e = .returned (.tuple #[v, .bool (h.abs.is i)]) ∧ ObQ w0 (HpC h :: L) (h.abs.at i) v w' := by
  have hlen : h.abs.objs.length = h.ths.length := h.abs_len
  by_cases q0 : i < 0
  · have q0' : decide (i < 0) = true := decide_eq_true q0
    have his : h.abs.is i = false := by unfold Hs.is; rw [decide_eq_false (by omega), Bool.false_and]
    unfold Hs.at
    rw [his]
    clear his hlen
    go_enter Tryz.func41, Tryz.ntmps41
    go_upto_region 1 with (fail)
    have hm1 := hm.alloc (.cells (obC 0 none 0 0 none 0 0 0 0 false).toArray 41)
    generalize hgb : w.heap.size = gb at hm1 ⊢
    generalize hw1 : w.alloc (.cells (obC 0 none 0 0 none 0 0 0 0 false).toArray 41) = w1 at hm1
    try refine wp_world hw1 ?_
    clear hw1 hgb
    go_wp2_with (refine wp_setrow rfl 41 _ _ rfl gb rfl 41 _ (obC 0 none 0 0 none 0 0 0 0 false) rfl hm1 sz_O rfl (obC_one _ _ _ _ _ _ _ _ _ _) ?_; intro w2 hm2)
    exact bodyPost_ret (Mm.res_cell_tmp rfl _ gb 41 (obC 0 none 0 0 none 0 0 0 0 false) (0, 0) rfl hm2 m0 row_O sz_O) rfl ⟨_, rfl, none, 0, none, 0, rfl, (Mem.nil (Mem.nil hm2.tail 1 none) 2 none)⟩
  have q0' : decide (i < 0) = false := decide_eq_false q0
  by_cases q1 : i < h.ths.length
  · have q1' : decide (i ≥ h.ths.length) = false := decide_eq_false (by omega)
    have his : h.abs.is i = true := by unfold Hs.is; rw [decide_eq_true (by omega), decide_eq_true (by omega)]; rfl
    obtain ⟨k, rfl⟩ := Int.eq_ofNat_of_zero_le (Int.not_lt.1 q0)
    have hk : k < h.ths.length := by omega
    have hat : h.abs.at k = (h.ths.getD k th0).ob := by
      unfold Hs.at
      rw [his]
      simp [Hp.abs, Hp.objs, hk]
    obtain ⟨t, ht⟩ : ∃ t, h.ths.getD k th0 = t := ⟨_, rfl⟩
    rw [his, hat, ht]
    clear his hat hlen
    replace ht := Fact.mk ht
    have hm0 := hm.alloc (.cells (obC 0 none 0 0 none 0 0 0 0 false).toArray 41)
    go_enter Tryz.func41, Tryz.ntmps41
    go_upto_region 1 with (fail)
    generalize hgb : w.heap.size = gb at hm0 ⊢
    generalize hw1 : w.alloc (.cells (obC 0 none 0 0 none 0 0 0 0 false).toArray 41) = w1 at hm0
    try refine wp_world hw1 ?_
    clear hw1 hgb hm
    obtain ⟨_, _, c2, _, _, hat⟩ := Hp.read hm0 m1
    obtain ⟨b, o, hA, r1, hcs⟩ := hat k hk
    have htk : (h.ths.getD k th0).Ok := by
      have := hok.out.each _ (List.getElem_mem hk)
      simpa [hk] using this
    clear hat
    rw [ht.out] at r1 hcs htk
    rw [hA] at c2
    have hI := Fact.mk (objI_ok w0 w1 _ hm0 t htk hcs)
    have htk := Fact.mk htk
    clear hcs
    have hv : ∃ T p, t.val = .iface T (.pointer (some ⟨p, 0, none⟩)) := ⟨_, _, rfl⟩
    obtain ⟨T, p, hv⟩ := hv
    rw [hv] at r1 hI
    clear hv
    go_wp2_with (first | (refine wp_inv rfl _ _ _ _ (by rfl) (.iface T (.pointer (some ⟨p, 0, none⟩))) (by rfl) [] (by rfl) (hI.out.mono ?_); rintro e w2 ⟨v, rfl, A2, d2, K2, k2, rfl, hm2⟩; refine ⟨_, rfl, ?_⟩) | (refine wp_setrow rfl 41 _ _ rfl gb rfl 41 _ (obC t.ob.kind A2 t.ob.items.length d2 K2 t.ob.keys.length k2 t.ob.fn t.ob.cap t.ob.shut) rfl (hm2.perm (((List.Perm.swap _ _ _).cons _).trans (List.Perm.swap _ _ _))) sz_O rfl (obC_one _ _ _ _ _ _ _ _ _ _) ?_; intro w3 hm3))
    exact bodyPost_ret (Mm.res_cell_tmp rfl _ gb 41 (obC t.ob.kind A2 t.ob.items.length d2 K2 t.ob.keys.length k2 t.ob.fn t.ob.cap t.ob.shut) (0, 0) rfl hm3 m0 row_O sz_O) rfl ⟨_, rfl, A2, d2, K2, k2, rfl, hm3.tail⟩
  · have q1' : decide (i ≥ h.ths.length) = true := decide_eq_true (by omega)
    have his : h.abs.is i = false := by unfold Hs.is; rw [hlen, decide_eq_false (show ¬ i < (h.ths.length : Int) by omega), Bool.and_false]
    unfold Hs.at
    rw [his]
    clear his hlen
    go_enter Tryz.func41, Tryz.ntmps41
    go_upto_region 1 with (fail)
    have hm1 := hm.alloc (.cells (obC 0 none 0 0 none 0 0 0 0 false).toArray 41)
    obtain ⟨_, _, c2, _, _, _⟩ := Hp.read hm1 m1
    generalize hgb : w.heap.size = gb at hm1 ⊢
    generalize hw1 : w.alloc (.cells (obC 0 none 0 0 none 0 0 0 0 false).toArray 41) = w1 at hm1 c2
    try refine wp_world hw1 ?_
    clear hw1 hgb
    go_wp2_with (refine wp_setrow rfl 41 _ _ rfl gb rfl 41 _ (obC 0 none 0 0 none 0 0 0 0 false) rfl hm1 sz_O rfl (obC_one _ _ _ _ _ _ _ _ _ _) ?_; intro w2 hm2)
    exact bodyPost_ret (Mm.res_cell_tmp rfl _ gb 41 (obC 0 none 0 0 none 0 0 0 0 false) (0, 0) rfl hm2 m0 row_O sz_O) rfl ⟨_, rfl, none, 0, none, 0, rfl, (Mem.nil (Mem.nil hm2.tail 1 none) 2 none)⟩
end Go.Proofs.YtpibchjkmaghnaaGreat
namespace Go.Mm
open Go.RowKit Go.Deep Go.WideShapes Go.ChangeShapes
section
variable {H : Type} {enc : TypeId × Value → H} {P : Program} {w : World}
/-- A slice at any depth, as a list: f: an element's cells; Good: what is known of an element and its datum. -/
theorem open_cells {α : Type} (f : α → List Value) (Good : DataW H → α → Prop) {t e : TypeId} (size : Nat) (hs0 : 0 < size) (ht : P.underlying t = some (.slice e)) (hc : P.cellsOf e = size) (hf : ∀ x, (f x).length = size ∧ One (f x))
    (hel : ∀ fuel cs d ps, DataW.trod enc P w 0 (fun _ => true) true fuel e cs = some (d, ps) → ∃ x, cs = f x ∧ Good d x) {fuel : Nat} {cs : List Value} {d : DataW H} {ps : List MemPlace}
    (hfu : DataW.trod enc P w 0 (fun _ => true) true fuel t cs = some (d, ps)) :
    ∃ (A : Option Addr) (n c : Nat) (xs : List α), cs = [.slice A n c] ∧ RdC w size (.slice A n c) (xs.flatMap f) ∧ xs.length = n ∧
      ((d = .nil ∧ xs = [] ∧ n = 0) ∨ ∃ (ds sp : List (DataW H)), d = .slice ds sp ∧ ds.length = n ∧ sp.length = c - n ∧ n ≤ c ∧ ∀ (i : Nat) (x : α), xs[i]? = some x → ∃ y, ds[i]? = some y ∧ Good y x) := by
  rcases open_slice ht hfu with ⟨hcs, hx⟩ | ⟨a, len, cap, m, k, D, Pl, hcs, _, hl, hm, hmm, hx, hi⟩
  · cases hx
    exact ⟨none, 0, 0, [], hcs, RdC.nil w size, rfl, .inl ⟨rfl, rfl, rfl⟩⟩
  · rw [if_pos rfl] at hmm
    subst hmm
    rw [hc] at hi
    obtain ⟨xs, hxl, hxs⟩ := choose_list (p := fun i x => w.cells? 0 (a.add (i * size)) size = some (f x) ∧ Good (D i) x) len (fun i hin => by
      obtain ⟨cs', h1, h2⟩ := hi i (by omega)
      obtain ⟨x, rfl, hg⟩ := hel _ _ _ _ h2
      exact ⟨x, h1, hg⟩)
    cases hx
    refine ⟨some a, len, m, xs, hcs, ⟨_, _, _, rfl, by rw [flatMap_length f size (fun x => (hf x).1), hxl], hl, hm, ?_, ?_⟩, hxl, .inr ⟨_, _, rfl, by simp, by simp, hl, ?_⟩⟩
    · intro u hu
      obtain ⟨x, _, hx⟩ := List.mem_flatMap.1 hu
      exact (hf x).2 u hx
    · intro j u hj
      refine ⟨a, rfl, ?_⟩
      have hj2 : (xs.flatMap f)[(j / size) * size + j % size]? = some u := by rw [Nat.mul_comm, Nat.div_add_mod]; exact hj
      rw [flatMap_at f size (fun x => (hf x).1) xs _ _ (Nat.mod_lt _ hs0)] at hj2
      cases hxi : xs[j / size]? with
      | none => rw [hxi] at hj2; simp at hj2
      | some x =>
        rw [hxi] at hj2
        have := (cells?_at (hxs _ _ hxi).1).2 _ _ (by simpa using hj2)
        rw [add_add, Nat.mul_comm, Nat.div_add_mod] at this
        exact this
    · intro i x hix
      have hin : i < len := by have := (List.getElem?_eq_some_iff.1 hix).1; omega
      exact ⟨D i, by simp [hin], (hxs i x hix).2⟩
/-- A struct's fields: types and offsets. -/
def fieldsOf (P : Program) (t : TypeId) : Option (List (TypeId × Nat)) :=
  match P.underlying t with
  | some (.struct fs) => some (fs.toList.map fun f => (f.type, f.offset))
  | _ => none
theorem open_struct {t : TypeId} {fl : List (TypeId × Nat)} (ht : fieldsOf P t = some fl) {fuel : Nat} {cs : List Value} {d : DataW H} {ps : List MemPlace}
    (h : DataW.trod enc P w 0 (fun _ => true) true fuel t cs = some (d, ps)) :
    ∃ (xs : List (DataW H × List MemPlace)) (n : Nat), d = .agg (xs.map (·.1)) ∧ cs.length = P.cellsOf t ∧ xs.length = fl.length ∧
      ∀ (i : Nat) (ty : TypeId) (off : Nat), fl[i]? = some (ty, off) → DataW.trod enc P w 0 (fun _ => true) true n ty ((cs.drop off).take (P.cellsOf ty)) = xs[i]? := by
  unfold fieldsOf at ht
  split at ht
  · rename_i fs hfs
    cases ht
    obtain ⟨xs, n, _, hx, hl, hxl, hi⟩ := DataW.trod_struct hfs h
    cases hx
    refine ⟨xs, n, rfl, hl, by simpa using hxl, fun i ty off hf => ?_⟩
    simp only [List.getElem?_map, Option.map_eq_some_iff] at hf
    obtain ⟨f, hf, he⟩ := hf
    cases he
    exact hi i f (by simpa using hf)
  · cases ht
theorem list4 {α : Type} {l : List α} (h : l.length = 4) : ∃ a b c d, l = [a, b, c, d] := by
  match l, h with | [a, b, c, d], _ => exact ⟨a, b, c, d, rfl⟩
theorem list5 {α : Type} {l : List α} (h : l.length = 5) : ∃ a b c d e, l = [a, b, c, d, e] := by
  match l, h with | [a, b, c, d, e], _ => exact ⟨a, b, c, d, e, rfl⟩
/-- A whole number. -/
theorem open_i {t : TypeId} {k : IntKind} (ht : P.underlying t = some (.int k)) {fuel : Nat} {v : Value} {d : DataW H} {ps : List MemPlace} (h : DataW.trod enc P w 0 (fun _ => true) true fuel t [v] = some (d, ps)) :
    ∃ n, v = .int k n ∧ d = .lit (.int k n) ∧ (Lit.int k n).wf = true := by
  obtain ⟨n, e, hx, hw⟩ := DataW.trod_int ht h
  cases e; cases hx
  exact ⟨n, rfl, rfl, hw⟩
end
end Go.Mm
namespace Go.Proofs.YtpibchjkmaghnaaGreat
open Go.RowKit Go.Mm Go.WideShapes Go.ChangeShapes
set_option maxHeartbeats 1000000
set_option maxRecDepth 100000
/-- A number from 0 to n - 1 out of any. -/
theorem pick_ok (w : World) (k N : Int) (n : Nat) (hN : N = n) (hn : n ≤ 1048577) (h0 : 0 < n) :
    Calls Tryz.prog 10 #[.int .i64 k, .int .i64 N] w fun e w' => ∃ j : Nat, e = .returned (.int .i64 j) ∧ w' = w ∧ j < n := by
  subst hN
  go_enter Tryz.func10, Tryz.ntmps10
  have h1 : ((n : Int) < 1) = False := by simp; omega
  have hb : -(n : Int) < k.tmod n ∧ k.tmod n < n := by
    have hn0 : (0 : Int) < n := by omega
    exact ⟨Int.lt_tmod_of_pos k hn0, Int.tmod_lt_of_pos k hn0⟩
  by_cases hs : k.tmod n < 0
  · have hw : wrap64 (k.tmod n + n) = k.tmod n + n := IntWalk.wrap64_in _ (by omega)
    have hw2 : IntKind.i64.wrap (k.tmod n + n) = k.tmod n + n := IntWalk.i64_in _ (by omega)
    go_wp2
    go_ret
    exact ⟨(k.tmod n + n).toNat, by rw [Int.toNat_of_nonneg (by omega)]; rfl, rfl, by omega⟩
  · go_wp2
    go_ret
    exact ⟨(k.tmod n).toNat, by rw [Int.toNat_of_nonneg (by omega)]; rfl, rfl, by omega⟩
/-- A call on a heap. -/
structure HOp where
  on : Int
  kd : Int
  v : V2
  x : V2
  I : Int
  M : Int
  A : Option Addr
  n : Nat
  c : Nat
  items : List V2
def cHO (o : HOp) : List Value := [.int .i64 o.on, .int .i64 o.kd, .int .i64 o.v.1, .int .i64 o.v.2, .int .i64 o.x.1, .int .i64 o.x.2, .int .i64 o.I, .int .i64 o.M, .slice o.A o.n o.c]
theorem cHO_len (x : HOp) : (cHO x).length = 9 := rfl
theorem cHO_one (x : HOp) : One (cHO x) := fun u hu => by simp [cHO] at hu; rcases hu with rfl | rfl | rfl | rfl | rfl | rfl | rfl | rfl | rfl <;> rfl
def hop0 : HOp := ⟨0, 0, (0, 0), (0, 0), 0, 0, none, 0, 0, []⟩
section
variable {H : Type} {enc : TypeId × Value → H} {w : World}
theorem fl_V : fieldsOf Tryz.prog 35 = some [(3, 0), (2, 1)] := by kernel_rfl
theorem fl_HO : fieldsOf Tryz.prog 38 = some [(3, 0), (3, 1), (35, 2), (35, 4), (2, 6), (3, 7), (36, 8)] := by kernel_rfl
theorem co_int : Tryz.prog.cellsOf 3 = 1 := by kernel_rfl
theorem co_i64 : Tryz.prog.cellsOf 2 = 1 := by kernel_rfl
theorem co_V : Tryz.prog.cellsOf 35 = 2 := by kernel_rfl
theorem co_Vs : Tryz.prog.cellsOf 36 = 1 := by kernel_rfl
theorem co_HO : Tryz.prog.cellsOf 38 = 9 := by kernel_rfl
theorem ty_i64 : Tryz.prog.underlying 2 = some (.int .i64) := by kernel_rfl
theorem ty_HOs : Tryz.prog.underlying 25 = some (.slice 38) := by kernel_rfl
theorem hel_V (fuel : Nat) (cs : List Value) (d : DataW H) (ps : List MemPlace) (h : DataW.trod enc Tryz.prog w 0 (fun _ => true) true fuel 35 cs = some (d, ps)) : ∃ x, cs = cV x ∧ True := by
  obtain ⟨xs, n, rfl, hl, hx, hi⟩ := open_struct fl_V h
  rw [co_V] at hl
  obtain ⟨a, b, rfl⟩ := list2 hl
  obtain ⟨⟨d1, p1⟩, ⟨d2, p2⟩, rfl⟩ := list2 hx
  have h1 := hi 0 _ _ rfl
  have h2 := hi 1 _ _ rfl
  rw [co_int] at h1
  rw [co_i64] at h2
  obtain ⟨x, rfl, _⟩ := open_i ty_int h1
  obtain ⟨y, rfl, _⟩ := open_i ty_i64 h2
  exact ⟨(x, y), rfl, trivial⟩
theorem bulk_part {d : DataW H} {xs : List (DataW H)} (h : d ∈ xs) : Rows.uptoBulk d + 1 ≤ Rows.uptoBulk (.agg xs) := by
  have := bulk_mem xs d h
  simp only [Rows.uptoBulk]; omega
theorem cells_len {d : DataW H} {n c : Nat} {α : Type} {xs : List α} {Good : DataW H → α → Prop} (h : (d = .nil ∧ xs = [] ∧ n = 0) ∨ ∃ (ds sp : List (DataW H)), d = .slice ds sp ∧ ds.length = n ∧ sp.length = c - n ∧ n ≤ c ∧ ∀ (i : Nat) (x : α), xs[i]? = some x → ∃ y, ds[i]? = some y ∧ Good y x) : n + 1 ≤ Rows.uptoBulk d := by
  refine bulk_slice (c := c) (xs := xs) ?_
  rcases h with h | ⟨ds, sp, h1, h2, h3, h4, _⟩
  · exact .inl h
  · exact .inr ⟨ds, sp, h1, h2, h3, h4⟩
theorem cells_each {d : DataW H} {n c : Nat} {α : Type} {xs : List α} {Good : DataW H → α → Prop} (h : (d = .nil ∧ xs = [] ∧ n = 0) ∨ ∃ (ds sp : List (DataW H)), d = .slice ds sp ∧ ds.length = n ∧ sp.length = c - n ∧ n ≤ c ∧ ∀ (i : Nat) (x : α), xs[i]? = some x → ∃ y, ds[i]? = some y ∧ Good y x) {x : α} (hx : x ∈ xs) : ∃ y, Good y x ∧ Rows.uptoBulk y + 1 ≤ Rows.uptoBulk d := by
  rcases h with ⟨_, rfl, _⟩ | ⟨ds, sp, rfl, h2, h3, h4, h5⟩
  · cases hx
  · obtain ⟨i, hi⟩ := List.mem_iff_getElem?.1 hx
    obtain ⟨y, h6, h7⟩ := h5 i x hi
    have := bulk_at h6
    exact ⟨y, h7, by simp only [Rows.uptoBulk]; omega⟩
theorem list7 {α : Type} {l : List α} (h : l.length = 7) : ∃ a b c d e f g, l = [a, b, c, d, e, f, g] := by
  match l with
  | [a, b, c, d, e, f, g] => exact ⟨a, b, c, d, e, f, g, rfl⟩
theorem list9 {α : Type} {l : List α} (h : l.length = 9) : ∃ a b c d e f g x y, l = [a, b, c, d, e, f, g, x, y] := by
  match l with
  | [a, b, c, d, e, f, g, x, y] => exact ⟨a, b, c, d, e, f, g, x, y, rfl⟩
theorem hel_HO (fuel : Nat) (cs : List Value) (d : DataW H) (ps : List MemPlace) (h : DataW.trod enc Tryz.prog w 0 (fun _ => true) true fuel 38 cs = some (d, ps)) : ∃ x, cs = cHO x ∧ (RdC w 2 (.slice x.A x.n x.c) (fV x.items) ∧ x.n + 2 ≤ Rows.uptoBulk d) := by
  obtain ⟨xs, n, rfl, hl, hx, hi⟩ := open_struct fl_HO h
  rw [co_HO] at hl
  obtain ⟨a, b, c, e, f, g, x, y, z, rfl⟩ := list9 hl
  obtain ⟨⟨d1, p1⟩, ⟨d2, p2⟩, ⟨d3, p3⟩, ⟨d4, p4⟩, ⟨d5, p5⟩, ⟨d6, p6⟩, ⟨d7, p7⟩, rfl⟩ := list7 hx
  have h1 := hi 0 _ _ rfl
  have h2 := hi 1 _ _ rfl
  have h3 := hi 2 _ _ rfl
  have h4 := hi 3 _ _ rfl
  have h5 := hi 4 _ _ rfl
  have h6 := hi 5 _ _ rfl
  have h7 := hi 6 _ _ rfl
  rw [co_int] at h1 h2 h6
  rw [co_V] at h3 h4
  rw [co_i64] at h5
  rw [co_Vs] at h7
  obtain ⟨x1, rfl, _⟩ := open_i ty_int h1
  obtain ⟨x2, rfl, _⟩ := open_i ty_int h2
  obtain ⟨x3, e3, _⟩ := hel_V _ _ _ _ h3
  obtain ⟨x4, e4, _⟩ := hel_V _ _ _ _ h4
  obtain ⟨x5, rfl, _⟩ := open_i ty_i64 h5
  obtain ⟨x6, rfl, _⟩ := open_i ty_int h6
  obtain ⟨A, m, k, zs, e7, r7, l7, g7⟩ := open_cells (cV) (fun _ _ => True) 2 (by omega) ty_Vs co_V (fun x => ⟨cV_len x, cV_one x⟩) hel_V h7
  replace e3 : [c, e] = cV x3 := e3
  replace e4 : [f, g] = cV x4 := e4
  replace e7 : [z] = [.slice A m k] := e7
  simp only [cV, List.cons.injEq, and_true] at e3 e4 e7
  obtain ⟨rfl, rfl⟩ := e3
  obtain ⟨rfl, rfl⟩ := e4
  subst e7
  have b7 := cells_len g7
  have q7 := bulk_part (d := d7) (xs := [d1, d2, d3, d4, d5, d6, d7]) (by simp)
  exact ⟨⟨x1, x2, x3, x4, x5, x6, A, m, k, zs⟩, rfl, r7, by show m + 2 ≤ _; simp at q7 ⊢; omega⟩
/-- A script that came in. -/
theorem open_hops {v : Value} {d : DataW H} {p : List MemPlace} {base : Nat} (h : DataW.Trod enc Tryz.prog w 0 (fun _ => true) true 25 v d p) (ok : Value.okWide Tryz.prog w .any base 25 v) :
    ∃ (A : Option Addr) (n c : Nat) (ops : List HOp), v = .slice A n c ∧ RdC w 9 (.slice A n c) (ops.flatMap cHO) ∧ (∀ x, x ∈ ops → RdC w 2 (.slice x.A x.n x.c) (fV x.items) ∧ x.n + 3 ≤ Rows.uptoBulk d) ∧ n + 1 ≤ Rows.uptoBulk d := by
  obtain ⟨A, n, c, xs, rfl, hr, hl, hd⟩ := open_list cHO (fun d x => RdC w 2 (.slice x.A x.n x.c) (fV x.items) ∧ x.n + 2 ≤ Rows.uptoBulk d) 9 (by omega) ty_HOs co_HO (fun x => ⟨cHO_len x, cHO_one x⟩) hel_HO h ok
  refine ⟨A, n, c, xs, rfl, hr, fun f hf => ?_, cells_len hd⟩
  obtain ⟨y, hy, hb'⟩ := cells_each hd hf
  exact ⟨hy.1, by have := hy.2; omega⟩
/-- Call number k of a script. -/
theorem rdHO_at {A : Option Addr} {n c : Nat} {ops : List HOp} (h : RdC w 9 (.slice A n c) (ops.flatMap cHO)) (k : Nat) (hk : k < n) :
    ∃ b o, A = some ⟨b, o, none⟩ ∧ (∀ (j : Nat) (u : Value), (cHO (ops.getD k hop0))[j]? = some u → w.cell? ⟨b, o + k * 9 + j, none⟩ = some u) ∧ k < ops.length := by
  obtain ⟨b, o, e, hc, _, h2⟩ := rd_at cHO_len (by omega) hop0 h k hk
  exact ⟨b, o, e, hc, h2⟩
end
end Go.Proofs.YtpibchjkmaghnaaGreat
namespace Go.Mm
open Go.RowKit
/-- A row of cells stored over a part of a known block, the first chunk. -/
theorem wp_setat {P : Program} {ops : Array Oper} {rest : List Oper} {o : Oper} {a : Act} {Q : Exit → Act → World → Prop} {w0 w : World} {L : List Chunk} (hw : Region.wanted o (yielded ops a.tmps) = true) (ty : TypeId) (p x : Operand) (ho : o.op = .store ty p x) (g off : Nat) (hp : a.eval p = .pointer (some ⟨g, off, none⟩)) (t : TypeId) (cs us cs' : List Value) (v : Value) (hx : a.eval x = v) (hv : v.cells = us.toArray)
    (hm : Mem w0 w (Blk g (.cells cs.toArray t) :: L)) (hi : (P.info? ty).map (·.size) = some us.length) (hl : off + us.length ≤ cs.length) (h1 : One us) (he : cs.take off ++ us ++ cs.drop (off + us.length) = cs')
    (h : ∀ w', Mem w0 w' (Blk g (.cells cs'.toArray t) :: L) → wpList P ops Q rest (a.put o.dst undef) w') : wpList P ops Q (o :: rest) a w :=
  wpList_want hw fun K hK => by
    subst he
    obtain ⟨inf, hi1, hi2⟩ : ∃ inf, P.info? ty = some inf ∧ inf.size = us.length := by
      cases h : P.info? ty with
      | none => rw [h] at hi; simp at hi
      | some inf => rw [h] at hi; exact ⟨inf, rfl, by simpa using hi⟩
    have hg := hm.blk m0
    have hst := run_storeCells_at P g off t us 0 cs.toArray w hg (by simpa using hl) h1
    simp only [Nat.add_zero] at hst
    unfold Oper.wp execOp
    simp only [ho, hp, hx]
    simp [Instr.storeAt, Instr.sureAddr, storeVar, sizeOf, typeInfo, hi1, hi2, hv, hst]
    refine hK _ _ (h _ (hm.upd ⟨rfl, rfl, rfl, by simp, fun k _ hk => setRow_other w g k _ (fun e => hk e)⟩ ?_ (fun k hk => .inl hk)))
    show (w.setRow g _).heap[g]? = _
    simpa using setRow_heap w g cs.toArray (cs.take off ++ us ++ cs.drop (off + us.length)).toArray t _ hg
theorem step_setat {P : Program} {ops : Array Oper} {o : Oper} {a : Act} {Q : Exit → Act → World → Prop} {K : Act → World → Prop} {E : Prop} {w0 w : World} {L : List Chunk} (hw : Region.wanted o (yielded ops a.tmps) = true) (ty : TypeId) (p x : Operand) (ho : o.op = .store ty p x) (g off : Nat) (hp : a.eval p = .pointer (some ⟨g, off, none⟩)) (t : TypeId) (cs us cs' : List Value) (v : Value) (hx : a.eval x = v) (hv : v.cells = us.toArray)
    (hm : Mem w0 w (Blk g (.cells cs.toArray t) :: L)) (hi : (P.info? ty).map (·.size) = some us.length) (hl : off + us.length ≤ cs.length) (h1 : One us) (he : cs.take off ++ us ++ cs.drop (off + us.length) = cs')
    (h : ∀ w', Mem w0 w' (Blk g (.cells cs'.toArray t) :: L) → K (a.put o.dst undef) w') : if Region.wanted o (yielded ops a.tmps) = true then o.wp P a w K Q else E := by
  rw [if_pos hw]
  subst he
  obtain ⟨inf, hi1, hi2⟩ : ∃ inf, P.info? ty = some inf ∧ inf.size = us.length := by
    cases h : P.info? ty with
    | none => rw [h] at hi; simp at hi
    | some inf => rw [h] at hi; exact ⟨inf, rfl, by simpa using hi⟩
  have hg := hm.blk m0
  have hst := run_storeCells_at P g off t us 0 cs.toArray w hg (by simpa using hl) h1
  simp only [Nat.add_zero] at hst
  unfold Oper.wp execOp
  simp only [ho, hp, hx]
  simp [Instr.storeAt, Instr.sureAddr, storeVar, sizeOf, typeInfo, hi1, hi2, hv, hst]
  refine h _ (hm.upd ⟨rfl, rfl, rfl, by simp, fun k _ hk => setRow_other w g k _ (fun e => hk e)⟩ ?_ (fun k hk => .inl hk))
  show (w.setRow g _).heap[g]? = _
  simpa using setRow_heap w g cs.toArray (cs.take off ++ us ++ cs.drop (off + us.length)).toArray t _ hg
theorem one_one {v : Value} (h : v.oneCell' = true) : One [v] := fun u hu => by simp at hu; subst hu; exact h
end Go.Mm
namespace Go.Proofs.YtpibchjkmaghnaaGreat
open Go.RowKit Go.Mm
set_option maxHeartbeats 4000000
set_option maxRecDepth 100000
structure Sd where
  v : V2
  n : Int
  trap : Int
  ok : Bool
  ob : Ob
  list : List Int
def sd0 : Sd := ⟨(0, 0), 0, 0, false, ob0, []⟩
/-- An answer's cells. -/
def sC (v1 v2 n trap : Int) (ok : Bool) (k : Int) (A : Option Addr) (m c : Nat) (KA : Option Addr) (kn kc : Nat) (fn cap : Int) (sh : Bool) (LA : Option Addr) (ln lc : Nat) : List Value :=
  [.int .i64 v1, .int .i64 v2, .int .i64 n, .int .i64 trap, .bool ok, .int .i64 k, .slice A m c, .slice KA kn kc, .int .i64 fn, .int .i64 cap, .bool sh, .slice LA ln lc]
theorem sC_one (v1 v2 n trap : Int) (ok : Bool) (k : Int) (A : Option Addr) (m c : Nat) (KA : Option Addr) (kn kc : Nat) (fn cap : Int) (sh : Bool) (LA : Option Addr) (ln lc : Nat) : One (sC v1 v2 n trap ok k A m c KA kn kc fn cap sh LA ln lc) := fun u hu => by
  simp [sC] at hu
  rcases hu with rfl | rfl | rfl | rfl | rfl | rfl | rfl | rfl | rfl | rfl | rfl | rfl <;> rfl
theorem sz_S : (Tryz.prog.info? 43).map (·.size) = some 12 := by kernel_rfl
theorem row_S : (Tryz.prog.underlying 43).map (·.isRow) = some true := by kernel_rfl
theorem sz_HO : (Tryz.prog.info? 38).map (·.size) = some 9 := by kernel_rfl
theorem row_HO : (Tryz.prog.underlying 38).map (·.isRow) = some true := by kernel_rfl
theorem sz_int : (Tryz.prog.info? 3).map (·.size) = some 1 := by kernel_rfl
theorem sz_i64 : (Tryz.prog.info? 2).map (·.size) = some 1 := by kernel_rfl
theorem sz_bool : (Tryz.prog.info? 4).map (·.size) = some 1 := by kernel_rfl
theorem sz_ints : (Tryz.prog.info? 31).map (·.size) = some 1 := by kernel_rfl
def sdC (s : Sd) (A : Option Addr) (c : Nat) (K : Option Addr) (k : Nat) (LA : Option Addr) (lc : Nat) : List Value := sC s.v.1 s.v.2 s.n s.trap s.ok s.ob.kind A s.ob.items.length c K s.ob.keys.length k s.ob.fn s.ob.cap s.ob.shut LA s.list.length lc
def SdQ (w0 : World) (L : List Chunk) (s : Sd) (v : Value) (w : World) : Prop := ∃ A c K k LA lc, v = .agg (sdC s A c K k LA lc).toArray ∧ Mem w0 w (Own 2 (.slice A s.ob.items.length c) (fV s.ob.items) :: Own 1 (.slice K s.ob.keys.length k) (nums .i64 s.ob.keys) :: Own 1 (.slice LA s.list.length lc) (nums .i64 s.list) :: L)
/-- An answer without an object and without a list. -/
def sdV (v : V2) (n trap : Int) (ok : Bool) : Sd := ⟨v, n, trap, ok, ob0, []⟩
theorem SdQ.plain {w0 w : World} {L : List Chunk} (v1 v2 n trap : Int) (ok : Bool) (hm : Mem w0 w L) : SdQ w0 L (sdV (v1, v2) n trap ok) (.agg (sC v1 v2 n trap ok 0 none 0 0 none 0 0 0 0 false none 0 0).toArray) w :=
  ⟨none, 0, none, 0, none, 0, rfl, Mem.nil (Mem.nil (Mem.nil hm 1 none) 1 none) 2 none⟩
/-- What a call on a heap leaves: its answer and the heap. -/
def AskQ (w0 : World) (L : List Chunk) (g : Nat) (s : Hs) (r : Sd) (v : Value) (w : World) : Prop := ∃ h : Hp, h.g = g ∧ h.abs = s ∧ h.Ok ∧ SdQ w0 (HpC h :: L) r v w
/-- What a call that makes an object answers. -/
def Hs.makeV (s : Hs) (may : Bool) (n k : Int) : Sd := match may && s.room n with | true => sdV (k, s.objs.length) 0 0 true | false => sdV (0, 0) 0 0 false
theorem makeR_parts (s : Hs) (may : Bool) (n k : Int) : ∃ a b c, s.makeR may n k = .tuple #[.agg #[.int .i64 a, .int .i64 b], .bool c] ∧ s.makeV may n k = sdV (a, b) 0 0 c := by
  unfold Hs.makeR Hs.makeV
  cases may && s.room n
  · exact ⟨_, _, _, rfl, rfl⟩
  · exact ⟨_, _, _, rfl, rfl⟩
end Go.Proofs.YtpibchjkmaghnaaGreat
namespace Go.Proofs.YtpibchjkmaghnaaGreat
open Go.RowKit Go.Mm
set_option maxHeartbeats 4000000
set_option maxRecDepth 100000
set_option linter.unusedSimpArgs false
theorem askP_spend (w0 w : World) (L : List Chunk) (h : Hp) (hm : Mem w0 w (HpC h :: L)) (hok : Fact h.Ok) (o : HOp) :
    Calls Tryz.prog 38 #[.pointer (some ⟨h.g, 0, none⟩), .int .i64 0, .agg (cHO o).toArray] w fun e w' => ∃ v, e = .returned v ∧ AskQ w0 L h.g (h.abs.spend o.M) (sdV (0, 0) 0 0 (h.abs.room o.M)) v w' := by
  go_enter Tryz.func38, Tryz.ntmps38
  go_upto_region 2 with (fail)
  have hm1 := ((hm.alloc (.cells (cHO o).toArray 38)).alloc (.cells (sC 0 0 0 0 false 0 none 0 0 none 0 0 0 0 false none 0 0).toArray 43)).alloc (.cells (sC 0 0 0 0 false 0 none 0 0 none 0 0 0 0 false none 0 0).toArray 43)
  simp only [World.size_alloc] at hm1
  generalize hgb : w.heap.size = g at hm1 ⊢
  generalize hw1 : ((w.alloc (.cells (cHO o).toArray 38)).alloc (.cells (sC 0 0 0 0 false 0 none 0 0 none 0 0 0 0 false none 0 0).toArray 43)).alloc (.cells (sC 0 0 0 0 false 0 none 0 0 none 0 0 0 0 false none 0 0).toArray 43) = w1 at hm1
  try refine wp_world hw1 ?_
  clear hw1 hgb
  replace hm1 := hm1.pull3
  have x7 := hm1.cell m3 7 rfl
  go_wp2_with fail
  refine (heapSpend_ok w0 w1 (Blk (g + 1 + 1) (.cells (sC 0 0 0 0 false 0 none 0 0 none 0 0 0 0 false none 0 0).toArray 43) :: Blk (g + 1) (.cells (sC 0 0 0 0 false 0 none 0 0 none 0 0 0 0 false none 0 0).toArray 43) :: Blk g (.cells (cHO o).toArray 38) :: L) h hm1 hok o.M).mono ?_
  rintro e w2 ⟨rfl, hm2⟩
  go_wp2_with (first | (refine wp_setat rfl 4 _ _ rfl (g + 1 + 1) 4 rfl 43 _ [.bool (h.room o.M)] (sC 0 0 0 0 (h.room o.M) 0 none 0 0 none 0 0 0 0 false none 0 0) (.bool (h.room o.M)) rfl rfl hm2.swap sz_bool (by simp [sC, obC]) (one_one rfl) rfl ?_; intro w3 hs3) | (refine wp_rng rfl 43 _ rfl (g + 1 + 1) 0 rfl (sC 0 0 0 0 (h.room o.M) 0 none 0 0 none 0 0 0 0 false none 0 0) (rng_blk hs3 m0) row_S sz_S ?_) | (refine wp_setrow rfl 43 _ _ rfl (g + 1) rfl 43 _ (sC 0 0 0 0 (h.room o.M) 0 none 0 0 none 0 0 0 0 false none 0 0) rfl hs3.pull2 sz_S rfl (sC_one _ _ _ _ _ _ _ _ _ _ _ _ _ _ _ _ _ _) ?_; intro w4 hs4))
  have hz := hs4.tail.tail.drop2
  refine bodyPost_ret (Mm.res_cell rfl _ (g + 1) 43 (sC 0 0 0 0 (h.room o.M) 0 none 0 0 none 0 0 0 0 false none 0 0) (0, 0) rfl hs4 m0 row_S sz_S) rfl ?_
  exact ⟨_, rfl, h.spend o.M, h.spend_g _, h.spend_abs _, Hp.spend_ok hok.out _, SdQ.plain 0 0 0 0 (h.room o.M) hz⟩
theorem askP_counts (w0 w : World) (L : List Chunk) (h : Hp) (hm : Mem w0 w (HpC h :: L)) (hok : Fact h.Ok) (o : HOp) :
    Calls Tryz.prog 38 #[.pointer (some ⟨h.g, 0, none⟩), .int .i64 1, .agg (cHO o).toArray] w fun e w' => ∃ v, e = .returned v ∧ AskQ w0 L h.g (h.abs) (sdV (0, 0) h.abs.objs.length h.abs.spent false) v w' := by
  go_enter Tryz.func38, Tryz.ntmps38
  go_upto_region 2 with (fail)
  have hm1 := ((hm.alloc (.cells (cHO o).toArray 38)).alloc (.cells (sC 0 0 0 0 false 0 none 0 0 none 0 0 0 0 false none 0 0).toArray 43)).alloc (.cells (sC 0 0 0 0 false 0 none 0 0 none 0 0 0 0 false none 0 0).toArray 43)
  simp only [World.size_alloc] at hm1
  generalize hgb : w.heap.size = g at hm1 ⊢
  generalize hw1 : ((w.alloc (.cells (cHO o).toArray 38)).alloc (.cells (sC 0 0 0 0 false 0 none 0 0 none 0 0 0 0 false none 0 0).toArray 43)).alloc (.cells (sC 0 0 0 0 false 0 none 0 0 none 0 0 0 0 false none 0 0).toArray 43) = w1 at hm1
  try refine wp_world hw1 ?_
  clear hw1 hgb
  replace hm1 := hm1.pull3
  go_wp2_with fail
  refine (heapLen_ok w0 w1 _ h hm1 m0).mono ?_
  rintro e w2 ⟨rfl, rfl⟩
  go_wp2_with (first | (refine wp_setat rfl 2 _ _ rfl (g + 1 + 1) 2 rfl 43 _ [.int .i64 h.ths.length] (sC 0 0 h.ths.length 0 false 0 none 0 0 none 0 0 0 0 false none 0 0) (.int .i64 h.ths.length) rfl rfl hm1.swap sz_i64 (by simp [sC, obC]) (one_one rfl) rfl ?_; intro w3 hs3))
  have hz4 := hs3.swap
  refine (heapSpent_ok w0 w3 _ h hz4 m0).mono ?_
  rintro e w4 ⟨rfl, rfl⟩
  go_wp2_with (first | (refine wp_setat rfl 3 _ _ rfl (g + 1 + 1) 3 rfl 43 _ [.int .i64 h.spent] (sC 0 0 h.ths.length h.spent false 0 none 0 0 none 0 0 0 0 false none 0 0) (.int .i64 h.spent) rfl rfl hz4.swap sz_int (by simp [sC, obC]) (one_one rfl) rfl ?_; intro w5 hs5) | (refine wp_rng rfl 43 _ rfl (g + 1 + 1) 0 rfl (sC 0 0 h.ths.length h.spent false 0 none 0 0 none 0 0 0 0 false none 0 0) (rng_blk hs5 m0) row_S sz_S ?_) | (refine wp_setrow rfl 43 _ _ rfl (g + 1) rfl 43 _ (sC 0 0 h.ths.length h.spent false 0 none 0 0 none 0 0 0 0 false none 0 0) rfl hs5.pull2 sz_S rfl (sC_one _ _ _ _ _ _ _ _ _ _ _ _ _ _ _ _ _ _) ?_; intro w6 hs6))
  have hz := hs6.tail.tail.drop2
  refine bodyPost_ret (Mm.res_cell rfl _ (g + 1) 43 (sC 0 0 h.ths.length h.spent false 0 none 0 0 none 0 0 0 0 false none 0 0) (0, 0) rfl hs6 m0 row_S sz_S) rfl ?_
  have hl : h.abs.objs.length = h.ths.length := h.abs_len
  rw [hl]
  exact ⟨_, rfl, h, rfl, rfl, hok.out, SdQ.plain 0 0 _ _ false hz⟩
theorem askP_record (w0 w : World) (L : List Chunk) (h : Hp) (hm : Mem w0 w (HpC h :: L)) (hok : Fact h.Ok) (o : HOp) (hl : h.ths.length < 16777216) :
    Calls Tryz.prog 38 #[.pointer (some ⟨h.g, 0, none⟩), .int .i64 4, .agg (cHO o).toArray] w fun e w' => ∃ v, e = .returned v ∧ AskQ w0 L h.g (h.abs.make true 2 ⟨7, [], [], 0, 0, false⟩) (h.abs.makeV true 2 7) v w' := by
  go_enter Tryz.func38, Tryz.ntmps38
  go_upto_region 2 with (fail)
  have hm1 := ((hm.alloc (.cells (cHO o).toArray 38)).alloc (.cells (sC 0 0 0 0 false 0 none 0 0 none 0 0 0 0 false none 0 0).toArray 43)).alloc (.cells (sC 0 0 0 0 false 0 none 0 0 none 0 0 0 0 false none 0 0).toArray 43)
  simp only [World.size_alloc] at hm1
  generalize hgb : w.heap.size = g at hm1 ⊢
  generalize hw1 : ((w.alloc (.cells (cHO o).toArray 38)).alloc (.cells (sC 0 0 0 0 false 0 none 0 0 none 0 0 0 0 false none 0 0).toArray 43)).alloc (.cells (sC 0 0 0 0 false 0 none 0 0 none 0 0 0 0 false none 0 0).toArray 43) = w1 at hm1
  try refine wp_world hw1 ?_
  clear hw1 hgb
  replace hm1 := hm1.pull3
  go_wp2_with fail
  refine (record_ok w0 w1 (Blk (g + 1 + 1) (.cells (sC 0 0 0 0 false 0 none 0 0 none 0 0 0 0 false none 0 0).toArray 43) :: Blk (g + 1) (.cells (sC 0 0 0 0 false 0 none 0 0 none 0 0 0 0 false none 0 0).toArray 43) :: Blk g (.cells (cHO o).toArray 38) :: L) h hm1 hok hl).mono ?_
  rintro e w2 ⟨rfl, h', hg', ha', hok', hm2⟩
  obtain ⟨a, b, d, hr, hr2⟩ := makeR_parts h.abs true 2 7
  rw [hr]
  replace hr := Fact.mk hr
  replace hr2 := Fact.mk hr2
  go_wp2_with (first | (refine wp_setat rfl 35 _ _ rfl (g + 1 + 1) 0 rfl 43 _ [.int .i64 a, .int .i64 b] (sC a b 0 0 false 0 none 0 0 none 0 0 0 0 false none 0 0) (.agg #[.int .i64 a, .int .i64 b]) rfl rfl hm2.swap sz_V (by simp [sC, obC]) (cV_one (a, b)) rfl ?_; intro w3 hs3) | (refine wp_setat rfl 4 _ _ rfl (g + 1 + 1) 4 rfl 43 _ [.bool d] (sC a b 0 0 d 0 none 0 0 none 0 0 0 0 false none 0 0) (.bool d) rfl rfl hs3 sz_bool (by simp [sC, obC]) (one_one rfl) rfl ?_; intro w4 hs4) | (refine wp_rng rfl 43 _ rfl (g + 1 + 1) 0 rfl (sC a b 0 0 d 0 none 0 0 none 0 0 0 0 false none 0 0) (rng_blk hs4 m0) row_S sz_S ?_) | (refine wp_setrow rfl 43 _ _ rfl (g + 1) rfl 43 _ (sC a b 0 0 d 0 none 0 0 none 0 0 0 0 false none 0 0) rfl hs4.pull2 sz_S rfl (sC_one _ _ _ _ _ _ _ _ _ _ _ _ _ _ _ _ _ _) ?_; intro w5 hs5))
  have hz := hs5.tail.tail.drop2
  refine bodyPost_ret (Mm.res_cell rfl _ (g + 1) 43 (sC a b 0 0 d 0 none 0 0 none 0 0 0 0 false none 0 0) (0, 0) rfl hs5 m0 row_S sz_S) rfl ?_
  rw [hr2.out]
  exact ⟨_, rfl, h', hg', ha', hok', SdQ.plain a b 0 0 d hz⟩
theorem askP_chan (w0 w : World) (L : List Chunk) (h : Hp) (hm : Mem w0 w (HpC h :: L)) (hok : Fact h.Ok) (o : HOp) (hl : h.ths.length < 16777216) :
    Calls Tryz.prog 38 #[.pointer (some ⟨h.g, 0, none⟩), .int .i64 6, .agg (cHO o).toArray] w fun e w' => ∃ v, e = .returned v ∧ AskQ w0 L h.g (h.abs.make (decide (1 ≤ o.M) && decide (o.M ≤ 64)) (2 + o.M) ⟨9, [], [], 0, o.M, false⟩) (h.abs.makeV (decide (1 ≤ o.M) && decide (o.M ≤ 64)) (2 + o.M) 9) v w' := by
  go_enter Tryz.func38, Tryz.ntmps38
  go_upto_region 2 with (fail)
  have hm1 := ((hm.alloc (.cells (cHO o).toArray 38)).alloc (.cells (sC 0 0 0 0 false 0 none 0 0 none 0 0 0 0 false none 0 0).toArray 43)).alloc (.cells (sC 0 0 0 0 false 0 none 0 0 none 0 0 0 0 false none 0 0).toArray 43)
  simp only [World.size_alloc] at hm1
  generalize hgb : w.heap.size = g at hm1 ⊢
  generalize hw1 : ((w.alloc (.cells (cHO o).toArray 38)).alloc (.cells (sC 0 0 0 0 false 0 none 0 0 none 0 0 0 0 false none 0 0).toArray 43)).alloc (.cells (sC 0 0 0 0 false 0 none 0 0 none 0 0 0 0 false none 0 0).toArray 43) = w1 at hm1
  try refine wp_world hw1 ?_
  clear hw1 hgb
  replace hm1 := hm1.pull3
  have x7 := hm1.cell m3 7 rfl
  go_wp2_with fail
  refine (chan_ok w0 w1 (Blk (g + 1 + 1) (.cells (sC 0 0 0 0 false 0 none 0 0 none 0 0 0 0 false none 0 0).toArray 43) :: Blk (g + 1) (.cells (sC 0 0 0 0 false 0 none 0 0 none 0 0 0 0 false none 0 0).toArray 43) :: Blk g (.cells (cHO o).toArray 38) :: L) h hm1 hok o.M hl).mono ?_
  rintro e w2 ⟨rfl, h', hg', ha', hok', hm2⟩
  obtain ⟨a, b, d, hr, hr2⟩ := makeR_parts h.abs (decide (1 ≤ o.M) && decide (o.M ≤ 64)) (2 + o.M) 9
  rw [hr]
  replace hr := Fact.mk hr
  replace hr2 := Fact.mk hr2
  go_wp2_with (first | (refine wp_setat rfl 35 _ _ rfl (g + 1 + 1) 0 rfl 43 _ [.int .i64 a, .int .i64 b] (sC a b 0 0 false 0 none 0 0 none 0 0 0 0 false none 0 0) (.agg #[.int .i64 a, .int .i64 b]) rfl rfl hm2.swap sz_V (by simp [sC, obC]) (cV_one (a, b)) rfl ?_; intro w3 hs3) | (refine wp_setat rfl 4 _ _ rfl (g + 1 + 1) 4 rfl 43 _ [.bool d] (sC a b 0 0 d 0 none 0 0 none 0 0 0 0 false none 0 0) (.bool d) rfl rfl hs3 sz_bool (by simp [sC, obC]) (one_one rfl) rfl ?_; intro w4 hs4) | (refine wp_rng rfl 43 _ rfl (g + 1 + 1) 0 rfl (sC a b 0 0 d 0 none 0 0 none 0 0 0 0 false none 0 0) (rng_blk hs4 m0) row_S sz_S ?_) | (refine wp_setrow rfl 43 _ _ rfl (g + 1) rfl 43 _ (sC a b 0 0 d 0 none 0 0 none 0 0 0 0 false none 0 0) rfl hs4.pull2 sz_S rfl (sC_one _ _ _ _ _ _ _ _ _ _ _ _ _ _ _ _ _ _) ?_; intro w5 hs5))
  have hz := hs5.tail.tail.drop2
  refine bodyPost_ret (Mm.res_cell rfl _ (g + 1) 43 (sC a b 0 0 d 0 none 0 0 none 0 0 0 0 false none 0 0) (0, 0) rfl hs5 m0 row_S sz_S) rfl ?_
  rw [hr2.out]
  exact ⟨_, rfl, h', hg', ha', hok', SdQ.plain a b 0 0 d hz⟩
theorem askP_object (w0 w : World) (L : List Chunk) (h : Hp) (hm : Mem w0 w (HpC h :: L)) (hok : Fact h.Ok) (o : HOp) :
    Calls Tryz.prog 38 #[.pointer (some ⟨h.g, 0, none⟩), .int .i64 2, .agg (cHO o).toArray] w fun e w' => ∃ v, e = .returned v ∧ AskQ w0 L h.g (h.abs) (⟨(0, 0), 0, 0, h.abs.is o.M, h.abs.at o.M, []⟩) v w' := by
  go_enter Tryz.func38, Tryz.ntmps38
  go_upto_region 2 with (fail)
  have hm1 := ((hm.alloc (.cells (cHO o).toArray 38)).alloc (.cells (sC 0 0 0 0 false 0 none 0 0 none 0 0 0 0 false none 0 0).toArray 43)).alloc (.cells (sC 0 0 0 0 false 0 none 0 0 none 0 0 0 0 false none 0 0).toArray 43)
  simp only [World.size_alloc] at hm1
  generalize hgb : w.heap.size = g at hm1 ⊢
  generalize hw1 : ((w.alloc (.cells (cHO o).toArray 38)).alloc (.cells (sC 0 0 0 0 false 0 none 0 0 none 0 0 0 0 false none 0 0).toArray 43)).alloc (.cells (sC 0 0 0 0 false 0 none 0 0 none 0 0 0 0 false none 0 0).toArray 43) = w1 at hm1
  try refine wp_world hw1 ?_
  clear hw1 hgb
  replace hm1 := hm1.pull3
  have x7 := hm1.cell m3 7 rfl
  go_wp2_with fail
  refine (object_ok w0 w1 (Blk (g + 1 + 1) (.cells (sC 0 0 0 0 false 0 none 0 0 none 0 0 0 0 false none 0 0).toArray 43) :: Blk (g + 1) (.cells (sC 0 0 0 0 false 0 none 0 0 none 0 0 0 0 false none 0 0).toArray 43) :: Blk g (.cells (cHO o).toArray 38) :: L) h hm1 hok o.M).mono ?_
  rintro e w2 ⟨v, rfl, A2, d2, K2, k2, rfl, hm2⟩
  obtain ⟨ob, hob⟩ : ∃ ob, ob = h.abs.at o.M := ⟨_, rfl⟩
  obtain ⟨is, his⟩ : ∃ is, is = h.abs.is o.M := ⟨_, rfl⟩
  rw [← hob] at hm2 ⊢
  rw [← his]
  replace hob := Fact.mk hob
  replace his := Fact.mk his
  go_wp2_with (first | (refine wp_setat rfl 41 _ _ rfl (g + 1 + 1) 5 rfl 43 _ (obC ob.kind A2 ob.items.length d2 K2 ob.keys.length k2 ob.fn ob.cap ob.shut) (sC 0 0 0 0 false ob.kind A2 ob.items.length d2 K2 ob.keys.length k2 ob.fn ob.cap ob.shut none 0 0) (.agg (obC ob.kind A2 ob.items.length d2 K2 ob.keys.length k2 ob.fn ob.cap ob.shut).toArray) rfl rfl hm2.pull3 sz_O (by simp [sC, obC]) (obC_one _ _ _ _ _ _ _ _ _ _) rfl ?_; intro w3 hs3) | (refine wp_setat rfl 4 _ _ rfl (g + 1 + 1) 4 rfl 43 _ [.bool is] (sC 0 0 0 0 is ob.kind A2 ob.items.length d2 K2 ob.keys.length k2 ob.fn ob.cap ob.shut none 0 0) (.bool is) rfl rfl hs3 sz_bool (by simp [sC, obC]) (one_one rfl) rfl ?_; intro w4 hs4) | (refine wp_rng rfl 43 _ rfl (g + 1 + 1) 0 rfl (sC 0 0 0 0 is ob.kind A2 ob.items.length d2 K2 ob.keys.length k2 ob.fn ob.cap ob.shut none 0 0) (rng_blk hs4 m0) row_S sz_S ?_) | (refine wp_setrow rfl 43 _ _ rfl (g + 1) rfl 43 _ (sC 0 0 0 0 is ob.kind A2 ob.items.length d2 K2 ob.keys.length k2 ob.fn ob.cap ob.shut none 0 0) rfl hs4.pull4 sz_S rfl (sC_one _ _ _ _ _ _ _ _ _ _ _ _ _ _ _ _ _ _) ?_; intro w5 hs5))
  have hz := hs5.tail.tail.sub (List.Sublist.cons_cons _ (List.Sublist.cons_cons _ (List.Sublist.cons_cons _ (List.sublist_cons_self _ _))))
  refine bodyPost_ret (Mm.res_cell rfl _ (g + 1) 43 (sC 0 0 0 0 is ob.kind A2 ob.items.length d2 K2 ob.keys.length k2 ob.fn ob.cap ob.shut none 0 0) (0, 0) rfl hs5 m0 row_S sz_S) rfl ?_
  rw [← hob.out, ← his.out]
  exact ⟨_, rfl, h, rfl, rfl, hok.out, A2, d2, K2, k2, none, 0, rfl, (Mem.nil hz 1 none).back2⟩
end Go.Proofs.YtpibchjkmaghnaaGreat
namespace Go.Mm
theorem Mem.pull5 {w0 w : World} {a b c d e f : Chunk} {L : List Chunk} (h : Mem w0 w (a :: b :: c :: d :: e :: f :: L)) : Mem w0 w (f :: a :: b :: c :: d :: e :: L) := h.perm (perm_front (a :: b :: c :: d :: e :: f :: L) 5 (by simp))
theorem Mem.pull6 {w0 w : World} {a b c d e f g : Chunk} {L : List Chunk} (h : Mem w0 w (a :: b :: c :: d :: e :: f :: g :: L)) : Mem w0 w (g :: a :: b :: c :: d :: e :: f :: L) := h.perm (perm_front (a :: b :: c :: d :: e :: f :: g :: L) 6 (by simp))
theorem Mem.nil3 {w0 w : World} {a : Chunk} {L : List Chunk} (h : Mem w0 w (a :: L)) : Mem w0 w (a :: Own 2 (.slice none 0 0) [] :: Own 1 (.slice none 0 0) [] :: Own 1 (.slice none 0 0) [] :: L) := (Mem.nil (Mem.nil (Mem.nil h 1 none) 1 none) 2 none).pull3
end Go.Mm
namespace Go.Proofs.YtpibchjkmaghnaaGreat
open Go.RowKit Go.Mm
set_option maxHeartbeats 4000000
set_option maxRecDepth 100000
set_option linter.unusedSimpArgs false
theorem m7 {α : Type} {a b c d e f g x : α} {l : List α} : x ∈ a :: b :: c :: d :: e :: f :: g :: x :: l := .tail _ m6
theorem measP_lt {m k : Nat} (h : k < m) : m - (intOf (.int .i64 ((k : Int) + 1))).toNat < m - (intOf (.int .i64 (k : Int))).toNat := by
  simp [intOf]
  omega
theorem measN_lt {m k : Nat} (h : k < m) (hw : wrap64 ((k : Int) + 1) = (k : Int) + 1) : m - (intOf (.int .i64 (wrap64 ((k : Int) + 1)))).toNat < m - (intOf (.int .i64 (k : Int))).toNat := by
  rw [hw]
  simp [intOf]
  omega
theorem askPlain_ok (w0 w : World) (L : List Chunk) (h : Hp) (hm : Mem w0 w (HpC h :: L)) (c : Nat) (S : Hs) (R : Sd) (o : HOp) (hx : Fact (RdC w0 2 (.slice o.A o.n o.c) (fV o.items))) (hn : o.n ≤ 1048576) (h3 : c ≠ 3) (h5 : c ≠ 5) (h19 : c ≠ 19) (hp : Fact (∀ (w1 : World) (L1 : List Chunk), Mem w0 w1 (HpC h :: L1) → Calls Tryz.prog 38 #[.pointer (some ⟨h.g, 0, none⟩), .int .i64 c, .agg (cHO o).toArray] w1 fun e w' => ∃ v, e = .returned v ∧ AskQ w0 L1 h.g S R v w')) :
    Calls Tryz.prog 12 #[.pointer (some ⟨h.g, 0, none⟩), .int .i64 c, .agg (cHO o).toArray] w fun e w' => ∃ v, e = .returned (.tuple #[v, .bool true]) ∧ AskQ w0 L h.g S R v w' := by
  have hil := Fact.mk (rdV_len hx.out)
  have q3 : decide ((c : Int) = 3) = false := decide_eq_false (by omega)
  have q5 : decide ((c : Int) = 5) = false := decide_eq_false (by omega)
  have q19 : decide ((c : Int) = 19) = false := decide_eq_false (by omega)
  go_enter Tryz.func12, Tryz.ntmps12
  go_upto_region 1 with (fail)
  have hm1 := (hm.alloc (.cells (cHO o).toArray 38)).alloc (.cells (sC 0 0 0 0 false 0 none 0 0 none 0 0 0 0 false none 0 0).toArray 43)
  simp only [World.size_alloc] at hm1
  generalize hgb : w.heap.size = g at hm1 ⊢
  generalize hw1 : (w.alloc (.cells (cHO o).toArray 38)).alloc (.cells (sC 0 0 0 0 false 0 none 0 0 none 0 0 0 0 false none 0 0).toArray 43) = w1 at hm1
  try refine wp_world hw1 ?_
  clear hw1 hgb hm
  have x8 := hm1.cell m1 8 rfl
  go_wp2_with fail
  refine (lentValues_ok w1 o.A o.n o.c o.items ⟨hx.out.gr hm1.below⟩ (by omega)).mono ?_
  rintro e w2 ⟨B, d, rfl, hn2⟩
  have hm2 := hm1.new hn2
  clear hm1 x8 hn2
  have hcap := OwnAt.cap (hm2.ok _ m0)
  have hcap1 : o.n ≤ d := by omega
  obtain ⟨bg, bo, hB⟩ := OwnAt.addr (hm2.ok _ m0) (by omega)
  subst hB
  have x8 := hm2.cell m2 8 rfl
  go_upto_region 4 with (fail)
  have hm3 := hm2.alloc (.cells (sC 0 0 0 0 false 0 none 0 0 none 0 0 0 0 false none 0 0).toArray 43)
  generalize hgb : w2.heap.size = g3 at hm3 ⊢
  generalize hw1 : w2.alloc (.cells (sC 0 0 0 0 false 0 none 0 0 none 0 0 0 0 false none 0 0).toArray 43) = w3 at hm3
  try refine wp_world hw1 ?_
  clear hw1 hgb hm2 x8
  have hm4 := hm3.pull4
  go_wp2_with (refine wp_rng rfl 38 _ rfl g 0 rfl (cHO o) (rng_blk hm4 m4) row_HO sz_HO ?_)
  refine (hp.out w3 _ hm4).mono ?_
  rintro e w4 ⟨v, rfl, h', hg', ha', hok', A, c1, K, k1, LA, lc, rfl, hm5⟩
  go_wp2_with (refine wp_setrow rfl 43 _ _ rfl g3 rfl 43 _ (sdC R A c1 K k1 LA lc) rfl hm5.pull4 sz_S rfl (sC_one _ _ _ _ _ _ _ _ _ _ _ _ _ _ _ _ _ _) ?_; intro w6 hm6; have x8 := hm6.cell m7 8 rfl)
  refine (keptValues_ok w6 (some ⟨bg, bo, none⟩) o.n d o.A o.c o.items ⟨hm6.rd m5⟩ ⟨hx.out.gr hm6.below⟩ (by omega)).mono ?_
  rintro e w7 ⟨rfl, hg7⟩
  have hm7 := (hm6.gr hg7).pull5
  clear hm6 x8 hg7
  obtain ⟨C0, hC0⟩ : ∃ C0, C0 = fV (o.items ++ marksV 64) := ⟨_, rfl⟩
  have hCl : C0.length = (o.n + 64) * 2 := by rw [hC0]; exact OwnAt.len (hm7.ok _ m0)
  rw [← hC0] at hm7
  clear hC0
  go_wp2
  go_loopw [12] (fun s12 W => ∃ (k : Nat) (C : List Value), s12 = .int .i64 k ∧ k ≤ o.n + 64 ∧ C.length = (o.n + 64) * 2 ∧ Mem w0 W (Own 2 (.slice (some ⟨bg, bo, none⟩) (o.n + 64) d) C :: Blk g3 (.cells (sdC R A c1 K k1 LA lc).toArray 43) :: Own 2 (.slice A R.ob.items.length c1) (fV R.ob.items) :: Own 1 (.slice K R.ob.keys.length k1) (nums .i64 R.ob.keys) :: Own 1 (.slice LA R.list.length lc) (nums .i64 R.list) :: HpC h' :: Blk (g + 1) (.cells (sC 0 0 0 0 false 0 none 0 0 none 0 0 0 0 false none 0 0).toArray 43) :: Blk g (.cells (cHO o).toArray 38) :: L)) (fun s12 _ => o.n + 64 - (intOf s12).toNat)
  case atStart => exact ⟨0, C0, rfl, by omega, hCl, hm7⟩
  case round =>
    obtain ⟨k, C, rfl, hk, hC, hmr⟩ := hrel
    clear hm7 hCl
    by_cases hlt : k < o.n + 64
    · have wrapk : wrap64 ((k : Int) + 1) = (k : Int) + 1 := IntWalk.wrap64_in _ (by omega)
      have hC' : (C.take (k * 2) ++ [(.int .i64 77 : Value), .int .i64 (k : Int)] ++ C.drop (k * 2 + 2)).length = (o.n + 64) * 2 := by simp only [List.length_append, List.length_take, List.length_drop, List.length_cons, List.length_nil, hC]; omega
      replace hC' := Fact.mk hC'
      replace hC := Fact.mk hC
      go_wp2_with (refine wp_ownrow rfl 35 _ _ rfl (bo + k * 2) (k * 2) rfl rfl [.int .i64 77, .int .i64 (k : Int)] rfl hmr sz_V (by rw [hC.out]; simp; omega) (cV_one (77, (k : Int))) ?_; intro w9 hm9)
      go_roundw
      case rel => exact ⟨k + 1, _, by go_num, by omega, hC'.out, hm9⟩
      case measure => exact measP_lt hlt
    · obtain rfl : k = o.n + 64 := by omega
      go_wp2_with (first | (refine wp_rng rfl 43 _ rfl g3 0 rfl (sdC R A c1 K k1 LA lc) (rng_blk hmr m1) row_S sz_S ?_) | (refine wp_setrow rfl 43 _ _ rfl (g + 1) rfl 43 _ (sdC R A c1 K k1 LA lc) rfl hmr.pull6 sz_S rfl (sC_one _ _ _ _ _ _ _ _ _ _ _ _ _ _ _ _ _ _) ?_; intro w9 hm9))
      have hz := (hm9.tail.tail.tail).sub (List.Sublist.cons_cons _ (List.Sublist.cons_cons _ (List.Sublist.cons_cons _ (List.Sublist.cons_cons _ (List.sublist_cons_self _ _)))))
      refine bodyPost_ret (Mm.res_cell_tmp rfl _ (g + 1) 43 (sdC R A c1 K k1 LA lc) (0, 0) rfl hm9 m0 row_S sz_S) rfl ⟨_, rfl, h', hg', ha', hok', ?_⟩
      exact ⟨A, c1, K, k1, LA, lc, rfl, hz⟩
theorem askArray_ok (w0 w : World) (L : List Chunk) (h : Hp) (hm : Mem w0 w (HpC h :: L)) (hok : Fact h.Ok) (o : HOp) (hx : Fact (RdC w0 2 (.slice o.A o.n o.c) (fV o.items))) (hn : o.n ≤ 1048576) (hl : h.ths.length < 16777216) :
    Calls Tryz.prog 12 #[.pointer (some ⟨h.g, 0, none⟩), .int .i64 3, .agg (cHO o).toArray] w fun e w' => ∃ v, e = .returned (.tuple #[v, .bool true]) ∧ AskQ w0 L h.g (h.abs.make (decide (o.n ≤ 4096)) (2 + o.n) ⟨6, o.items, [], 0, 0, false⟩) (h.abs.makeV (decide (o.n ≤ 4096)) (2 + o.n) 6) v w' := by
  have hil := Fact.mk (rdV_len hx.out)
  go_enter Tryz.func12, Tryz.ntmps12
  go_upto_region 1 with (fail)
  have hm1 := (hm.alloc (.cells (cHO o).toArray 38)).alloc (.cells (sC 0 0 0 0 false 0 none 0 0 none 0 0 0 0 false none 0 0).toArray 43)
  simp only [World.size_alloc] at hm1
  generalize hgb : w.heap.size = g at hm1 ⊢
  generalize hw1 : (w.alloc (.cells (cHO o).toArray 38)).alloc (.cells (sC 0 0 0 0 false 0 none 0 0 none 0 0 0 0 false none 0 0).toArray 43) = w1 at hm1
  try refine wp_world hw1 ?_
  clear hw1 hgb hm
  have x8 := hm1.cell m1 8 rfl
  go_wp2_with fail
  refine (lentValues_ok w1 o.A o.n o.c o.items ⟨hx.out.gr hm1.below⟩ (by omega)).mono ?_
  rintro e w2 ⟨B, d, rfl, hn2⟩
  have hm2 := hm1.new hn2
  clear hm1 x8 hn2
  have hcap := OwnAt.cap (hm2.ok _ m0)
  have hcap1 : o.n ≤ d := by omega
  obtain ⟨bg, bo, hB⟩ := OwnAt.addr (hm2.ok _ m0) (by omega)
  subst hB
  have x8 := hm2.cell m2 8 rfl
  go_upto_region 4 with (fail)
  have hm3 := hm2.alloc (.cells (sC 0 0 0 0 false 0 none 0 0 none 0 0 0 0 false none 0 0).toArray 43)
  generalize hgb : w2.heap.size = g3 at hm3 ⊢
  generalize hw1 : w2.alloc (.cells (sC 0 0 0 0 false 0 none 0 0 none 0 0 0 0 false none 0 0).toArray 43) = w3 at hm3
  try refine wp_world hw1 ?_
  clear hw1 hgb hm2 x8
  have hr4 := Fact.mk (rd_pre cV_len (hm3.rd m1) hil.out)
  have hm4 := hm3.pull4
  go_wp2_with fail
  refine (array_ok w0 w3 _ h hm4 hok (some ⟨bg, bo, none⟩) o.n d o.items hr4 (by omega) hl).mono ?_
  rintro e w4 ⟨rfl, h', hg', ha', hok', hm5⟩
  obtain ⟨a, b, t, hr, hr2⟩ := makeR_parts h.abs (decide (o.n ≤ 4096)) (2 + o.n) 6
  rw [hr]
  replace hr := Fact.mk hr
  replace hr2 := Fact.mk hr2
  go_wp2_with (first | (refine wp_setat rfl 35 _ _ rfl g3 0 rfl 43 _ [.int .i64 a, .int .i64 b] (sC a b 0 0 false 0 none 0 0 none 0 0 0 0 false none 0 0) (.agg #[.int .i64 a, .int .i64 b]) rfl rfl hm5.swap sz_V (by simp [sC]) (cV_one (a, b)) rfl ?_; intro w5 hs5) | (refine wp_setat rfl 4 _ _ rfl g3 4 rfl 43 _ [.bool t] (sC a b 0 0 t 0 none 0 0 none 0 0 0 0 false none 0 0) (.bool t) rfl rfl hs5 sz_bool (by simp [sC]) (one_one rfl) rfl ?_; intro w6 hs6; have hm6 := hs6.nil3; have x8 := hm6.cell m7 8 rfl))
  refine (keptValues_ok w6 (some ⟨bg, bo, none⟩) o.n d o.A o.c o.items ⟨hm6.rd m5⟩ ⟨hx.out.gr hm6.below⟩ (by omega)).mono ?_
  rintro e w7 ⟨rfl, hg7⟩
  have hm7 := (hm6.gr hg7).pull5
  clear hm6 x8 hg7
  obtain ⟨C0, hC0⟩ : ∃ C0, C0 = fV (o.items ++ marksV 64) := ⟨_, rfl⟩
  have hCl : C0.length = (o.n + 64) * 2 := by rw [hC0]; exact OwnAt.len (hm7.ok _ m0)
  rw [← hC0] at hm7
  clear hC0
  go_wp2
  go_loopw [12] (fun s12 W => ∃ (k : Nat) (C : List Value), s12 = .int .i64 k ∧ k ≤ o.n + 64 ∧ C.length = (o.n + 64) * 2 ∧ Mem w0 W (Own 2 (.slice (some ⟨bg, bo, none⟩) (o.n + 64) d) C :: Blk g3 (.cells (sC a b 0 0 t 0 none 0 0 none 0 0 0 0 false none 0 0).toArray 43) :: Own 2 (.slice none 0 0) [] :: Own 1 (.slice none 0 0) [] :: Own 1 (.slice none 0 0) [] :: HpC h' :: Blk (g + 1) (.cells (sC 0 0 0 0 false 0 none 0 0 none 0 0 0 0 false none 0 0).toArray 43) :: Blk g (.cells (cHO o).toArray 38) :: L)) (fun s12 _ => o.n + 64 - (intOf s12).toNat)
  case atStart => exact ⟨0, C0, rfl, by omega, hCl, hm7⟩
  case round =>
    obtain ⟨k, C, rfl, hk, hC, hmr⟩ := hrel
    clear hm7 hCl
    by_cases hlt : k < o.n + 64
    · have wrapk : wrap64 ((k : Int) + 1) = (k : Int) + 1 := IntWalk.wrap64_in _ (by omega)
      have hC' : (C.take (k * 2) ++ [(.int .i64 77 : Value), .int .i64 (k : Int)] ++ C.drop (k * 2 + 2)).length = (o.n + 64) * 2 := by simp only [List.length_append, List.length_take, List.length_drop, List.length_cons, List.length_nil, hC]; omega
      replace hC' := Fact.mk hC'
      replace hC := Fact.mk hC
      go_wp2_with (refine wp_ownrow rfl 35 _ _ rfl (bo + k * 2) (k * 2) rfl rfl [.int .i64 77, .int .i64 (k : Int)] rfl hmr sz_V (by rw [hC.out]; simp; omega) (cV_one (77, (k : Int))) ?_; intro w9 hm9)
      go_roundw
      case rel => exact ⟨k + 1, _, by go_num, by omega, hC'.out, hm9⟩
      case measure => exact measP_lt hlt
    · obtain rfl : k = o.n + 64 := by omega
      go_wp2_with (first | (refine wp_rng rfl 43 _ rfl g3 0 rfl (sC a b 0 0 t 0 none 0 0 none 0 0 0 0 false none 0 0) (rng_blk hmr m1) row_S sz_S ?_) | (refine wp_setrow rfl 43 _ _ rfl (g + 1) rfl 43 _ (sC a b 0 0 t 0 none 0 0 none 0 0 0 0 false none 0 0) rfl hmr.pull6 sz_S rfl (sC_one _ _ _ _ _ _ _ _ _ _ _ _ _ _ _ _ _ _) ?_; intro w9 hm9))
      have hz := (hm9.tail.tail.tail).sub (List.Sublist.cons_cons _ (List.Sublist.cons_cons _ (List.Sublist.cons_cons _ (List.Sublist.cons_cons _ (List.sublist_cons_self _ _)))))
      refine bodyPost_ret (Mm.res_cell_tmp rfl _ (g + 1) 43 (sC a b 0 0 t 0 none 0 0 none 0 0 0 0 false none 0 0) (0, 0) rfl hm9 m0 row_S sz_S) rfl ⟨_, rfl, h', hg', ha', hok', ?_⟩
      rw [hr2.out]
      exact ⟨none, 0, none, 0, none, 0, rfl, hz⟩
theorem askBound_ok (w0 w : World) (L : List Chunk) (h : Hp) (hm : Mem w0 w (HpC h :: L)) (hok : Fact h.Ok) (o : HOp) (hx : Fact (RdC w0 2 (.slice o.A o.n o.c) (fV o.items))) (hn : o.n ≤ 1048576) (hl : h.ths.length < 16777216) :
    Calls Tryz.prog 12 #[.pointer (some ⟨h.g, 0, none⟩), .int .i64 5, .agg (cHO o).toArray] w fun e w' => ∃ v, e = .returned (.tuple #[v, .bool true]) ∧ AskQ w0 L h.g (h.abs.make (decide (0 ≤ o.M) && decide (o.n ≤ 4096)) (2 + o.n) ⟨8, o.items, [], o.M, 0, false⟩) (h.abs.makeV (decide (0 ≤ o.M) && decide (o.n ≤ 4096)) (2 + o.n) 8) v w' := by
  have hil := Fact.mk (rdV_len hx.out)
  go_enter Tryz.func12, Tryz.ntmps12
  go_upto_region 1 with (fail)
  have hm1 := (hm.alloc (.cells (cHO o).toArray 38)).alloc (.cells (sC 0 0 0 0 false 0 none 0 0 none 0 0 0 0 false none 0 0).toArray 43)
  simp only [World.size_alloc] at hm1
  generalize hgb : w.heap.size = g at hm1 ⊢
  generalize hw1 : (w.alloc (.cells (cHO o).toArray 38)).alloc (.cells (sC 0 0 0 0 false 0 none 0 0 none 0 0 0 0 false none 0 0).toArray 43) = w1 at hm1
  try refine wp_world hw1 ?_
  clear hw1 hgb hm
  have x8 := hm1.cell m1 8 rfl
  go_wp2_with fail
  refine (lentValues_ok w1 o.A o.n o.c o.items ⟨hx.out.gr hm1.below⟩ (by omega)).mono ?_
  rintro e w2 ⟨B, d, rfl, hn2⟩
  have hm2 := hm1.new hn2
  clear hm1 x8 hn2
  have hcap := OwnAt.cap (hm2.ok _ m0)
  have hcap1 : o.n ≤ d := by omega
  obtain ⟨bg, bo, hB⟩ := OwnAt.addr (hm2.ok _ m0) (by omega)
  subst hB
  have x8 := hm2.cell m2 8 rfl
  go_upto_region 4 with (fail)
  have hm3 := hm2.alloc (.cells (sC 0 0 0 0 false 0 none 0 0 none 0 0 0 0 false none 0 0).toArray 43)
  generalize hgb : w2.heap.size = g3 at hm3 ⊢
  generalize hw1 : w2.alloc (.cells (sC 0 0 0 0 false 0 none 0 0 none 0 0 0 0 false none 0 0).toArray 43) = w3 at hm3
  try refine wp_world hw1 ?_
  clear hw1 hgb hm2 x8
  have hr4 := Fact.mk (rd_pre cV_len (hm3.rd m1) hil.out)
  have hm4 := hm3.pull4
  have x7 := hm4.cell m4 7 rfl
  go_wp2_with fail
  refine (bound_ok w0 w3 _ h hm4 hok o.M (some ⟨bg, bo, none⟩) o.n d o.items hr4 (by omega) hl).mono ?_
  rintro e w4 ⟨rfl, h', hg', ha', hok', hm5⟩
  obtain ⟨a, b, t, hr, hr2⟩ := makeR_parts h.abs (decide (0 ≤ o.M) && decide (o.n ≤ 4096)) (2 + o.n) 8
  rw [hr]
  replace hr := Fact.mk hr
  replace hr2 := Fact.mk hr2
  go_wp2_with (first | (refine wp_setat rfl 35 _ _ rfl g3 0 rfl 43 _ [.int .i64 a, .int .i64 b] (sC a b 0 0 false 0 none 0 0 none 0 0 0 0 false none 0 0) (.agg #[.int .i64 a, .int .i64 b]) rfl rfl hm5.swap sz_V (by simp [sC]) (cV_one (a, b)) rfl ?_; intro w5 hs5) | (refine wp_setat rfl 4 _ _ rfl g3 4 rfl 43 _ [.bool t] (sC a b 0 0 t 0 none 0 0 none 0 0 0 0 false none 0 0) (.bool t) rfl rfl hs5 sz_bool (by simp [sC]) (one_one rfl) rfl ?_; intro w6 hs6; have hm6 := hs6.nil3; have x8 := hm6.cell m7 8 rfl))
  refine (keptValues_ok w6 (some ⟨bg, bo, none⟩) o.n d o.A o.c o.items ⟨hm6.rd m5⟩ ⟨hx.out.gr hm6.below⟩ (by omega)).mono ?_
  rintro e w7 ⟨rfl, hg7⟩
  have hm7 := (hm6.gr hg7).pull5
  clear hm6 x8 hg7
  obtain ⟨C0, hC0⟩ : ∃ C0, C0 = fV (o.items ++ marksV 64) := ⟨_, rfl⟩
  have hCl : C0.length = (o.n + 64) * 2 := by rw [hC0]; exact OwnAt.len (hm7.ok _ m0)
  rw [← hC0] at hm7
  clear hC0
  go_wp2
  go_loopw [12] (fun s12 W => ∃ (k : Nat) (C : List Value), s12 = .int .i64 k ∧ k ≤ o.n + 64 ∧ C.length = (o.n + 64) * 2 ∧ Mem w0 W (Own 2 (.slice (some ⟨bg, bo, none⟩) (o.n + 64) d) C :: Blk g3 (.cells (sC a b 0 0 t 0 none 0 0 none 0 0 0 0 false none 0 0).toArray 43) :: Own 2 (.slice none 0 0) [] :: Own 1 (.slice none 0 0) [] :: Own 1 (.slice none 0 0) [] :: HpC h' :: Blk (g + 1) (.cells (sC 0 0 0 0 false 0 none 0 0 none 0 0 0 0 false none 0 0).toArray 43) :: Blk g (.cells (cHO o).toArray 38) :: L)) (fun s12 _ => o.n + 64 - (intOf s12).toNat)
  case atStart => exact ⟨0, C0, rfl, by omega, hCl, hm7⟩
  case round =>
    obtain ⟨k, C, rfl, hk, hC, hmr⟩ := hrel
    clear hm7 hCl
    by_cases hlt : k < o.n + 64
    · have wrapk : wrap64 ((k : Int) + 1) = (k : Int) + 1 := IntWalk.wrap64_in _ (by omega)
      have hC' : (C.take (k * 2) ++ [(.int .i64 77 : Value), .int .i64 (k : Int)] ++ C.drop (k * 2 + 2)).length = (o.n + 64) * 2 := by simp only [List.length_append, List.length_take, List.length_drop, List.length_cons, List.length_nil, hC]; omega
      replace hC' := Fact.mk hC'
      replace hC := Fact.mk hC
      go_wp2_with (refine wp_ownrow rfl 35 _ _ rfl (bo + k * 2) (k * 2) rfl rfl [.int .i64 77, .int .i64 (k : Int)] rfl hmr sz_V (by rw [hC.out]; simp; omega) (cV_one (77, (k : Int))) ?_; intro w9 hm9)
      go_roundw
      case rel => exact ⟨k + 1, _, by go_num, by omega, hC'.out, hm9⟩
      case measure => exact measP_lt hlt
    · obtain rfl : k = o.n + 64 := by omega
      go_wp2_with (first | (refine wp_rng rfl 43 _ rfl g3 0 rfl (sC a b 0 0 t 0 none 0 0 none 0 0 0 0 false none 0 0) (rng_blk hmr m1) row_S sz_S ?_) | (refine wp_setrow rfl 43 _ _ rfl (g + 1) rfl 43 _ (sC a b 0 0 t 0 none 0 0 none 0 0 0 0 false none 0 0) rfl hmr.pull6 sz_S rfl (sC_one _ _ _ _ _ _ _ _ _ _ _ _ _ _ _ _ _ _) ?_; intro w9 hm9))
      have hz := (hm9.tail.tail.tail).sub (List.Sublist.cons_cons _ (List.Sublist.cons_cons _ (List.Sublist.cons_cons _ (List.Sublist.cons_cons _ (List.sublist_cons_self _ _)))))
      refine bodyPost_ret (Mm.res_cell_tmp rfl _ (g + 1) 43 (sC a b 0 0 t 0 none 0 0 none 0 0 0 0 false none 0 0) (0, 0) rfl hm9 m0 row_S sz_S) rfl ⟨_, rfl, h', hg', ha', hok', ?_⟩
      rw [hr2.out]
      exact ⟨none, 0, none, 0, none, 0, rfl, hz⟩
end Go.Proofs.YtpibchjkmaghnaaGreat
namespace Go.Mm
open Go.RowKit
/-- A row read in a drawn region, ahead of its forced tail. -/
theorem still_rng {P : Program} {ops : Array Oper} {o : Oper} {a : Act} {rest : List Oper} {Q : Act → Prop} {w : World} (hw : Region.wanted o (yielded ops a.tmps) = true) (ty : TypeId) (x : Operand) (ho : o.op = .load ty x) (b q : Nat) (hx : a.eval x = .pointer (some ⟨b, q, none⟩)) (cs : List Value)
    (hc : w.rangeAt b q cs) (hd : (P.underlying ty).map (·.isRow) = some true) (hi : (P.info? ty).map (·.size) = some cs.length) (h : wpStill P ops w Q rest (a.put o.dst (.agg cs.toArray))) : wpStill P ops w Q (o :: rest) a := by
  obtain ⟨d, hu, hr⟩ : ∃ d, P.underlying ty = some d ∧ d.isRow = true := by
    cases e : P.underlying ty with
    | none => rw [e] at hd; simp at hd
    | some d => rw [e] at hd; exact ⟨d, rfl, by simpa using hd⟩
  have hl := run_loadVar_mid (P := P) w b q ty cs d hc hu hr hi
  have he : (execOp a.eval o).run P w = .ok (.value (.agg cs.toArray)) w := by simp [execOp, ho, Instr.loadAt, hx, Instr.sureAddr, hl]
  unfold wpStill
  rw [if_pos hw]
  unfold Oper.still
  rw [he, Oper.stillUpon_value]
  exact h
end Go.Mm
namespace Go.Proofs.YtpibchjkmaghnaaGreat
open Go.RowKit Go.Mm
set_option maxHeartbeats 4000000
set_option maxRecDepth 100000
set_option linter.unusedSimpArgs false
/-- An object in memory. -/
structure RO where
  A : Option Addr
  c : Nat
  KA : Option Addr
  kc : Nat
  ob : Ob
def ro0 : RO := ⟨none, 0, none, 0, ob0⟩
def cRO (x : RO) : List Value := obC x.ob.kind x.A x.ob.items.length x.c x.KA x.ob.keys.length x.kc x.ob.fn x.ob.cap x.ob.shut
theorem cRO_len (x : RO) : (cRO x).length = 6 := rfl
theorem cRO_one (x : RO) : One (cRO x) := obC_one _ _ _ _ _ _ _ _ _ _
def RO.reads (x : RO) (w : World) : Prop := RdC w 2 (.slice x.A x.ob.items.length x.c) (fV x.ob.items) ∧ RdC w 1 (.slice x.KA x.ob.keys.length x.kc) (nums .i64 x.ob.keys)
theorem RO.reads.gr {x : RO} {w w' : World} (h : x.reads w) (hg : Gr w w') : x.reads w' := ⟨h.1.gr hg, h.2.gr hg⟩
/-- A list of objects that can be read. -/
structure ObsR (w : World) (A : Option Addr) (n c : Nat) (xs : List RO) : Prop where
  rd : RdC w 6 (.slice A n c) (xs.flatMap cRO)
  each : ∀ x, x ∈ xs → x.reads w
theorem ObsR.gr {w w' : World} {A : Option Addr} {n c : Nat} {xs : List RO} (h : ObsR w A n c xs) (hg : Gr w w') : ObsR w' A n c xs := ⟨h.rd.gr hg, fun x hx => (h.each x hx).gr hg⟩
theorem ObsR.len {w : World} {A : Option Addr} {n c : Nat} {xs : List RO} (h : ObsR w A n c xs) : xs.length = n := rd_len cRO_len (by omega) h.rd
theorem ObsR.at {w : World} {A : Option Addr} {n c : Nat} {xs : List RO} (h : ObsR w A n c xs) (k : Nat) (hk : k < n) :
    ∃ b o, A = some ⟨b, o, none⟩ ∧ (∀ (j : Nat) (u : Value), (cRO (xs.getD k ro0))[j]? = some u → w.cell? ⟨b, o + k * 6 + j, none⟩ = some u) ∧ k < xs.length ∧ (xs.getD k ro0).reads w := by
  obtain ⟨b, o, e, hc, _, h2⟩ := rd_at cRO_len (by omega) ro0 h.rd k hk
  refine ⟨b, o, e, hc, h2, h.each _ ?_⟩
  rw [List.getD_eq_getElem?_getD, List.getElem?_eq_getElem h2]
  exact List.getElem_mem h2
theorem ty_I : Tryz.prog.underlying 2 = some (.int .i64) := by kernel_rfl
theorem sameV_q (w : World) (A B : Option Addr) (n c d : Nat) (xs : List V2) (hx : Fact (RdC w 2 (.slice A n c) (fV xs))) (hy : Fact (RdC w 2 (.slice B n d) (fV xs))) (hn : n ≤ 16777216) :
    Calls Tryz.prog 78 #[.slice A n c, .slice B n d] w fun e w' => e = .returned (.bool true) ∧ ∃ m, w' = w.drewN m := by
  have hl := Fact.mk (rdV_len hx.out)
  go_enter Tryz.func78, Tryz.ntmps78
  go_wp2
  go_loopw [5] (fun v w' => ∃ (k : Nat), v = .int .i64 k ∧ k ≤ n ∧ ∃ m, w' = w.drewN m) (fun v _ => n - (intOf v).toNat)
  case atStart => exact ⟨0, rfl, by omega, 0, rfl⟩
  case round =>
    obtain ⟨k, rfl, hk, m, rfl⟩ := hrel
    by_cases hlt : k < n
    · obtain ⟨b, o, rfl, g1, g2, ht, _⟩ := rdV_at hx.out k hlt
      obtain ⟨bb, ob, rfl, g1b, g2b, htb, _⟩ := rdV_at hy.out k hlt
      generalize xs.getD k (0, 0) = x at g1 g2 g1b g2b ht htb
      clear ht htb
      go_upto_region 6 with (fail)
      go_quiet (fail)
      go_wp2
      go_roundw
      case rel => exact ⟨k + 1, by go_num, by omega, _, rfl⟩
      case measure => simp [intOf]; omega
    · go_wp2
      go_ret
      exact ⟨rfl, _, rfl⟩
theorem sameLongs_q (w : World) (A B : Option Addr) (n c d : Nat) (xs : List Int) (hx : Fact (RdC w 1 (.slice A n c) (nums .i64 xs))) (hy : Fact (RdC w 1 (.slice B n d) (nums .i64 xs))) (hn : n ≤ 16777216) :
    Calls Tryz.prog 79 #[.slice A n c, .slice B n d] w fun e w' => e = .returned (.bool true) ∧ ∃ m, w' = w.drewN m := by
  go_enter Tryz.func79, Tryz.ntmps79
  go_wp2
  go_loopw [5] (fun v w' => ∃ (k : Nat), v = .int .i64 k ∧ k ≤ n ∧ ∃ m, w' = w.drewN m) (fun v _ => n - (intOf v).toNat)
  case atStart => exact ⟨0, rfl, by omega, 0, rfl⟩
  case round =>
    obtain ⟨k, rfl, hk, m, rfl⟩ := hrel
    by_cases hlt : k < n
    · obtain ⟨b, o, rfl, g1, _⟩ := hx.out.num k hlt
      obtain ⟨bb, ob, rfl, g2, _⟩ := hy.out.num k hlt
      generalize xs.getD k 0 = x at g1 g2
      go_upto_region 6 with (fail)
      go_quiet (fail)
      go_wp2
      go_roundw
      case rel => exact ⟨k + 1, by go_num, by omega, _, rfl⟩
      case measure => simp [intOf]; omega
    · go_wp2
      go_ret
      exact ⟨rfl, _, rfl⟩
theorem sameInts_q (w : World) (A B : Option Addr) (n c d : Nat) (xs : List Int) (hx : Fact (RdC w 1 (.slice A n c) (nums .i64 xs))) (hy : Fact (RdC w 1 (.slice B n d) (nums .i64 xs))) (hn : n ≤ 16777216) :
    Calls Tryz.prog 40 #[.slice A n c, .slice B n d] w fun e w' => e = .returned (.bool true) ∧ ∃ m, w' = w.drewN m := by
  go_enter Tryz.func40, Tryz.ntmps40
  go_wp2
  go_loopw [5] (fun v w' => ∃ (k : Nat), v = .int .i64 k ∧ k ≤ n ∧ ∃ m, w' = w.drewN m) (fun v _ => n - (intOf v).toNat)
  case atStart => exact ⟨0, rfl, by omega, 0, rfl⟩
  case round =>
    obtain ⟨k, rfl, hk, m, rfl⟩ := hrel
    by_cases hlt : k < n
    · obtain ⟨b, o, rfl, g1, _⟩ := hx.out.num k hlt
      obtain ⟨bb, ob, rfl, g2, _⟩ := hy.out.num k hlt
      generalize xs.getD k 0 = x at g1 g2
      go_upto_region 6 with (fail)
      go_quiet (fail)
      go_wp2
      go_roundw
      case rel => exact ⟨k + 1, by go_num, by omega, _, rfl⟩
      case measure => simp [intOf]; omega
    · go_wp2
      go_ret
      exact ⟨rfl, _, rfl⟩
theorem sameObject_ok (w : World) (x y : RO) (hx : Fact (x.reads w)) (hy : Fact (y.reads w)) (he : x.ob = y.ob) (hi : x.ob.items.length ≤ 16777216) (hk : x.ob.keys.length ≤ 16777216) :
    Calls Tryz.prog 39 #[.agg (cRO x).toArray, .agg (cRO y).toArray] w fun e w' => e = .returned (.bool true) ∧ Gr w w' := by
  obtain ⟨A, c, KA, kc, ob⟩ := x
  obtain ⟨B, d, KB, kd, ob'⟩ := y
  obtain rfl : ob = ob' := he
  obtain ⟨k, items, keys, fn, cap, sh⟩ := ob
  go_enter Tryz.func39, Tryz.ntmps39
  go_upto_region 1 with (fail)
  have hm1 := ((Mem.start w).alloc (.cells (cRO ⟨A, c, KA, kc, ⟨k, items, keys, fn, cap, sh⟩⟩).toArray 41)).alloc (.cells (cRO ⟨B, d, KB, kd, ⟨k, items, keys, fn, cap, sh⟩⟩).toArray 41)
  simp only [World.size_alloc] at hm1
  generalize hgb : w.heap.size = g at hm1 ⊢
  generalize hw1 : (w.alloc (.cells (cRO ⟨A, c, KA, kc, ⟨k, items, keys, fn, cap, sh⟩⟩).toArray 41)).alloc (.cells (cRO ⟨B, d, KB, kd, ⟨k, items, keys, fn, cap, sh⟩⟩).toArray 41) = w1 at hm1
  try refine wp_world hw1 ?_
  clear hw1 hgb
  have hg1 := Fact.mk hm1.below
  have x0 := hm1.cell m1 0 rfl
  have x1 := hm1.cell m1 1 rfl
  have x2 := hm1.cell m1 2 rfl
  have x3 := hm1.cell m1 3 rfl
  have x4 := hm1.cell m1 4 rfl
  have x5 := hm1.cell m1 5 rfl
  have y0 := hm1.cell m0 0 rfl
  have y1 := hm1.cell m0 1 rfl
  have y2 := hm1.cell m0 2 rfl
  have y3 := hm1.cell m0 3 rfl
  have y4 := hm1.cell m0 4 rfl
  have y5 := hm1.cell m0 5 rfl
  go_wp2_with fail
  refine (sameV_q w1 A B items.length c d items ⟨hx.out.1.gr hg1.out⟩ ⟨hy.out.1.gr hg1.out⟩ hi).mono ?_
  rintro e w2 ⟨rfl, m, rfl⟩
  have hg2 := Fact.mk (Gr.drewN hg1.out m)
  have z2 := ((Gr.refl w1).drewN m).cell x2
  have u2 := ((Gr.refl w1).drewN m).cell y2
  clear x0 x1 x2 x3 x4 x5 y0 y1 y2 y3 y4 y5 hm1
  generalize w1.drewN m = w2 at hg2 z2 u2 ⊢
  go_wp2_with fail
  refine (sameLongs_q w2 KA KB keys.length kc kd keys ⟨hx.out.2.gr hg2.out⟩ ⟨hy.out.2.gr hg2.out⟩ hk).mono ?_
  rintro e w3 ⟨rfl, m, rfl⟩
  go_wp2_with fail
  go_ret
  exact ⟨rfl, Gr.drewN hg2.out m⟩
theorem sameObjects_ok (w : World) (A B : Option Addr) (n c d : Nat) (xs ys : List RO) (hx : Fact (ObsR w A n c xs)) (hy : Fact (ObsR w B n d ys)) (he : Fact (xs.map (·.ob) = ys.map (·.ob))) (hs : Fact (∀ x, x ∈ xs → x.ob.items.length ≤ 16777216 ∧ x.ob.keys.length ≤ 16777216)) (hn : n ≤ 16777216) :
    Calls Tryz.prog 17 #[.slice A n c, .slice B n d] w fun e w' => e = .returned (.bool true) ∧ Gr w w' := by
  go_enter Tryz.func17, Tryz.ntmps17
  go_wp2
  go_loopw [5] (fun v w' => ∃ (k : Nat), v = .int .i64 k ∧ k ≤ n ∧ Gr w w') (fun v _ => n - (intOf v).toNat)
  case atStart => exact ⟨0, rfl, by omega, Gr.refl _⟩
  case round =>
    obtain ⟨k, rfl, hk, hg⟩ := hrel
    by_cases hlt : k < n
    · obtain ⟨b, o, rfl, hc1, hk1, r1⟩ := hx.out.at k hlt
      obtain ⟨bb, ob, rfl, hc2, hk2, r2⟩ := hy.out.at k hlt
      have hob : (xs.getD k ro0).ob = (ys.getD k ro0).ob := by
        have := congrArg (fun l : List Ob => l[k]?) he.out
        simpa [hk1, hk2] using this
      have hsz := hs.out (xs.getD k ro0) (by rw [List.getD_eq_getElem?_getD, List.getElem?_eq_getElem hk1]; exact List.getElem_mem hk1)
      generalize xs.getD k ro0 = x at hc1 r1 hob hsz
      generalize ys.getD k ro0 = y at hc2 r2 hob
      have hob := Fact.mk hob
      have hsz := Fact.mk hsz
      have hc1 := Fact.mk (rng_gr hc1 hg)
      have hc2 := Fact.mk (rng_gr hc2 hg)
      have r1 := Fact.mk (r1.gr hg)
      have r2 := Fact.mk (r2.gr hg)
      have hg := Fact.mk hg
      go_upto_region 6 with (fail)
      have hcd1 : wr.drew.rangeAt b (o + k * 6) (cRO x) := hc1.out
      have hcd2 : wr.drew.rangeAt bb (ob + k * 6) (cRO y) := hc2.out
      have hgd := hg.out.drew
      refine wp_region_still_tail 8 (by kernel_rfl) (by kernel_rfl) ?_
      simp only [List.take_succ_cons, List.take_zero, List.drop_succ_cons, List.drop_zero]
      repeat (first | (refine still_rng rfl 41 _ rfl b (o + k * 6) rfl (cRO x) hcd1 row_O sz_O ?_; simp only [Act.put, List.setIfInBounds_toArray, List.set_cons_zero, List.set_cons_succ]) | (refine still_rng rfl 41 _ rfl bb (ob + k * 6) rfl (cRO y) hcd2 row_O sz_O ?_; simp only [Act.put, List.setIfInBounds_toArray, List.set_cons_zero, List.set_cons_succ]) | still_step)
      refine wpStill_nil ?_
      go_wp2_with fail
      refine (sameObject_ok _ x y ⟨r1.out.gr (Gr.refl wr).drew⟩ ⟨r2.out.gr (Gr.refl wr).drew⟩ hob.out hsz.out.1 hsz.out.2).mono ?_
      rintro e w2 ⟨rfl, hg2⟩
      go_wp2_with fail
      go_roundw
      case rel => exact ⟨k + 1, by go_num, by omega, Gr.trans hgd hg2⟩
      case measure => exact measP_lt hlt
    · go_wp2
      go_ret
      exact ⟨rfl, hg⟩
/-- An answer that can be read. -/
structure SdR (w : World) (s : Sd) (v : Value) : Prop where
  ex : ∃ A c K k LA lc, v = .agg (sdC s A c K k LA lc).toArray ∧ RdC w 2 (.slice A s.ob.items.length c) (fV s.ob.items) ∧ RdC w 1 (.slice K s.ob.keys.length k) (nums .i64 s.ob.keys) ∧ RdC w 1 (.slice LA s.list.length lc) (nums .i64 s.list)
theorem SdR.gr {w w' : World} {s : Sd} {v : Value} (h : SdR w s v) (hg : Gr w w') : SdR w' s v := by
  obtain ⟨A, c, K, k, LA, lc, h1, h2, h3, h4⟩ := h.ex
  exact ⟨A, c, K, k, LA, lc, h1, h2.gr hg, h3.gr hg, h4.gr hg⟩
theorem same_ok (w : World) (s : Sd) (x y : Value) (hx : SdR w s x) (hy : SdR w s y) (hi : s.ob.items.length ≤ 16777216) (hk : s.ob.keys.length ≤ 16777216) (hl : s.list.length ≤ 16777216) :
    Calls Tryz.prog 13 #[x, y] w fun e w' => e = .returned (.bool true) ∧ Gr w w' := by
  obtain ⟨A, c, K, k, LA, lc, rfl, hx1, hx2, hx3⟩ := hx.ex
  obtain ⟨B, d, M, m, LB, ld, rfl, hy1, hy2, hy3⟩ := hy.ex
  clear hx hy
  have hx1 := Fact.mk hx1
  have hx2 := Fact.mk hx2
  have hx3 := Fact.mk hx3
  have hy1 := Fact.mk hy1
  have hy2 := Fact.mk hy2
  have hy3 := Fact.mk hy3
  obtain ⟨⟨v1, v2⟩, n, trap, ok, ob, list⟩ := s
  simp only at hx1 hx2 hx3 hy1 hy2 hy3 hi hk hl
  go_enter Tryz.func13, Tryz.ntmps13
  go_upto_region 1 with (fail)
  obtain ⟨C, hC⟩ : ∃ C, C = sdC ⟨(v1, v2), n, trap, ok, ob, list⟩ A c K k LA lc := ⟨_, rfl⟩
  obtain ⟨D, hD⟩ : ∃ D, D = sdC ⟨(v1, v2), n, trap, ok, ob, list⟩ B d M m LB ld := ⟨_, rfl⟩
  rw [← hC, ← hD]
  have hm1 := ((Mem.start w).alloc (.cells C.toArray 43)).alloc (.cells D.toArray 43)
  simp only [World.size_alloc] at hm1
  generalize hgb : w.heap.size = g at hm1 ⊢
  generalize hw1 : (w.alloc (.cells C.toArray 43)).alloc (.cells D.toArray 43) = w1 at hm1
  try refine wp_world hw1 ?_
  clear hw1 hgb
  have hg1 := Fact.mk hm1.below
  have x0 := hm1.cell m1 0 (by rw [hC]; rfl : C[0]? = some (.int .i64 v1))
  have x1 := hm1.cell m1 1 (by rw [hC]; rfl : C[1]? = some (.int .i64 v2))
  have x2 := hm1.cell m1 2 (by rw [hC]; rfl : C[2]? = some (.int .i64 n))
  have x3 := hm1.cell m1 3 (by rw [hC]; rfl : C[3]? = some (.int .i64 trap))
  have x4 := hm1.cell m1 4 (by rw [hC]; rfl : C[4]? = some (.bool ok))
  have x11 := hm1.cell m1 11 (by rw [hC]; rfl : C[11]? = some (.slice LA list.length lc))
  have y0 := hm1.cell m0 0 (by rw [hD]; rfl : D[0]? = some (.int .i64 v1))
  have y1 := hm1.cell m0 1 (by rw [hD]; rfl : D[1]? = some (.int .i64 v2))
  have y2 := hm1.cell m0 2 (by rw [hD]; rfl : D[2]? = some (.int .i64 n))
  have y3 := hm1.cell m0 3 (by rw [hD]; rfl : D[3]? = some (.int .i64 trap))
  have y4 := hm1.cell m0 4 (by rw [hD]; rfl : D[4]? = some (.bool ok))
  have y11 := hm1.cell m0 11 (by rw [hD]; rfl : D[11]? = some (.slice LB list.length ld))
  have rx : w1.rangeAt g 5 (cRO ⟨A, c, K, k, ob⟩) := fun j u hu => hm1.cell m1 (5 + j) (by
    rw [hC]
    have : j < 6 := by
      rcases Nat.lt_or_ge j 6 with h | h
      · exact h
      · rw [List.getElem?_eq_none (by show 6 ≤ j; exact h)] at hu; cases hu
    obtain rfl | rfl | rfl | rfl | rfl | rfl : j = 0 ∨ j = 1 ∨ j = 2 ∨ j = 3 ∨ j = 4 ∨ j = 5 := by omega
    all_goals exact hu)
  have ry : w1.rangeAt (g + 1) 5 (cRO ⟨B, d, M, m, ob⟩) := fun j u hu => hm1.cell m0 (5 + j) (by
    rw [hD]
    have : j < 6 := by
      rcases Nat.lt_or_ge j 6 with h | h
      · exact h
      · rw [List.getElem?_eq_none (by show 6 ≤ j; exact h)] at hu; cases hu
    obtain rfl | rfl | rfl | rfl | rfl | rfl : j = 0 ∨ j = 1 ∨ j = 2 ∨ j = 3 ∨ j = 4 ∨ j = 5 := by omega
    all_goals exact hu)
  clear hC hD
  go_wp2_with (first | (refine wp_rng rfl 41 _ rfl g 5 rfl (cRO ⟨A, c, K, k, ob⟩) rx row_O sz_O ?_) | (refine wp_rng rfl 41 _ rfl (g + 1) 5 rfl (cRO ⟨B, d, M, m, ob⟩) ry row_O sz_O ?_))
  refine (sameObject_ok w1 ⟨A, c, K, k, ob⟩ ⟨B, d, M, m, ob⟩ ⟨hx1.out.gr hg1.out, hx2.out.gr hg1.out⟩ ⟨hy1.out.gr hg1.out, hy2.out.gr hg1.out⟩ rfl hi hk).mono ?_
  rintro e w2 ⟨rfl, hg2⟩
  have hg3 := Fact.mk (Gr.trans hg1.out hg2)
  replace x11 := hg2.cell x11
  replace y11 := hg2.cell y11
  clear hm1 rx ry x0 x1 x2 x3 x4 y0 y1 y2 y3 y4
  go_wp2_with fail
  refine (sameInts_q w2 LA LB list.length lc ld list ⟨hx3.out.gr hg3.out⟩ ⟨hy3.out.gr hg3.out⟩ hl).mono ?_
  rintro e w3 ⟨rfl, q, rfl⟩
  go_wp2_with fail
  go_ret
  exact ⟨rfl, Gr.drewN hg3.out q⟩
end Go.Proofs.YtpibchjkmaghnaaGreat
namespace Go.Proofs.YtpibchjkmaghnaaGreat
open Go.RowKit Go.Mm
set_option maxHeartbeats 4000000
set_option maxRecDepth 100000
set_option linter.unusedSimpArgs false
def RO.chunks (x : RO) : List Chunk := [Own 2 (.slice x.A x.ob.items.length x.c) (fV x.ob.items), Own 1 (.slice x.KA x.ob.keys.length x.kc) (nums .i64 x.ob.keys)]
def RoC (x : RO) : Chunk := Chunk.all x.chunks
theorem RoC.reads {x : RO} {w : World} (h : (RoC x).ok w) : x.reads w := ⟨(h.1 _ (.head _) : OwnAt _ _ _ w).rd, (h.1 _ (.tail _ (.head _)) : OwnAt _ _ _ w).rd⟩
structure Rf where
  g : Nat
  budget : Int
  spent : Int
  A : Option Addr
  c : Nat
  xs : List RO
def Rf.cells (r : Rf) : List Value := [.int .i64 r.budget, .int .i64 r.spent, .slice r.A r.xs.length r.c]
def Rf.chunks (r : Rf) : List Chunk := Blk r.g (.cells r.cells.toArray 51) :: Own 6 (.slice r.A r.xs.length r.c) (r.xs.flatMap cRO) :: r.xs.map RoC
def RfC (r : Rf) : Chunk := Chunk.all r.chunks
def Rf.abs (r : Rf) : Hs := ⟨r.budget, r.spent, r.xs.map (·.ob)⟩
structure Rf.Ok (r : Rf) : Prop where
  each : ∀ x, x ∈ r.xs → x.ob.items.length ≤ 1048576 ∧ x.ob.keys.length ≤ 1048576
  size : r.xs.length ≤ 16777216
  b0 : 0 ≤ r.budget
  b1 : r.budget ≤ 9223372036854775807
  s0 : 0 ≤ r.spent
  s1 : r.spent ≤ 9223372036854775807
def RfQ (w0 : World) (L : List Chunk) (g : Nat) (s : Hs) (w : World) : Prop := ∃ r : Rf, r.g = g ∧ r.abs = s ∧ r.Ok ∧ Mem w0 w (RfC r :: L)
theorem Hs.room_rng {s : Hs} {n : Int} (h : s.room n = true) : 0 ≤ n ∧ n ≤ s.budget - s.spent := by simpa [Hs.room] using h
theorem Rf.abs_len (r : Rf) : r.abs.objs.length = r.xs.length := by simp [Rf.abs]
theorem Rf.read {w0 w : World} {L : List Chunk} {r : Rf} (hm : Mem w0 w L) (hh : RfC r ∈ L) :
    w.cell? ⟨r.g, 0, none⟩ = some (.int .i64 r.budget) ∧ w.cell? ⟨r.g, 1, none⟩ = some (.int .i64 r.spent) ∧ w.cell? ⟨r.g, 2, none⟩ = some (.slice r.A r.xs.length r.c) ∧ ObsR w r.A r.xs.length r.c r.xs := by
  have ho := hm.ok _ hh
  have hb : w.heap[r.g]? = some (.cells r.cells.toArray 51 (0, 0)) := ho.1 _ (.head _)
  have hs : OwnAt 6 (.slice r.A r.xs.length r.c) (r.xs.flatMap cRO) w := ho.1 _ (.tail _ (.head _))
  refine ⟨by rw [cell_of_row w _ _ _ _ _ hb]; rfl, by rw [cell_of_row w _ _ _ _ _ hb]; rfl, by rw [cell_of_row w _ _ _ _ _ hb]; rfl, hs.rd, fun x hx => ?_⟩
  have ht : (RoC x).ok w := ho.1 _ (.tail _ (.tail _ (List.mem_map_of_mem hx)))
  exact RoC.reads ht
theorem refNew_ok (w0 w : World) (L : List Chunk) (hm : Mem w0 w L) (b s : Int) :
    Calls Tryz.prog 48 #[.int .i64 b, .int .i64 s] w fun e w' => ∃ g, e = .returned (.pointer (some ⟨g, 0, none⟩)) ∧ Mem w0 w' (RfC ⟨g, max b 0, max s 0, none, 0, []⟩ :: L) := by
  have key : ∀ X Y : Int, Mem w0 (w.alloc (.cells [.int .i64 X, .int .i64 Y, .slice none 0 0].toArray 51)) (RfC ⟨w.heap.size, X, Y, none, 0, []⟩ :: L) := fun X Y =>
    Mem.sht (Rf.chunks ⟨w.heap.size, X, Y, none, 0, []⟩) ((hm.nil 6 none).alloc _)
  by_cases hb : b < 0 <;> by_cases hs : s < 0
  all_goals
    go_enter Tryz.func48, Tryz.ntmps48
    go_wp2
    go_ret
    refine ⟨w.heap.size, rfl, ?_⟩
    (first | rw [show max b 0 = 0 by omega] | rw [show max b 0 = b by omega])
    (first | rw [show max s 0 = 0 by omega] | rw [show max s 0 = s by omega])
    exact key _ _
theorem refRoom_ok (w0 w : World) (L : List Chunk) (r : Rf) (hm : Mem w0 w L) (hh : RfC r ∈ L) (hok : Fact r.Ok) (n : Int) :
    Calls Tryz.prog 52 #[.pointer (some ⟨r.g, 0, none⟩), .int .i64 n] w fun e w' => e = .returned (.bool (r.abs.room n)) ∧ ∃ m, w' = w.drewN m := by
  obtain ⟨c0, c1, _, _⟩ := Rf.read hm hh
  have b0 := hok.out.b0
  have b1 := hok.out.b1
  have s0 := hok.out.s0
  have s1 := hok.out.s1
  have e1 : IntKind.i64.wrap (r.budget - r.spent) = r.budget - r.spent := IntWalk.i64_in _ (by omega)
  by_cases q0 : 0 ≤ n
  · have q0' : decide (n ≥ 0) = true := decide_eq_true q0
    by_cases q1 : r.spent ≤ r.budget
    · have q1' : decide (r.spent ≤ r.budget) = true := decide_eq_true q1
      have hr : r.abs.room n = decide (n ≤ r.budget - r.spent) := by unfold Hs.room; rw [decide_eq_true q0]; rfl
      rw [hr]
      clear hr
      go_enter Tryz.func52, Tryz.ntmps52
      go_upto_region 1 with (fail)
      go_quiet (fail)
      go_wp2
      go_ret
      exact ⟨rfl, _, rfl⟩
    · have q1' : decide (r.spent ≤ r.budget) = false := decide_eq_false q1
      have hr : r.abs.room n = false := by unfold Hs.room; rw [decide_eq_false (show ¬ n ≤ r.abs.budget - r.abs.spent by show ¬ n ≤ r.budget - r.spent; omega), Bool.and_false]
      rw [hr]
      clear hr
      go_enter Tryz.func52, Tryz.ntmps52
      go_upto_region 1 with (fail)
      go_quiet (fail)
      go_wp2
      go_ret
      exact ⟨rfl, _, rfl⟩
  · have q0' : decide (n ≥ 0) = false := decide_eq_false q0
    have hr : r.abs.room n = false := by unfold Hs.room; rw [decide_eq_false q0, Bool.false_and]
    rw [hr]
    clear hr
    go_enter Tryz.func52, Tryz.ntmps52
    go_upto_region 1 with (fail)
    go_quiet (fail)
    go_wp2
    go_ret
    exact ⟨rfl, _, rfl⟩
def Rf.pay (r : Rf) (n : Int) : Rf := { r with spent := r.spent + n }
theorem Rf.pay_ok {r : Rf} (hok : r.Ok) (n : Int) (hr : r.abs.room n = true) : (r.pay n).Ok := by
  have hr' : 0 ≤ n ∧ n ≤ r.budget - r.spent := Hs.room_rng hr
  have b1 := hok.b1
  have s0 := hok.s0
  exact ⟨hok.each, hok.size, hok.b0, hok.b1, by simp only [Rf.pay]; omega, by simp only [Rf.pay]; omega⟩
theorem refSpend_ok (w0 w : World) (L : List Chunk) (r : Rf) (hm : Mem w0 w (RfC r :: L)) (hok : Fact r.Ok) (n : Int) :
    Calls Tryz.prog 24 #[.pointer (some ⟨r.g, 0, none⟩), .int .i64 n] w fun e w' => e = .returned (.bool (r.abs.room n)) ∧ RfQ w0 L r.g (r.abs.spend n) w' := by
  unfold Hs.spend
  have hroom := refRoom_ok w0 w _ r hm m0 hok n
  cases hr : r.abs.room n with
  | false =>
    rw [hr] at hroom
    go_enter Tryz.func24, Tryz.ntmps24
    go_wp2_with fail
    refine hroom.mono ?_
    rintro e w1 ⟨rfl, m, rfl⟩
    go_wp2_with fail
    go_ret
    exact ⟨rfl, r, rfl, rfl, hok.out, hm.drewN m⟩
  | true =>
    have hok2 := Rf.pay_ok hok.out n hr
    have hr' : 0 ≤ n ∧ n ≤ r.budget - r.spent := Hs.room_rng hr
    have b1 := hok.out.b1
    have s0 := hok.out.s0
    have e2 : IntKind.i64.wrap (r.spent + n) = r.spent + n := IntWalk.i64_in _ (by omega)
    rw [hr] at hroom
    clear hr
    go_enter Tryz.func24, Tryz.ntmps24
    go_wp2_with fail
    refine hroom.mono ?_
    rintro e w1 ⟨rfl, m, rfl⟩
    have hm1 := hm.drewN m
    generalize w.drewN m = w1 at hm1 ⊢
    have hm2 : Mem w0 w1 (Blk r.g (.cells r.cells.toArray 51) :: (Own 6 (.slice r.A r.xs.length r.c) (r.xs.flatMap cRO) :: r.xs.map RoC ++ L)) := Mem.opn hm1
    have c1 := hm2.cell m0 1 rfl
    have f1 := hm2.free m0 1
    go_wp2
    go_ret
    have hm3 := hm2.set 1 (.int .i64 (r.spent + n))
    exact ⟨rfl, r.pay n, rfl, rfl, hok2, Mem.sht (Rf.chunks (r.pay n)) hm3⟩
theorem ty_Os : Tryz.prog.underlying 22 = some (.slice 41) := by kernel_rfl
theorem inf_O : (Tryz.prog.info? 41).map (fun i => (i.zero, i.size, i.bytes)) = some (some (.agg #[.int .i64 0, .slice none 0 0, .slice none 0 0, .int .i64 0, .int .i64 0, .bool false]), 6, 80) := by kernel_rfl
end Go.Proofs.YtpibchjkmaghnaaGreat
namespace Go.Mm
open Go.RowKit
theorem run_rng {P : Program} {o : Oper} {a : Act} {w : World} (ty : TypeId) (x : Operand) (ho : o.op = .load ty x) (b q : Nat) (hx : a.eval x = .pointer (some ⟨b, q, none⟩)) (cs : List Value)
    (hc : w.rangeAt b q cs) (hd : (P.underlying ty).map (·.isRow) = some true) (hi : (P.info? ty).map (·.size) = some cs.length) : (execOp a.eval o).run P w = .ok (.value (.agg cs.toArray)) w := by
  obtain ⟨d, hu, hr⟩ : ∃ d, P.underlying ty = some d ∧ d.isRow = true := by
    cases e : P.underlying ty with
    | none => rw [e] at hd; simp at hd
    | some d => rw [e] at hd; exact ⟨d, rfl, by simpa using hd⟩
  have hl := run_loadVar_mid (P := P) w b q ty cs d hc hu hr hi
  simp [execOp, ho, Instr.loadAt, hx, Instr.sureAddr, hl]
end Go.Mm
namespace Go.Proofs.YtpibchjkmaghnaaGreat
open Go.RowKit Go.Mm
set_option maxHeartbeats 4000000
set_option maxRecDepth 100000
set_option linter.unusedSimpArgs false
theorem sz_Os : (Tryz.prog.info? 22).map (·.size) = some 1 := by kernel_rfl
def Rf.put (r : Rf) (n : Int) (A : Option Addr) (c : Nat) (x : RO) : Rf := { r with spent := r.spent + n, A := A, c := c, xs := r.xs ++ [x] }
theorem Rf.put_abs (r : Rf) (n : Int) (A : Option Addr) (c : Nat) (x : RO) : (r.put n A c x).abs = ⟨r.budget, r.spent + n, r.xs.map (·.ob) ++ [x.ob]⟩ := by simp [Rf.put, Rf.abs]
theorem Rf.put_ok {r : Rf} (hok : r.Ok) (n : Int) (hr : r.abs.room n = true) (A : Option Addr) (c : Nat) (x : RO) (hx : x.ob.items.length ≤ 1048576 ∧ x.ob.keys.length ≤ 1048576) (hl : r.xs.length < 16777216) : (r.put n A c x).Ok := by
  have h1 := Rf.pay_ok hok n hr
  refine ⟨fun u hu => ?_, by simp only [Rf.put, List.length_append, List.length_cons, List.length_nil]; omega, h1.b0, h1.b1, h1.s0, h1.s1⟩
  simp only [Rf.put, List.mem_append, List.mem_cons, List.not_mem_nil, or_false] at hu
  rcases hu with hu | rfl
  · exact hok.each u hu
  · exact hx
theorem refMake_ok (w0 w : World) (L : List Chunk) (r : Rf) (x : RO) (hm : Mem w0 w (RfC r :: RoC x :: L)) (hok : Fact r.Ok) (may : Bool) (n : Int) (hx : x.ob.items.length ≤ 1048576 ∧ x.ob.keys.length ≤ 1048576) (hl : r.xs.length < 16777216) :
    Calls Tryz.prog 54 #[.pointer (some ⟨r.g, 0, none⟩), .bool may, .int .i64 n, .agg (cRO x).toArray] w fun e w' => e = .returned (r.abs.makeR may n x.ob.kind) ∧ RfQ w0 L r.g (r.abs.make may n x.ob) w' := by
  obtain ⟨iO, hiO, hz0, hz1, hz2⟩ := info_parts inf_O
  unfold Hs.makeR Hs.make
  have hx := Fact.mk hx
  have hroom := fun (w1 : World) (L1 : List Chunk) (hm1 : Mem w0 w1 L1) (hh : RfC r ∈ L1) => refRoom_ok w0 w1 L1 r hm1 hh hok n
  have hnoP : ∀ (w1 : World), Mem w0 w1 (RfC r :: L) → RfQ w0 L r.g r.abs w1 := fun w1 h1 => ⟨r, rfl, rfl, hok.out, h1⟩
  have hyes := fun hr A c => Rf.put_ok hok.out n hr A c x hx.out hl
  have hb : ∃ b, b = r.abs.room n := ⟨_, rfl⟩
  obtain ⟨b, hb⟩ := hb
  rw [← hb] at hroom hyes ⊢
  have hbr : b = true → 0 ≤ n ∧ n ≤ r.budget - r.spent := fun h => Hs.room_rng (hb.symm.trans h)
  clear hb
  have hlen : r.abs.objs.length = r.xs.length := r.abs_len
  rw [hlen]
  replace hroom := Fact.mk hroom
  replace hnoP := Fact.mk hnoP
  replace hyes := Fact.mk hyes
  cases may with
  | false =>
    rw [Bool.false_and]
    go_enter Tryz.func54, Tryz.ntmps54
    go_upto_region 1 with (fail)
    have hm1 := (hm.alloc (.cells (cRO x).toArray 41)).alloc (.cells [.int .i64 0, .int .i64 0].toArray 35)
    simp only [World.size_alloc] at hm1
    generalize hgb : w.heap.size = g at hm1 ⊢
    generalize hw1 : (w.alloc (.cells (cRO x).toArray 41)).alloc (.cells [.int .i64 0, .int .i64 0].toArray 35) = w1 at hm1
    try refine wp_world hw1 ?_
    clear hw1 hgb
    go_wp2_with (refine wp_setrow rfl 35 _ _ rfl (g + 1) rfl 35 _ [.int .i64 0, .int .i64 0] rfl hm1 sz_V rfl (cV_one (0, 0)) ?_; intro w2 hm2)
    refine bodyPost_ret (Mm.res_cell_tmp rfl _ (g + 1) 35 [.int .i64 0, .int .i64 0] (0, 0) rfl hm2 m0 row_V sz_V) rfl ⟨rfl, hnoP.out _ hm2.tail.tail.drop2⟩
  | true =>
    rw [Bool.true_and]
    cases b with
    | false =>
      go_enter Tryz.func54, Tryz.ntmps54
      go_upto_region 1 with (fail)
      have hm1 := (hm.alloc (.cells (cRO x).toArray 41)).alloc (.cells [.int .i64 0, .int .i64 0].toArray 35)
      simp only [World.size_alloc] at hm1
      generalize hgb : w.heap.size = g at hm1 ⊢
      generalize hw1 : (w.alloc (.cells (cRO x).toArray 41)).alloc (.cells [.int .i64 0, .int .i64 0].toArray 35) = w1 at hm1
      try refine wp_world hw1 ?_
      clear hw1 hgb
      go_wp2_with fail
      refine (hroom.out w1 _ hm1 m2).mono ?_
      rintro e w2 ⟨rfl, m, rfl⟩
      go_wp2_with (refine wp_setrow rfl 35 _ _ rfl (g + 1) rfl 35 _ [.int .i64 0, .int .i64 0] rfl (hm1.drewN m) sz_V rfl (cV_one (0, 0)) ?_; intro w2 hm2)
      refine bodyPost_ret (Mm.res_cell_tmp rfl _ (g + 1) 35 [.int .i64 0, .int .i64 0] (0, 0) rfl hm2 m0 row_V sz_V) rfl ⟨rfl, hnoP.out _ hm2.tail.tail.drop2⟩
    | true =>
      have hbr := hbr rfl
      have b1 := hok.out.b1
      have s0 := hok.out.s0
      have e2 : IntKind.i64.wrap (r.spent + n) = r.spent + n := IntWalk.i64_in _ (by omega)
      go_enter Tryz.func54, Tryz.ntmps54
      go_upto_region 1 with (fail)
      have hm1 := (hm.alloc (.cells (cRO x).toArray 41)).alloc (.cells [.int .i64 0, .int .i64 0].toArray 35)
      simp only [World.size_alloc] at hm1
      generalize hgb : w.heap.size = g at hm1 ⊢
      generalize hw1 : (w.alloc (.cells (cRO x).toArray 41)).alloc (.cells [.int .i64 0, .int .i64 0].toArray 35) = w1 at hm1
      try refine wp_world hw1 ?_
      clear hw1 hgb hm
      go_wp2_with fail
      refine (hroom.out w1 _ hm1 m2).mono ?_
      rintro e w2 ⟨rfl, m, rfl⟩
      have hm2 := (hm1.drewN m).pull2
      clear hm1
      generalize w1.drewN m = w2 at hm2 ⊢
      have hm3 : Mem w0 w2 (Blk r.g (.cells r.cells.toArray 51) :: (Own 6 (.slice r.A r.xs.length r.c) (r.xs.flatMap cRO) :: r.xs.map RoC ++ (Blk (g + 1) (.cells [.int .i64 0, .int .i64 0].toArray 35) :: Blk g (.cells (cRO x).toArray 41) :: RoC x :: L))) := Mem.opn hm2
      have hp : ∀ (a b u v z : Chunk) (M : List Chunk), (a :: (b :: r.xs.map RoC ++ (u :: v :: z :: M))).Perm (a :: b :: u :: v :: (r.xs.map RoC ++ z :: M)) := fun a b u v z M => by
        refine List.Perm.cons a (List.Perm.cons b ?_)
        exact (List.perm_middle).trans (List.Perm.cons u List.perm_middle)
      have hm4 := hm3.perm (hp _ _ _ _ _ _)
      clear hm2 hm3 hp
      have c1 := hm4.cell m0 1 rfl
      go_upto_region 4 with (refine wp_setat rfl 3 _ _ rfl r.g 1 rfl 51 _ [.int .i64 (r.spent + n)] (Rf.pay r n).cells (.int .i64 (r.spent + n)) rfl rfl hm4 sz_int (by simp [Rf.cells]) (one_one rfl) rfl ?_; intro w3 hm5)
      clear c1 hm4
      have hm6 := hm5.drew
      have hS : w3.drew.cell? ⟨r.g, 2, none⟩ = some (.slice r.A r.xs.length r.c) ∧ w3.drew.rangeAt g 0 (cRO x) := ⟨hm6.cell m0 2 rfl, rng_blk hm6 m3⟩
      clear hm5
      refine wp_region_until (S := fun W => W.cell? ⟨r.g, 2, none⟩ = some (.slice r.A r.xs.length r.c) ∧ W.rangeAt g 0 (cRO x)) 8 (by kernel_rfl) ?_
      generalize w3.drew = w4 at hm6 hS ⊢
      refine wpAnyU_take 0 (v := ?vsa0) rfl (by kernel_rfl) (by kernel_rfl) (fun _ _ _ h => h) hS (Or.inl ⟨rfl, ?ysa0⟩) ?rsa0
      case ysa0 =>
        intro W hW
        obtain ⟨hW0, hW1⟩ := hW
        go_simp
        try with_reducible rfl
      try simp only [Act.put, List.getElem_toArray, List.getElem_cons_succ, List.getElem_cons_zero, List.setIfInBounds_toArray, List.set_cons_zero, List.set_cons_succ]
      refine wpAnyU_take 1 (v := ?vsa1) rfl (by kernel_rfl) (by kernel_rfl) (fun _ _ _ h => h) hS (Or.inl ⟨rfl, ?ysa1⟩) ?rsa1
      case ysa1 =>
        intro W hW
        obtain ⟨hW0, hW1⟩ := hW
        go_simp
        try with_reducible rfl
      try simp only [Act.put, List.getElem_toArray, List.getElem_cons_succ, List.getElem_cons_zero, List.setIfInBounds_toArray, List.set_cons_zero, List.set_cons_succ]
      refine wpAnyU_take 2 (v := ?vsa2) rfl (by kernel_rfl) (by kernel_rfl) (fun _ _ _ h => h) hS (Or.inl ⟨rfl, ?ysa2⟩) ?rsa2
      case ysa2 =>
        intro W hW
        obtain ⟨hW0, hW1⟩ := hW
        go_simp
        try with_reducible rfl
      try simp only [Act.put, List.getElem_toArray, List.getElem_cons_succ, List.getElem_cons_zero, List.setIfInBounds_toArray, List.set_cons_zero, List.set_cons_succ]
      refine wpAnyU_take 3 (v := ?vsa3) rfl (by kernel_rfl) (by kernel_rfl) (fun _ _ _ h => h) hS (Or.inl ⟨rfl, ?ysa3⟩) ?rsa3
      case ysa3 =>
        intro W hW
        obtain ⟨hW0, hW1⟩ := hW
        go_simp
        try with_reducible rfl
      try simp only [Act.put, List.getElem_toArray, List.getElem_cons_succ, List.getElem_cons_zero, List.setIfInBounds_toArray, List.set_cons_zero, List.set_cons_succ]
      refine wpAnyU_take 4 (v := ?vsa4) rfl (by kernel_rfl) (by kernel_rfl) (fun _ _ _ h => h) hS (Or.inl ⟨rfl, ?ysa4⟩) ?rsa4
      case ysa4 =>
        intro W hW
        obtain ⟨hW0, hW1⟩ := hW
        go_simp
        try with_reducible rfl
      try simp only [Act.put, List.getElem_toArray, List.getElem_cons_succ, List.getElem_cons_zero, List.setIfInBounds_toArray, List.set_cons_zero, List.set_cons_succ]
      refine wpAnyU_take 5 (v := .agg (cRO x).toArray) rfl (by kernel_rfl) (by kernel_rfl) (fun _ _ _ h => h) hS (Or.inl ⟨rfl, ?yz5⟩) ?rz5
      case yz5 =>
        intro W hW
        exact run_rng 41 _ rfl g 0 rfl (cRO x) hW.2 row_O sz_O
      try simp only [Act.put, List.getElem_toArray, List.getElem_cons_succ, List.getElem_cons_zero, List.setIfInBounds_toArray, List.set_cons_zero, List.set_cons_succ]
      refine wpAnyU_one 6 (by kernel_rfl) rfl (fun K hK => ?_)
      go_simp
      have hm7 := hm6.alloc (.cells (cRO x).toArray 41)
      refine hK _ _ (fun _ => ⟨hm7.cell m1 2 rfl, rng_blk hm7 m4⟩) ?_
      clear hK K
      try simp only [Act.put, List.getElem_toArray, List.getElem_cons_succ, List.getElem_cons_zero, List.setIfInBounds_toArray, List.set_cons_zero, List.set_cons_succ]
      refine wpAnyU_one 7 (by kernel_rfl) rfl (fun K hK => ?_)
      refine step_app rfl _ _ _ rfl 41 iO _ 6 80 ty_Os hiO hz0 hz1 hz2 rfl r.A r.xs.length r.c _ rfl hm7.pull2 _ 1 1 (cRO x) rfl (RdC.lit _ _ _ _ _ rfl (by simp [maxLen]) (cRO_one x)) (by unfold maxLen; omega) (by omega) ?_
      intro A1 c3 w6 HM1
      have HM2 := HM1.back2.tail
      clear hm7 HM1
      refine hK _ _ (fun _ => ⟨HM2.cell m0 2 rfl, rng_blk HM2 m3⟩) ?_
      clear hK K
      have c2 := HM2.cell m0 2 rfl
      have f2 := HM2.free m0 2
      try simp only [Act.put, List.getElem_toArray, List.getElem_cons_succ, List.getElem_cons_zero, List.setIfInBounds_toArray, List.set_cons_zero, List.set_cons_succ]
      refine wpAnyU_one 8 (by kernel_rfl) rfl (fun K hK => ?_)
      go_simp
      refine hK _ _ (fun h => absurd h (by decide)) ?_
      clear hK K
      try simp only [Act.put, List.getElem_toArray, List.getElem_cons_succ, List.getElem_cons_zero, List.setIfInBounds_toArray, List.set_cons_zero, List.set_cons_succ]
      refine wpAnyU_one 9 (by kernel_rfl) rfl (fun K hK => ?_)
      go_simp
      refine hK _ _ (fun h => absurd h (by decide)) ?_
      clear hK K
      try simp only [Act.put, List.getElem_toArray, List.getElem_cons_succ, List.getElem_cons_zero, List.setIfInBounds_toArray, List.set_cons_zero, List.set_cons_succ]
      refine wpAnyU_one 10 (by kernel_rfl) rfl (fun K hK => ?_)
      refine step_setat rfl 22 _ _ rfl r.g 2 rfl 51 _ [.slice A1 (r.xs.length + 1) c3] [.int .i64 r.budget, .int .i64 (r.spent + n), .slice A1 (r.xs.length + 1) c3] (.slice A1 (r.xs.length + 1) c3) rfl rfl HM2 sz_Os (by simp [Rf.cells]) (one_one rfl) rfl ?_
      intro w7 HM3
      refine hK _ _ (fun h => absurd h (by decide)) ?_
      clear hK K c2 f2 HM2 hS hm6
      try simp only [Act.put, List.getElem_toArray, List.getElem_cons_succ, List.getElem_cons_zero, List.setIfInBounds_toArray, List.set_cons_zero, List.set_cons_succ]
      refine wpAnyU_done (by kernel_rfl) ?_ _
      go_upto_region 5 with (fail)
      have hm8 := HM3.drew
      have z0 := hm8.cell m3 0 rfl
      have z2 := hm8.cell m0 2 rfl
      have e4 : IntKind.i64.wrap (r.xs.length : Int) = r.xs.length := IntWalk.i64_in _ (by omega)
      refine wp_region_still_tail 9 (by kernel_rfl) (by kernel_rfl) ?_
      simp only [List.take_succ_cons, List.take_zero, List.drop_succ_cons, List.drop_zero]
      repeat still_step
      refine wpStill_nil ?_
      go_wp2_with (refine wp_setrow rfl 35 _ _ rfl (g + 1) rfl 35 _ [.int .i64 x.ob.kind, .int .i64 r.xs.length] rfl hm8.pull2 sz_V rfl (cV_one (x.ob.kind, (r.xs.length : Int))) ?_; intro w9 hm9)
      refine bodyPost_ret (Mm.res_cell_tmp rfl _ (g + 1) 35 [.int .i64 x.ob.kind, .int .i64 r.xs.length] (0, 0) rfl hm9 m0 row_V sz_V) rfl ⟨rfl, r.put n A1 c3 x, rfl, Rf.put_abs r n A1 c3 x, hyes.out (by first | trivial | rfl) A1 c3, ?_⟩
      have hm10 := hm9.tail.sub (List.Sublist.cons_cons _ (List.Sublist.cons_cons _ (List.sublist_cons_self _ _)))
      refine Mem.sht (Rf.put r n A1 c3 x).chunks ?_
      have e : r.xs.map RoC ++ RoC x :: L = (r.xs ++ [x]).map RoC ++ L := by simp
      rw [e] at hm10
      have e2 : r.xs.flatMap cRO ++ cRO x = (r.xs ++ [x]).flatMap cRO := by simp
      rw [e2] at hm10
      simpa [Rf.chunks, Rf.cells, Rf.put] using hm10
end Go.Proofs.YtpibchjkmaghnaaGreat
namespace Go.Proofs.YtpibchjkmaghnaaGreat
open Go.RowKit Go.Mm
set_option maxHeartbeats 1000000
set_option maxRecDepth 100000
set_option linter.unusedSimpArgs false
theorem take_snoc' (xs : List Int) (k : Nat) (h : k < xs.length) : xs.take (k + 1) = xs.take k ++ [xs.getD k 0] := by
  rw [List.take_succ_eq_append_getElem h]; simp [h]
theorem copyLongs_ok (w : World) (A : Option Addr) (n c : Nat) (xs : List Int) (hx : Fact (RdC w 1 (.slice A n c) (nums .i64 xs))) (hn : n ≤ 16777216) :
    Calls Tryz.prog 21 #[.slice A n c] w fun e w' => ∃ A' c', e = .returned (.slice A' n c') ∧ New w w' (Own 1 (.slice A' n c') (nums .i64 xs)) := by
  obtain ⟨iV, hi, hz0, hz1, hz2⟩ := info_parts inf_I
  have hl := Fact.mk hx.out.nlen
  go_enter Tryz.func21, Tryz.ntmps21
  go_wp2
  go_loopw [3, 4] (fun l v w' => ∃ (k : Nat) (A' : Option Addr) (c' : Nat), v = .int .i64 k ∧ k ≤ n ∧ l = .slice A' k c' ∧ Mem w w' [Own 1 (.slice A' k c') (nums .i64 (xs.take k))]) (fun _ v _ => n - (intOf v).toNat)
  case atStart => exact ⟨0, none, 0, rfl, by omega, rfl, (Mem.start w).nil 1 none⟩
  case round =>
    obtain ⟨k, A', c', rfl, hk, rfl, hm⟩ := hrel
    by_cases hlt : k < n
    · obtain ⟨b, o, rfl, g1, _⟩ := hx.out.num k hlt
      have g1 := Gr.cell hm.below g1
      have ht := Fact.mk (take_snoc' xs k (by have := hl.out; omega))
      generalize xs.getD k 0 = x at g1 ht
      go_wp2_with (at_builtin; refine wp_app rfl _ _ _ rfl 2 iV _ 1 8 ty_Is hi hz0 hz1 hz2 rfl A' k c' _ rfl (L := [Blk _ _]) (hm.alloc _).swap _ 1 1 [.int .i64 x] rfl (RdC.lit _ _ _ _ _ rfl (by simp [maxLen]) (One.nums .i64 [x])) (by unfold maxLen; omega) (by omega) ?_; intro A1 c1 w1 HM1)
      go_roundw
      case rel => exact ⟨k + 1, A1, c1, by go_num, by omega, rfl, by rw [ht.out, nums_append]; exact HM1.only⟩
      case measure => simp [intOf]; omega
    · obtain rfl : k = n := by omega
      rw [List.take_of_length_le (by have := hl.out; omega)] at hm
      go_wp2
      go_ret
      exact ⟨A', c', rfl, hm.new_of⟩
end Go.Proofs.YtpibchjkmaghnaaGreat
namespace Go.Proofs.YtpibchjkmaghnaaGreat
open Go.RowKit Go.Mm
set_option maxHeartbeats 4000000
set_option maxRecDepth 100000
set_option linter.unusedSimpArgs false
theorem sz_Vs : (Tryz.prog.info? 36).map (·.size) = some 1 := by kernel_rfl
theorem sz_Is : (Tryz.prog.info? 39).map (·.size) = some 1 := by kernel_rfl
theorem roC_mem {w0 w : World} {L : List Chunk} (x : RO) (hm : Mem w0 w (Own 2 (.slice x.A x.ob.items.length x.c) (fV x.ob.items) :: Own 1 (.slice x.KA x.ob.keys.length x.kc) (nums .i64 x.ob.keys) :: L)) : Mem w0 w (RoC x :: L) := Mem.sht x.chunks hm
theorem copyObject_ok (w0 w : World) (L : List Chunk) (hm : Mem w0 w L) (x : RO) (hx : Fact (x.reads w)) (hi : x.ob.items.length ≤ 1048576) (hkl : x.ob.keys.length ≤ 1048576) :
    Calls Tryz.prog 44 #[.agg (cRO x).toArray] w fun e w' => ∃ y : RO, e = .returned (.agg (cRO y).toArray) ∧ y.ob = x.ob ∧ Mem w0 w' (RoC y :: L) := by
  obtain ⟨A, c, KA, kc, ⟨k, items, keys, fn, cap, sh⟩⟩ := x
  simp only at hi hkl
  have key : ∀ (w' : World) (y : RO), Mem w w' [RoC y] → Mem w0 w' (RoC y :: L) := fun w' y h => hm.join h
  replace key := Fact.mk key
  clear hm
  go_enter Tryz.func44, Tryz.ntmps44
  go_upto_region 1 with (fail)
  have hm1 := ((Mem.start w).alloc (.cells (cRO ⟨A, c, KA, kc, ⟨k, items, keys, fn, cap, sh⟩⟩).toArray 41)).alloc (.cells (obC 0 none 0 0 none 0 0 0 0 false).toArray 41)
  simp only [World.size_alloc] at hm1
  generalize hgb : w.heap.size = g at hm1 ⊢
  generalize hw1 : (w.alloc (.cells (cRO ⟨A, c, KA, kc, ⟨k, items, keys, fn, cap, sh⟩⟩).toArray 41)).alloc (.cells (obC 0 none 0 0 none 0 0 0 0 false).toArray 41) = w1 at hm1
  try refine wp_world hw1 ?_
  clear hw1 hgb
  go_upto_region 2 with (first | (refine wp_rng rfl 41 _ rfl g 0 rfl (cRO ⟨A, c, KA, kc, ⟨k, items, keys, fn, cap, sh⟩⟩) (rng_blk hm1 m1) row_O sz_O ?_) | (refine wp_setrow rfl 41 _ _ rfl w1.heap.size rfl 41 _ (cRO ⟨A, c, KA, kc, ⟨k, items, keys, fn, cap, sh⟩⟩) rfl (hm1.alloc _) sz_O rfl (cRO_one _) ?_; intro w2 hm2))
  generalize w1.heap.size = g3 at hm2 ⊢
  have x1 := hm2.cell m2 1 rfl
  clear hm1
  go_wp2_with fail
  refine (copyValues_ok w2 A items.length c items ⟨hx.out.1.gr hm2.below⟩ (by omega)).mono ?_
  rintro e w3 ⟨A3, c3, rfl, hn3⟩
  have hm3 := (hm2.new hn3).swap
  clear hm2 hn3 x1
  go_upto_region 3 with (refine wp_setat rfl 36 _ _ rfl g3 1 rfl 41 _ [.slice A3 items.length c3] (cRO ⟨A3, c3, KA, kc, ⟨k, items, keys, fn, cap, sh⟩⟩) (.slice A3 items.length c3) rfl rfl hm3 sz_Vs (by simp [cRO, obC]) (one_one rfl) rfl ?_; intro w4 hm4)
  clear hm3
  have x2 := hm4.cell m3 2 rfl
  go_wp2_with fail
  refine (copyLongs_ok w4 KA keys.length kc keys ⟨hx.out.2.gr hm4.below⟩ (by omega)).mono ?_
  rintro e w5 ⟨A5, c5, rfl, hn5⟩
  have hm5 := (hm4.new hn5).swap
  clear hm4 hn5 x2
  go_wp2_with (first | (refine wp_setat rfl 39 _ _ rfl g3 2 rfl 41 _ [.slice A5 keys.length c5] (cRO ⟨A3, c3, A5, c5, ⟨k, items, keys, fn, cap, sh⟩⟩) (.slice A5 keys.length c5) rfl rfl hm5 sz_Is (by simp [cRO, obC]) (one_one rfl) rfl ?_; intro w6 hm6) | (refine wp_rng rfl 41 _ rfl g3 0 rfl (cRO ⟨A3, c3, A5, c5, ⟨k, items, keys, fn, cap, sh⟩⟩) (rng_blk hm6 m0) row_O sz_O ?_) | (refine wp_setrow rfl 41 _ _ rfl (g + 1) rfl 41 _ (cRO ⟨A3, c3, A5, c5, ⟨k, items, keys, fn, cap, sh⟩⟩) rfl hm6.pull3 sz_O rfl (cRO_one _) ?_; intro w7 hm7))
  have hz := (hm7.tail.tail.swap).sub (List.Sublist.cons_cons _ (List.Sublist.cons_cons _ (List.sublist_cons_self _ _)))
  refine bodyPost_ret (Mm.res_cell rfl _ (g + 1) 41 (cRO ⟨A3, c3, A5, c5, ⟨k, items, keys, fn, cap, sh⟩⟩) (0, 0) rfl hm7 m0 row_O sz_O) rfl ⟨_, rfl, rfl, key.out w7 _ (roC_mem ⟨A3, c3, A5, c5, ⟨k, items, keys, fn, cap, sh⟩⟩ hz)⟩
theorem refRecord_ok (w0 w : World) (L : List Chunk) (r : Rf) (hm : Mem w0 w (RfC r :: L)) (hok : Fact r.Ok) (hl : r.xs.length < 16777216) :
    Calls Tryz.prog 27 #[.pointer (some ⟨r.g, 0, none⟩)] w fun e w' => e = .returned (r.abs.makeR true 2 7) ∧ RfQ w0 L r.g (r.abs.make true 2 ⟨7, [], [], 0, 0, false⟩) w' := by
  go_enter Tryz.func27, Tryz.ntmps27
  go_upto_region 1 with (fail)
  have hm1 := hm.alloc (.cells [.int .i64 0, .int .i64 0].toArray 35)
  have hg1 := (Gr.refl w).alloc (.cells [.int .i64 0, .int .i64 0].toArray 35)
  generalize hgb : w.heap.size = g at hm1 ⊢
  generalize hw1 : w.alloc (.cells [.int .i64 0, .int .i64 0].toArray 35) = w1 at hm1 hg1
  try refine wp_world hw1 ?_
  clear hw1 hgb hm
  go_wp2_with fail
  have hm2 := (roC_mem (⟨none, 0, none, 0, ⟨7, [], [], 0, 0, false⟩⟩ : RO) (Mem.nil (Mem.nil hm1 1 none) 2 none)).pull2
  refine (refMake_ok w0 w1 _ r (⟨none, 0, none, 0, ⟨7, [], [], 0, 0, false⟩⟩ : RO) hm2 hok (true) (2) ⟨by simp, by simp⟩ hl).mono ?_
  rintro e w8 ⟨rfl, r', hg', ha', hok', hm8⟩
  obtain ⟨a, b, t, hr⟩ := makeR_spell r.abs (true) (2) 7
  rw [show (⟨none, 0, none, 0, ⟨7, [], [], 0, 0, false⟩⟩ : RO).ob.kind = 7 from rfl, hr]
  go_wp2_with (refine wp_setrow rfl 35 _ _ rfl g rfl 35 _ [.int .i64 a, .int .i64 b] rfl hm8.swap sz_V rfl (cV_one (a, b)) ?_; intro w9 hm9)
  refine bodyPost_ret (Mm.res_cell_tmp rfl _ g 35 [.int .i64 a, .int .i64 b] (0, 0) rfl hm9 m0 row_V sz_V) rfl ⟨?_, r', hg', ?_, hok', hm9.tail⟩
  · exact congrArg Ending.returned (hr.symm.trans (by rfl))
  · exact ha'.trans (by rfl)
theorem refChan_ok (w0 w : World) (L : List Chunk) (r : Rf) (hm : Mem w0 w (RfC r :: L)) (hok : Fact r.Ok) (n : Int) (hl : r.xs.length < 16777216) :
    Calls Tryz.prog 29 #[.pointer (some ⟨r.g, 0, none⟩), .int .i64 n] w fun e w' => e = .returned (r.abs.makeR (decide (1 ≤ n) && decide (n ≤ 64)) (2 + n) 9) ∧ RfQ w0 L r.g (r.abs.make (decide (1 ≤ n) && decide (n ≤ 64)) (2 + n) ⟨9, [], [], 0, n, false⟩) w' := by
  by_cases q0 : n < 1
  · rw [decide_eq_false (show ¬ 1 ≤ n by omega), Bool.false_and]
    have q0' : decide (n ≥ 1) = false := decide_eq_false (by omega)
    go_enter Tryz.func29, Tryz.ntmps29
    go_upto_region 1 with (fail)
    have hm1 := hm.alloc (.cells [.int .i64 0, .int .i64 0].toArray 35)
    have hg1 := (Gr.refl w).alloc (.cells [.int .i64 0, .int .i64 0].toArray 35)
    generalize hgb : w.heap.size = g at hm1 ⊢
    generalize hw1 : w.alloc (.cells [.int .i64 0, .int .i64 0].toArray 35) = w1 at hm1 hg1
    try refine wp_world hw1 ?_
    clear hw1 hgb hm
    go_wp2_with fail
    have hm2 := (roC_mem (⟨none, 0, none, 0, ⟨9, [], [], 0, n, false⟩⟩ : RO) (Mem.nil (Mem.nil hm1 1 none) 2 none)).pull2
    refine (refMake_ok w0 w1 _ r (⟨none, 0, none, 0, ⟨9, [], [], 0, n, false⟩⟩ : RO) hm2 hok (false) (2) ⟨by simp, by simp⟩ hl).mono ?_
    rintro e w8 ⟨rfl, r', hg', ha', hok', hm8⟩
    obtain ⟨a, b, t, hr⟩ := makeR_spell r.abs (false) (2) 9
    rw [show (⟨none, 0, none, 0, ⟨9, [], [], 0, n, false⟩⟩ : RO).ob.kind = 9 from rfl, hr]
    go_wp2_with (refine wp_setrow rfl 35 _ _ rfl g rfl 35 _ [.int .i64 a, .int .i64 b] rfl hm8.swap sz_V rfl (cV_one (a, b)) ?_; intro w9 hm9)
    refine bodyPost_ret (Mm.res_cell_tmp rfl _ g 35 [.int .i64 a, .int .i64 b] (0, 0) rfl hm9 m0 row_V sz_V) rfl ⟨?_, r', hg', ?_, hok', hm9.tail⟩
    · exact congrArg Ending.returned (hr.symm.trans (by simp [Hs.makeR]))
    · exact ha'.trans (by simp [Hs.make])
  by_cases q1 : n ≤ 64
  · rw [decide_eq_true (show 1 ≤ n by omega), decide_eq_true q1, Bool.true_and]
    have e1 : IntKind.i64.wrap (2 + n) = 2 + n := IntWalk.i64_in _ (by omega)
    have q0' : decide (n ≥ 1) = true := decide_eq_true (by omega)
    have q1' : decide (n ≤ 64) = true := decide_eq_true q1
    go_enter Tryz.func29, Tryz.ntmps29
    go_upto_region 1 with (fail)
    have hm1 := hm.alloc (.cells [.int .i64 0, .int .i64 0].toArray 35)
    have hg1 := (Gr.refl w).alloc (.cells [.int .i64 0, .int .i64 0].toArray 35)
    generalize hgb : w.heap.size = g at hm1 ⊢
    generalize hw1 : w.alloc (.cells [.int .i64 0, .int .i64 0].toArray 35) = w1 at hm1 hg1
    try refine wp_world hw1 ?_
    clear hw1 hgb hm
    go_wp2_with fail
    have hm2 := (roC_mem (⟨none, 0, none, 0, ⟨9, [], [], 0, n, false⟩⟩ : RO) (Mem.nil (Mem.nil hm1 1 none) 2 none)).pull2
    refine (refMake_ok w0 w1 _ r (⟨none, 0, none, 0, ⟨9, [], [], 0, n, false⟩⟩ : RO) hm2 hok (true) (2 + n) ⟨by simp, by simp⟩ hl).mono ?_
    rintro e w8 ⟨rfl, r', hg', ha', hok', hm8⟩
    obtain ⟨a, b, t, hr⟩ := makeR_spell r.abs (true) (2 + n) 9
    rw [show (⟨none, 0, none, 0, ⟨9, [], [], 0, n, false⟩⟩ : RO).ob.kind = 9 from rfl, hr]
    go_wp2_with (refine wp_setrow rfl 35 _ _ rfl g rfl 35 _ [.int .i64 a, .int .i64 b] rfl hm8.swap sz_V rfl (cV_one (a, b)) ?_; intro w9 hm9)
    refine bodyPost_ret (Mm.res_cell_tmp rfl _ g 35 [.int .i64 a, .int .i64 b] (0, 0) rfl hm9 m0 row_V sz_V) rfl ⟨?_, r', hg', ?_, hok', hm9.tail⟩
    · exact congrArg Ending.returned (hr.symm.trans (by rfl))
    · exact ha'.trans (by rfl)
  · rw [decide_eq_true (show 1 ≤ n by omega), decide_eq_false q1, Bool.true_and]
    have q0' : decide (n ≥ 1) = true := decide_eq_true (by omega)
    have q1' : decide (n ≤ 64) = false := decide_eq_false q1
    go_enter Tryz.func29, Tryz.ntmps29
    go_upto_region 1 with (fail)
    have hm1 := hm.alloc (.cells [.int .i64 0, .int .i64 0].toArray 35)
    have hg1 := (Gr.refl w).alloc (.cells [.int .i64 0, .int .i64 0].toArray 35)
    generalize hgb : w.heap.size = g at hm1 ⊢
    generalize hw1 : w.alloc (.cells [.int .i64 0, .int .i64 0].toArray 35) = w1 at hm1 hg1
    try refine wp_world hw1 ?_
    clear hw1 hgb hm
    go_wp2_with fail
    have hm2 := (roC_mem (⟨none, 0, none, 0, ⟨9, [], [], 0, n, false⟩⟩ : RO) (Mem.nil (Mem.nil hm1 1 none) 2 none)).pull2
    refine (refMake_ok w0 w1 _ r (⟨none, 0, none, 0, ⟨9, [], [], 0, n, false⟩⟩ : RO) hm2 hok (false) (2) ⟨by simp, by simp⟩ hl).mono ?_
    rintro e w8 ⟨rfl, r', hg', ha', hok', hm8⟩
    obtain ⟨a, b, t, hr⟩ := makeR_spell r.abs (false) (2) 9
    rw [show (⟨none, 0, none, 0, ⟨9, [], [], 0, n, false⟩⟩ : RO).ob.kind = 9 from rfl, hr]
    go_wp2_with (refine wp_setrow rfl 35 _ _ rfl g rfl 35 _ [.int .i64 a, .int .i64 b] rfl hm8.swap sz_V rfl (cV_one (a, b)) ?_; intro w9 hm9)
    refine bodyPost_ret (Mm.res_cell_tmp rfl _ g 35 [.int .i64 a, .int .i64 b] (0, 0) rfl hm9 m0 row_V sz_V) rfl ⟨?_, r', hg', ?_, hok', hm9.tail⟩
    · exact congrArg Ending.returned (hr.symm.trans (by simp [Hs.makeR]))
    · exact ha'.trans (by simp [Hs.make])
theorem refArray_ok (w0 w : World) (L : List Chunk) (r : Rf) (hm : Mem w0 w (RfC r :: L)) (hok : Fact r.Ok) (A : Option Addr) (n c : Nat) (xs : List V2) (hx : Fact (RdC w 2 (.slice A n c) (fV xs))) (hn : n ≤ 1048576) (hl : r.xs.length < 16777216) :
    Calls Tryz.prog 26 #[.pointer (some ⟨r.g, 0, none⟩), .slice A n c] w fun e w' => e = .returned (r.abs.makeR (decide (n ≤ 4096)) (2 + n) 6) ∧ RfQ w0 L r.g (r.abs.make (decide (n ≤ 4096)) (2 + n) ⟨6, xs, [], 0, 0, false⟩) w' := by
  obtain rfl : xs.length = n := rdV_len hx.out
  have e1 : IntKind.i64.wrap (2 + (xs.length : Int)) = 2 + xs.length := IntWalk.i64_in _ (by omega)
  · skip
    have hd : decide ((xs.length : Int) ≤ 4096) = decide (xs.length ≤ 4096) := decide_eq_decide.2 (by omega)
    rw [← hd]
    clear hd
    go_enter Tryz.func26, Tryz.ntmps26
    go_upto_region 1 with (fail)
    have hm1 := hm.alloc (.cells [.int .i64 0, .int .i64 0].toArray 35)
    have hg1 := (Gr.refl w).alloc (.cells [.int .i64 0, .int .i64 0].toArray 35)
    generalize hgb : w.heap.size = g at hm1 ⊢
    generalize hw1 : w.alloc (.cells [.int .i64 0, .int .i64 0].toArray 35) = w1 at hm1 hg1
    try refine wp_world hw1 ?_
    clear hw1 hgb hm
    go_wp2_with fail
    refine (copyValues_ok w1 A xs.length c xs ⟨hx.out.gr hg1⟩ (by omega)).mono ?_
    rintro e w2 ⟨A3, c3, rfl, hn2⟩
    have hm2 := hm1.new hn2
    clear hm1 hn2
    go_wp2_with (first | (refine wp_setrow rfl 41 _ _ rfl w2.heap.size rfl 41 _ (cRO (⟨A3, c3, none, 0, ⟨6, xs, [], 0, 0, false⟩⟩ : RO)) rfl (hm2.alloc _) sz_O rfl (cRO_one _) ?_; intro w3 hm3) | (refine wp_rng rfl 41 _ rfl w2.heap.size 0 rfl (cRO (⟨A3, c3, none, 0, ⟨6, xs, [], 0, 0, false⟩⟩ : RO)) (rng_blk hm3 m0) row_O sz_O ?_))
    have hm4 := (roC_mem (⟨A3, c3, none, 0, ⟨6, xs, [], 0, 0, false⟩⟩ : RO) (Mem.nil hm3.tail 1 none).swap).pull2
    refine (refMake_ok w0 w3 _ r (⟨A3, c3, none, 0, ⟨6, xs, [], 0, 0, false⟩⟩ : RO) hm4 hok (decide ((xs.length : Int) ≤ 4096)) (2 + (xs.length : Int)) ⟨hn, by simp⟩ hl).mono ?_
    rintro e w8 ⟨rfl, r', hg', ha', hok', hm8⟩
    obtain ⟨a, b, t, hr⟩ := makeR_spell r.abs (decide ((xs.length : Int) ≤ 4096)) (2 + (xs.length : Int)) 6
    rw [show (⟨A3, c3, none, 0, ⟨6, xs, [], 0, 0, false⟩⟩ : RO).ob.kind = 6 from rfl, hr]
    go_wp2_with (refine wp_setrow rfl 35 _ _ rfl g rfl 35 _ [.int .i64 a, .int .i64 b] rfl hm8.swap sz_V rfl (cV_one (a, b)) ?_; intro w9 hm9)
    refine bodyPost_ret (Mm.res_cell_tmp rfl _ g 35 [.int .i64 a, .int .i64 b] (0, 0) rfl hm9 m0 row_V sz_V) rfl ⟨?_, r', hg', ?_, hok', hm9.tail⟩
    · exact congrArg Ending.returned (hr.symm.trans (by simp [Hs.makeR]))
    · exact ha'.trans (by simp [Hs.make])
theorem refBound_ok (w0 w : World) (L : List Chunk) (r : Rf) (hm : Mem w0 w (RfC r :: L)) (hok : Fact r.Ok) (fn : Int) (A : Option Addr) (n c : Nat) (xs : List V2) (hx : Fact (RdC w 2 (.slice A n c) (fV xs))) (hn : n ≤ 1048576) (hl : r.xs.length < 16777216) :
    Calls Tryz.prog 28 #[.pointer (some ⟨r.g, 0, none⟩), .int .i64 fn, .slice A n c] w fun e w' => e = .returned (r.abs.makeR (decide (0 ≤ fn) && decide (n ≤ 4096)) (2 + n) 8) ∧ RfQ w0 L r.g (r.abs.make (decide (0 ≤ fn) && decide (n ≤ 4096)) (2 + n) ⟨8, xs, [], fn, 0, false⟩) w' := by
  obtain rfl : xs.length = n := rdV_len hx.out
  have e1 : IntKind.i64.wrap (2 + (xs.length : Int)) = 2 + xs.length := IntWalk.i64_in _ (by omega)
  by_cases q : xs.length ≤ 4096
  · have q' : decide ((xs.length : Int) ≤ 4096) = true := decide_eq_true (by omega)
    rw [decide_eq_true q, Bool.and_true]
    go_enter Tryz.func28, Tryz.ntmps28
    go_upto_region 1 with (fail)
    have hm1 := hm.alloc (.cells [.int .i64 0, .int .i64 0].toArray 35)
    have hg1 := (Gr.refl w).alloc (.cells [.int .i64 0, .int .i64 0].toArray 35)
    generalize hgb : w.heap.size = g at hm1 ⊢
    generalize hw1 : w.alloc (.cells [.int .i64 0, .int .i64 0].toArray 35) = w1 at hm1 hg1
    try refine wp_world hw1 ?_
    clear hw1 hgb hm
    go_wp2_with fail
    refine (copyValues_ok w1 A xs.length c xs ⟨hx.out.gr hg1⟩ (by omega)).mono ?_
    rintro e w2 ⟨A3, c3, rfl, hn2⟩
    have hm2 := hm1.new hn2
    clear hm1 hn2
    go_wp2_with (first | (refine wp_setrow rfl 41 _ _ rfl w2.heap.size rfl 41 _ (cRO (⟨A3, c3, none, 0, ⟨8, xs, [], fn, 0, false⟩⟩ : RO)) rfl (hm2.alloc _) sz_O rfl (cRO_one _) ?_; intro w3 hm3) | (refine wp_rng rfl 41 _ rfl w2.heap.size 0 rfl (cRO (⟨A3, c3, none, 0, ⟨8, xs, [], fn, 0, false⟩⟩ : RO)) (rng_blk hm3 m0) row_O sz_O ?_))
    have hm4 := (roC_mem (⟨A3, c3, none, 0, ⟨8, xs, [], fn, 0, false⟩⟩ : RO) (Mem.nil hm3.tail 1 none).swap).pull2
    refine (refMake_ok w0 w3 _ r (⟨A3, c3, none, 0, ⟨8, xs, [], fn, 0, false⟩⟩ : RO) hm4 hok (decide (fn ≥ 0)) (2 + (xs.length : Int)) ⟨hn, by simp⟩ hl).mono ?_
    rintro e w8 ⟨rfl, r', hg', ha', hok', hm8⟩
    obtain ⟨a, b, t, hr⟩ := makeR_spell r.abs (decide (fn ≥ 0)) (2 + (xs.length : Int)) 8
    rw [show (⟨A3, c3, none, 0, ⟨8, xs, [], fn, 0, false⟩⟩ : RO).ob.kind = 8 from rfl, hr]
    go_wp2_with (refine wp_setrow rfl 35 _ _ rfl g rfl 35 _ [.int .i64 a, .int .i64 b] rfl hm8.swap sz_V rfl (cV_one (a, b)) ?_; intro w9 hm9)
    refine bodyPost_ret (Mm.res_cell_tmp rfl _ g 35 [.int .i64 a, .int .i64 b] (0, 0) rfl hm9 m0 row_V sz_V) rfl ⟨?_, r', hg', ?_, hok', hm9.tail⟩
    · exact congrArg Ending.returned (hr.symm.trans (by simp [Hs.makeR]))
    · exact ha'.trans (by simp [Hs.make])
  · have q' : decide ((xs.length : Int) ≤ 4096) = false := decide_eq_false (by omega)
    rw [decide_eq_false q, Bool.and_false]
    go_enter Tryz.func28, Tryz.ntmps28
    go_upto_region 1 with (fail)
    have hm1 := hm.alloc (.cells [.int .i64 0, .int .i64 0].toArray 35)
    have hg1 := (Gr.refl w).alloc (.cells [.int .i64 0, .int .i64 0].toArray 35)
    generalize hgb : w.heap.size = g at hm1 ⊢
    generalize hw1 : w.alloc (.cells [.int .i64 0, .int .i64 0].toArray 35) = w1 at hm1 hg1
    try refine wp_world hw1 ?_
    clear hw1 hgb hm
    go_wp2_with fail
    refine (copyValues_ok w1 A xs.length c xs ⟨hx.out.gr hg1⟩ (by omega)).mono ?_
    rintro e w2 ⟨A3, c3, rfl, hn2⟩
    have hm2 := hm1.new hn2
    clear hm1 hn2
    go_wp2_with (first | (refine wp_setrow rfl 41 _ _ rfl w2.heap.size rfl 41 _ (cRO (⟨A3, c3, none, 0, ⟨8, xs, [], fn, 0, false⟩⟩ : RO)) rfl (hm2.alloc _) sz_O rfl (cRO_one _) ?_; intro w3 hm3) | (refine wp_rng rfl 41 _ rfl w2.heap.size 0 rfl (cRO (⟨A3, c3, none, 0, ⟨8, xs, [], fn, 0, false⟩⟩ : RO)) (rng_blk hm3 m0) row_O sz_O ?_))
    have hm4 := (roC_mem (⟨A3, c3, none, 0, ⟨8, xs, [], fn, 0, false⟩⟩ : RO) (Mem.nil hm3.tail 1 none).swap).pull2
    refine (refMake_ok w0 w3 _ r (⟨A3, c3, none, 0, ⟨8, xs, [], fn, 0, false⟩⟩ : RO) hm4 hok (false) (2 + (xs.length : Int)) ⟨hn, by simp⟩ hl).mono ?_
    rintro e w8 ⟨rfl, r', hg', ha', hok', hm8⟩
    obtain ⟨a, b, t, hr⟩ := makeR_spell r.abs (false) (2 + (xs.length : Int)) 8
    rw [show (⟨A3, c3, none, 0, ⟨8, xs, [], fn, 0, false⟩⟩ : RO).ob.kind = 8 from rfl, hr]
    go_wp2_with (refine wp_setrow rfl 35 _ _ rfl g rfl 35 _ [.int .i64 a, .int .i64 b] rfl hm8.swap sz_V rfl (cV_one (a, b)) ?_; intro w9 hm9)
    refine bodyPost_ret (Mm.res_cell_tmp rfl _ g 35 [.int .i64 a, .int .i64 b] (0, 0) rfl hm9 m0 row_V sz_V) rfl ⟨?_, r', hg', ?_, hok', hm9.tail⟩
    · exact congrArg Ending.returned (hr.symm.trans (by simp [Hs.makeR]))
    · exact ha'.trans (by simp [Hs.make])
theorem refObject_ok (w0 w : World) (L : List Chunk) (r : Rf) (hm : Mem w0 w (RfC r :: L)) (hok : Fact r.Ok) (i : Int) :
    Calls Tryz.prog 25 #[.pointer (some ⟨r.g, 0, none⟩), .int .i64 i] w fun e w' => ∃ v, e = .returned (.tuple #[v, .bool (r.abs.is i)]) ∧ ObQ w0 (RfC r :: L) (r.abs.at i) v w' := by
  have hlen : r.abs.objs.length = r.xs.length := r.abs_len
  have hsz := hok.out.size
  by_cases q0 : i < 0
  · have q0' : decide (i < 0) = true := decide_eq_true q0
    have his : r.abs.is i = false := by unfold Hs.is; rw [decide_eq_false (by omega), Bool.false_and]
    unfold Hs.at
    rw [his]
    clear his hlen
    go_enter Tryz.func25, Tryz.ntmps25
    go_upto_region 1 with (fail)
    have hm1 := hm.alloc (.cells (obC 0 none 0 0 none 0 0 0 0 false).toArray 41)
    have hg1 := (Gr.refl w).alloc (.cells (obC 0 none 0 0 none 0 0 0 0 false).toArray 41)
    generalize hgb : w.heap.size = g at hm1 ⊢
    generalize hw1 : w.alloc (.cells (obC 0 none 0 0 none 0 0 0 0 false).toArray 41) = w1 at hm1 hg1
    try refine wp_world hw1 ?_
    clear hw1 hgb hm
    go_wp2_with (refine wp_setrow rfl 41 _ _ rfl g rfl 41 _ (obC 0 none 0 0 none 0 0 0 0 false) rfl hm1 sz_O rfl (obC_one _ _ _ _ _ _ _ _ _ _) ?_; intro w2 hm2)
    exact bodyPost_ret (Mm.res_cell_tmp rfl _ g 41 (obC 0 none 0 0 none 0 0 0 0 false) (0, 0) rfl hm2 m0 row_O sz_O) rfl ⟨_, rfl, none, 0, none, 0, rfl, (Mem.nil (Mem.nil hm2.tail 1 none) 2 none)⟩
  have q0' : decide (i < 0) = false := decide_eq_false q0
  by_cases q1 : i < r.xs.length
  · have q1' : decide (i ≥ r.xs.length) = false := decide_eq_false (by omega)
    have his : r.abs.is i = true := by unfold Hs.is; rw [hlen, decide_eq_true (show (0 : Int) ≤ i by omega), decide_eq_true q1]; rfl
    obtain ⟨k, rfl⟩ := Int.eq_ofNat_of_zero_le (Int.not_lt.1 q0)
    have hk : k < r.xs.length := by omega
    have hat : r.abs.at k = (r.xs.getD k ro0).ob := by
      unfold Hs.at
      rw [his]
      simp [Rf.abs, hk]
    have hxm := hok.out.each (r.xs.getD k ro0) (by rw [List.getD_eq_getElem?_getD, List.getElem?_eq_getElem hk]; exact List.getElem_mem hk)
    obtain ⟨x, hx⟩ : ∃ x, r.xs.getD k ro0 = x := ⟨_, rfl⟩
    rw [hx] at hxm
    rw [his, hat, hx]
    clear his hat hlen
    replace hx := Fact.mk hx
    replace hxm := Fact.mk hxm
    go_enter Tryz.func25, Tryz.ntmps25
    go_upto_region 1 with (fail)
    have hm1 := hm.alloc (.cells (obC 0 none 0 0 none 0 0 0 0 false).toArray 41)
    have hg1 := (Gr.refl w).alloc (.cells (obC 0 none 0 0 none 0 0 0 0 false).toArray 41)
    generalize hgb : w.heap.size = g at hm1 ⊢
    generalize hw1 : w.alloc (.cells (obC 0 none 0 0 none 0 0 0 0 false).toArray 41) = w1 at hm1 hg1
    try refine wp_world hw1 ?_
    clear hw1 hgb hm
    obtain ⟨_, _, c2, hR⟩ := Rf.read hm1 m1
    obtain ⟨b, o, hA, hc, _, hrd⟩ := hR.at k hk
    rw [hx.out] at hc hrd
    rw [hA] at c2
    clear hR
    replace hc := Fact.mk hc
    replace hrd := Fact.mk hrd
    go_wp2_with (refine wp_rng rfl 41 _ rfl b (o + k * 6) rfl (cRO x) hc.out row_O sz_O ?_)
    refine (copyObject_ok w0 w1 _ hm1 x hrd hxm.out.1 hxm.out.2).mono ?_
    rintro e w2 ⟨y, rfl, hy, hm2⟩
    replace hy := Fact.mk hy
    go_wp2_with (refine wp_setrow rfl 41 _ _ rfl g rfl 41 _ (cRO y) rfl hm2.swap sz_O rfl (cRO_one _) ?_; intro w3 hm3)
    exact bodyPost_ret (Mm.res_cell_tmp rfl _ g 41 (cRO y) (0, 0) rfl hm3 m0 row_O sz_O) rfl ⟨_, rfl, by rw [← hy.out]; exact ⟨y.A, y.c, y.KA, y.kc, rfl, Mem.opn hm3.tail⟩⟩
  · have q1' : decide (i ≥ r.xs.length) = true := decide_eq_true (by omega)
    have his : r.abs.is i = false := by unfold Hs.is; rw [hlen, decide_eq_false (show ¬ i < (r.xs.length : Int) by omega), Bool.and_false]
    unfold Hs.at
    rw [his]
    clear his hlen
    go_enter Tryz.func25, Tryz.ntmps25
    go_upto_region 1 with (fail)
    have hm1 := hm.alloc (.cells (obC 0 none 0 0 none 0 0 0 0 false).toArray 41)
    have hg1 := (Gr.refl w).alloc (.cells (obC 0 none 0 0 none 0 0 0 0 false).toArray 41)
    generalize hgb : w.heap.size = g at hm1 ⊢
    generalize hw1 : w.alloc (.cells (obC 0 none 0 0 none 0 0 0 0 false).toArray 41) = w1 at hm1 hg1
    try refine wp_world hw1 ?_
    clear hw1 hgb hm
    obtain ⟨_, _, c2, _⟩ := Rf.read hm1 m1
    go_wp2_with (refine wp_setrow rfl 41 _ _ rfl g rfl 41 _ (obC 0 none 0 0 none 0 0 0 0 false) rfl hm1 sz_O rfl (obC_one _ _ _ _ _ _ _ _ _ _) ?_; intro w2 hm2)
    exact bodyPost_ret (Mm.res_cell_tmp rfl _ g 41 (obC 0 none 0 0 none 0 0 0 0 false) (0, 0) rfl hm2 m0 row_O sz_O) rfl ⟨_, rfl, none, 0, none, 0, rfl, (Mem.nil (Mem.nil hm2.tail 1 none) 2 none)⟩
end Go.Proofs.YtpibchjkmaghnaaGreat
namespace Go.Proofs.YtpibchjkmaghnaaGreat
open Go.RowKit Go.Mm
set_option maxHeartbeats 4000000
set_option maxRecDepth 100000
set_option linter.unusedSimpArgs false
theorem Hp.abs_len' (h : Hp) : h.abs.objs.length = h.ths.length := h.abs_len
theorem Hp.Ok.sz {h : Hp} (hok : h.Ok) {o : Ob} (ho : o ∈ h.objs) : o.items.length ≤ 1048576 ∧ o.keys.length ≤ 1048576 := by
  simp only [Hp.objs, List.mem_map] at ho
  obtain ⟨t, ht, rfl⟩ := ho
  have := hok.each t ht
  refine ⟨this.size, ?_⟩
  by_cases q : t.ob.kind = 7
  · rw [this.keys q]; exact this.size
  · rw [this.nokeys q]; simp
theorem objects_ok (w0 w : World) (L : List Chunk) (h : Hp) (hm : Mem w0 w (HpC h :: L)) (hok : Fact h.Ok) (n : Nat) (hn : n ≤ h.ths.length) :
    Calls Tryz.prog 16 #[.pointer (some ⟨h.g, 0, none⟩), .int .i64 n] w fun e w' => ∃ (A : Option Addr) (c : Nat) (ys : List RO), e = .returned (.slice A n c) ∧ ys.map (·.ob) = h.objs.take n ∧ Mem w0 w' (HpC h :: Own 6 (.slice A n c) (ys.flatMap cRO) :: (ys.map RoC ++ L)) := by
  obtain ⟨iO, hiO, hz0, hz1, hz2⟩ := info_parts inf_O
  have hsz := hok.out.size
  have hlen : h.objs.length = h.ths.length := h.abs_len
  replace hlen := Fact.mk hlen
  go_enter Tryz.func16, Tryz.ntmps16
  go_wp2
  go_loopw [5, 6] (fun s5 s6 w' => ∃ (k : Nat) (A : Option Addr) (c : Nat) (ys : List RO), s6 = .int .i64 k ∧ k ≤ n ∧ s5 = .slice A k c ∧ ys.map (·.ob) = h.objs.take k ∧ Mem w0 w' (HpC h :: Own 6 (.slice A k c) (ys.flatMap cRO) :: (ys.map RoC ++ L))) (fun _ s6 _ => n - (intOf s6).toNat)
  case atStart => exact ⟨0, none, 0, [], rfl, by omega, rfl, rfl, (hm.nil 6 none).swap⟩
  case round =>
    obtain ⟨k, A, c, ys, rfl, hk, rfl, hys, hmr⟩ := hrel
    clear hm
    replace hys := Fact.mk hys
    by_cases hlt : k < n
    · have hyl : ys.length = k := by
        have := congrArg List.length hys.out
        simp [hlen.out] at this
        omega
      have his : h.abs.is k = true := by unfold Hs.is; rw [decide_eq_true (by omega), h.abs_len', decide_eq_true (by omega)]; rfl
      obtain ⟨ob, hob⟩ : ∃ ob, ob = h.abs.at k := ⟨_, rfl⟩
      have hobk : h.objs.take (k + 1) = h.objs.take k ++ [ob] := by
        rw [List.take_succ_eq_append_getElem (by have := hlen.out; omega), hob]
        unfold Hs.at
        rw [his]
        congr 2
        simp [Hp.abs, show k < h.objs.length by rw [hlen.out]; omega]
      have hobj := object_ok w0 wr _ h hmr hok k
      rw [his, ← hob] at hobj
      clear his hob hyl
      replace hobj := Fact.mk hobj
      replace hobk := Fact.mk hobk
      go_wp2_with fail
      refine hobj.out.mono ?_
      rintro e w2 ⟨v, rfl, A2, c2, K2, k2, rfl, hm2⟩
      obtain ⟨y, hy⟩ : ∃ y : RO, y = ⟨A2, c2, K2, k2, ob⟩ := ⟨_, rfl⟩
      have hm3 : Mem w0 w2 (RoC y :: HpC h :: Own 6 (.slice A k c) (ys.flatMap cRO) :: (ys.map RoC ++ L)) := by rw [hy]; exact roC_mem ⟨A2, c2, K2, k2, ob⟩ hm2
      have hyo : y.ob = ob := by rw [hy]
      have hyc : obC ob.kind A2 ob.items.length c2 K2 ob.keys.length k2 ob.fn ob.cap ob.shut = cRO y := by rw [hy]; rfl
      rw [hyc]
      clear hm2 hmr hobj hy hyc
      replace hyo := Fact.mk hyo
      go_wp2_with (first | (refine wp_setrow rfl 41 _ _ rfl w2.heap.size rfl 41 _ (cRO y) rfl (hm3.alloc _) sz_O rfl (cRO_one y) ?_; intro w4 hm4) | (refine wp_rng rfl 41 _ rfl w2.heap.size 0 rfl [.int .i64 y.ob.kind, .slice y.A y.ob.items.length y.c, .slice y.KA y.ob.keys.length y.kc, .int .i64 y.ob.fn, .int .i64 y.ob.cap, .bool y.ob.shut] (rng_blk hm4 m0) row_O sz_O ?_) | (at_builtin; refine wp_app rfl _ _ _ rfl 41 iO _ 6 80 ty_Os hiO hz0 hz1 hz2 rfl A k c _ rfl (hm4.alloc _).pull4 _ 1 1 [.int .i64 y.ob.kind, .slice y.A y.ob.items.length y.c, .slice y.KA y.ob.keys.length y.kc, .int .i64 y.ob.fn, .int .i64 y.ob.cap, .bool y.ob.shut] rfl (RdC.lit _ _ _ _ _ rfl (by simp [maxLen]) (cRO_one y)) (by unfold maxLen; omega) (by omega) ?_; intro A5 c5 w5 hm5))
      have hz : Mem w0 w5 (HpC h :: Own 6 (.slice A5 (k + 1) c5) ((ys ++ [y]).flatMap cRO) :: ((ys ++ [y]).map RoC ++ L)) := by
        have h1 := hm5.sub (List.Sublist.cons_cons _ ((List.sublist_cons_self _ _).trans (List.sublist_cons_self _ _)))
        have h2 := h1.pull2
        have e1 : (ys ++ [y]).flatMap cRO = ys.flatMap cRO ++ cRO y := by simp
        have e2 : (ys ++ [y]).map RoC ++ L = ys.map RoC ++ RoC y :: L := by simp
        rw [e1, e2]
        exact h2.perm ((List.perm_middle.symm.cons _).cons _)
      go_roundw
      case rel => exact ⟨k + 1, A5, c5, ys ++ [y], by go_num, by omega, rfl, by rw [hobk.out, List.map_append, hys.out]; simp [hyo.out], hz⟩
      case measure => exact measP_lt hlt
    · obtain rfl : k = n := by omega
      go_wp2
      go_ret
      exact ⟨A, c, ys, rfl, hys.out, hmr⟩
theorem alike_ok (w0 w : World) (L : List Chunk) (h : Hp) (r : Rf) (hm : Mem w0 w (HpC h :: RfC r :: L)) (hok : Fact h.Ok) (hokr : Fact r.Ok) (ho : Fact (r.abs.objs = h.abs.objs)) (hs : r.spent = h.spent) :
    Calls Tryz.prog 14 #[.pointer (some ⟨h.g, 0, none⟩), .pointer (some ⟨r.g, 0, none⟩)] w fun e w' => e = .returned (.bool true) ∧ Mem w0 w' (HpC h :: RfC r :: L) := by
  have hn : r.xs.length = h.ths.length := by rw [← r.abs_len, ← h.abs_len', ho.out]
  have hsz := hok.out.size
  have key1 := fun (w1 : World) (L1 : List Chunk) (hm1 : Mem w0 w1 (HpC h :: L1)) => object_ok w0 w1 L1 h hm1 hok h.ths.length
  have key2 := fun (w1 : World) (L1 : List Chunk) (hm1 : Mem w0 w1 (HpC h :: L1)) => object_ok w0 w1 L1 h hm1 hok (-1)
  have is1 : h.abs.is h.ths.length = false := by unfold Hs.is; rw [h.abs_len', decide_eq_false (show ¬ (h.ths.length : Int) < h.ths.length by omega), Bool.and_false]
  have is2 : h.abs.is (-1) = false := by unfold Hs.is; rw [decide_eq_false (by omega), Bool.false_and]
  rw [is1] at key1
  rw [is2] at key2
  have hread : Fact (∀ (w1 : World) (L1 : List Chunk), Mem w0 w1 L1 → RfC r ∈ L1 → w1.cell? ⟨r.g, 1, none⟩ = some (.int .i64 h.spent) ∧ w1.cell? ⟨r.g, 2, none⟩ = some (.slice r.A h.ths.length r.c) ∧ ObsR w1 r.A h.ths.length r.c r.xs) := ⟨fun w1 L1 hm1 hh => by
    obtain ⟨_, c1, c2, h4⟩ := Rf.read hm1 hh
    rw [hs] at c1
    rw [hn] at c2 h4
    exact ⟨c1, c2, h4⟩⟩
  obtain ⟨ob1, hob1⟩ : ∃ ob1, ob1 = h.abs.at h.ths.length := ⟨_, rfl⟩
  obtain ⟨ob2, hob2⟩ : ∃ ob2, ob2 = h.abs.at (-1) := ⟨_, rfl⟩
  rw [← hob1] at key1
  rw [← hob2] at key2
  clear is1 is2 hn hs hob1 hob2
  replace key1 := Fact.mk key1
  replace key2 := Fact.mk key2
  obtain ⟨_, c2, _⟩ := hread.out w _ hm m1
  go_enter Tryz.func14, Tryz.ntmps14
  go_wp2_with fail
  refine (key1.out w _ hm).mono ?_
  rintro e w2 ⟨v, rfl, A2, d2, K2, k2, rfl, hm2⟩
  replace hm2 := hm2.tail.tail
  clear c2 key1
  go_wp2_with (refine wp_setrow rfl 41 _ _ rfl w2.heap.size rfl 41 _ (obC ob1.kind A2 ob1.items.length d2 K2 ob1.keys.length k2 ob1.fn ob1.cap ob1.shut) rfl (hm2.alloc _) sz_O rfl (obC_one _ _ _ _ _ _ _ _ _ _) ?_; intro w3 hm3)
  have hm4 := hm3.tail
  clear hm2 hm3
  refine (key2.out w3 _ hm4).mono ?_
  rintro e w5 ⟨v, rfl, A5, d5, K5, k5, rfl, hm5⟩
  replace hm5 := hm5.tail.tail
  clear hm4 key2
  go_upto_region 3 with (refine wp_setrow rfl 41 _ _ rfl w5.heap.size rfl 41 _ (obC ob2.kind A5 ob2.items.length d5 K5 ob2.keys.length k5 ob2.fn ob2.cap ob2.shut) rfl (hm5.alloc _) sz_O rfl (obC_one _ _ _ _ _ _ _ _ _ _) ?_; intro w6 hm6)
  replace hm6 := hm6.tail
  clear hm5
  obtain ⟨c1, c2, _⟩ := hread.out w6 _ hm6 m1
  have hcl := Fact.mk (fun n => heapLen_ok w0 (w6.drewN n) _ h (hm6.drewN n) m0)
  have hcs := Fact.mk (fun n => heapSpent_ok w0 (w6.drewN n) _ h (hm6.drewN n) m0)
  go_quiet (first | exact Calls.quiet_of_same (hcl.out _) | exact Calls.quiet_of_same (hcs.out _))
  clear hcl hcs c1 c2
  have hm7 := hm6.drewN nq
  clear hm6
  generalize w6.drewN nq = w7 at hm7 ⊢
  obtain ⟨_, c2, _⟩ := hread.out w7 _ hm7 m1
  go_upto_region 5 with (fail)
  have hm8 := hm7.drew
  have hS : w7.drew.cell? ⟨r.g, 2, none⟩ = some (.slice r.A h.ths.length r.c) := c2
  clear c2 hm7
  refine wp_region_until (S := fun W => W.cell? ⟨r.g, 2, none⟩ = some (.slice r.A h.ths.length r.c)) 11 (by kernel_rfl) ?_
  generalize w7.drew = w8 at hm8 hS ⊢
  refine wpAnyU_take 0 (v := ?vsa0) rfl (by kernel_rfl) (by kernel_rfl) (fun _ _ _ h => h) hS (Or.inl ⟨rfl, ?ysa0⟩) ?rsa0
  case ysa0 =>
    intro W hW
    go_simp
    try with_reducible rfl
  try simp only [Act.put, List.getElem_toArray, List.getElem_cons_succ, List.getElem_cons_zero, List.setIfInBounds_toArray, List.set_cons_zero, List.set_cons_succ]
  refine wpAnyU_take 1 (v := ?vsa1) rfl (by kernel_rfl) (by kernel_rfl) (fun _ _ _ h => h) hS (Or.inl ⟨rfl, ?ysa1⟩) ?rsa1
  case ysa1 =>
    intro W hW
    go_simp
    try with_reducible rfl
  try simp only [Act.put, List.getElem_toArray, List.getElem_cons_succ, List.getElem_cons_zero, List.setIfInBounds_toArray, List.set_cons_zero, List.set_cons_succ]
  refine wpAnyU_take 2 (v := ?vsa2) rfl (by kernel_rfl) (by kernel_rfl) (fun _ _ _ h => h) hS (Or.inl ⟨rfl, ?ysa2⟩) ?rsa2
  case ysa2 =>
    intro W hW
    go_simp
    try with_reducible rfl
  try simp only [Act.put, List.getElem_toArray, List.getElem_cons_succ, List.getElem_cons_zero, List.setIfInBounds_toArray, List.set_cons_zero, List.set_cons_succ]
  refine wpAnyU_take 3 (v := ?vsa3) rfl (by kernel_rfl) (by kernel_rfl) (fun _ _ _ h => h) hS (Or.inl ⟨rfl, ?ysa3⟩) ?rsa3
  case ysa3 =>
    intro W hW
    go_simp
    try with_reducible rfl
  try simp only [Act.put, List.getElem_toArray, List.getElem_cons_succ, List.getElem_cons_zero, List.setIfInBounds_toArray, List.set_cons_zero, List.set_cons_succ]
  refine wpAnyU_take 4 (v := ?vsa4) rfl (by kernel_rfl) (by kernel_rfl) (fun _ _ _ h => h) hS (Or.inl ⟨rfl, ?ysa4⟩) ?rsa4
  case ysa4 =>
    intro W hW
    go_simp
    try with_reducible rfl
  try simp only [Act.put, List.getElem_toArray, List.getElem_cons_succ, List.getElem_cons_zero, List.setIfInBounds_toArray, List.set_cons_zero, List.set_cons_succ]
  refine wpAnyU_take 5 (v := ?vsa5) rfl (by kernel_rfl) (by kernel_rfl) (fun _ _ _ h => h) hS (Or.inl ⟨rfl, ?ysa5⟩) ?rsa5
  case ysa5 =>
    intro W hW
    go_simp
    try with_reducible rfl
  try simp only [Act.put, List.getElem_toArray, List.getElem_cons_succ, List.getElem_cons_zero, List.setIfInBounds_toArray, List.set_cons_zero, List.set_cons_succ]
  refine wpAnyU_take 7 (v := ?vsa7) rfl (by kernel_rfl) (by kernel_rfl) (fun _ _ _ h => h) hS (Or.inl ⟨rfl, ?ysa7⟩) ?rsa7
  case ysa7 =>
    intro W hW
    go_simp
    try with_reducible rfl
  try simp only [Act.put, List.getElem_toArray, List.getElem_cons_succ, List.getElem_cons_zero, List.setIfInBounds_toArray, List.set_cons_zero, List.set_cons_succ]
  refine wpAnyU_take 8 (v := ?vsa8) rfl (by kernel_rfl) (by kernel_rfl) (fun _ _ _ h => h) hS (Or.inl ⟨rfl, ?ysa8⟩) ?rsa8
  case ysa8 =>
    intro W hW
    go_simp
    try with_reducible rfl
  try simp only [Act.put, List.getElem_toArray, List.getElem_cons_succ, List.getElem_cons_zero, List.setIfInBounds_toArray, List.set_cons_zero, List.set_cons_succ]
  refine wpAnyU_take 9 (v := ?vsa9) rfl (by kernel_rfl) (by kernel_rfl) (fun _ _ _ h => h) hS (Or.inl ⟨rfl, ?ysa9⟩) ?rsa9
  case ysa9 =>
    intro W hW
    go_simp
    try with_reducible rfl
  try simp only [Act.put, List.getElem_toArray, List.getElem_cons_succ, List.getElem_cons_zero, List.setIfInBounds_toArray, List.set_cons_zero, List.set_cons_succ]
  refine wpAnyU_take 10 (v := ?vsa10) rfl (by kernel_rfl) (by kernel_rfl) (fun _ _ _ h => h) hS (Or.inl ⟨rfl, ?ysa10⟩) ?rsa10
  case ysa10 =>
    intro W hW
    go_simp
    try with_reducible rfl
  try simp only [Act.put, List.getElem_toArray, List.getElem_cons_succ, List.getElem_cons_zero, List.setIfInBounds_toArray, List.set_cons_zero, List.set_cons_succ]
  refine wpAnyU_one 6 (by kernel_rfl) rfl (fun K hK => ?_)
  refine step_call rfl 16 Tryz.f16 Tryz.func16 (by kernel_rfl) (by kernel_rfl) _ _ rfl #[.pointer (some ⟨h.g, 0, none⟩), .int .i64 h.ths.length] (by simp [Act.eval]) ?_
  refine (objects_ok w0 w8 _ h hm8 hok h.ths.length (by omega)).mono ?_
  rintro e w9 ⟨A9, c9, ys, rfl, hys, hm9⟩
  refine ⟨_, rfl, ?_⟩
  have hrm : RfC r ∈ HpC h :: Own 6 (.slice A9 h.ths.length c9) (ys.flatMap cRO) :: (ys.map RoC ++ RfC r :: L) := .tail _ (.tail _ (List.mem_append_right _ m0))
  have hT := (hread.out w9 _ hm9 hrm).2
  refine hK _ _ (fun _ => hT.1) ?_
  clear hK K hS hm8
  try simp only [Act.put, List.getElem_toArray, List.getElem_cons_succ, List.getElem_cons_zero, List.setIfInBounds_toArray, List.set_cons_zero, List.set_cons_succ]
  refine wpAnyU_one 11 (by kernel_rfl) rfl (fun K hK => ?_)
  refine step_call rfl 17 Tryz.f17 Tryz.func17 (by kernel_rfl) (by kernel_rfl) _ _ rfl #[.slice A9 h.ths.length c9, .slice r.A h.ths.length r.c] (by simp [Act.eval]) ?_
  have hys2 : ys.map (·.ob) = h.objs := by rw [hys, List.take_of_length_le (by rw [h.abs_len]; omega)]
  have hyr : ObsR w9 A9 h.ths.length c9 ys := ⟨hm9.rd m1, fun x hx => RoC.reads (hm9.ok _ (.tail _ (.tail _ (List.mem_append_left _ (List.mem_map_of_mem hx)))))⟩
  refine (sameObjects_ok w9 A9 r.A h.ths.length c9 r.c ys r.xs ⟨hyr⟩ ⟨hT.2⟩ ⟨by rw [hys2]; exact ho.out.symm⟩ ⟨fun x hx => ?_⟩ (by omega)).mono ?_
  · have := hok.out.sz (o := x.ob) (by rw [← hys2]; exact List.mem_map_of_mem hx)
    omega
  rintro e w10 ⟨rfl, hg10⟩
  refine ⟨_, rfl, ?_⟩
  have hm10 := hm9.gr hg10
  refine hK _ _ (fun h => absurd h (by decide)) ?_
  clear hK K
  try simp only [Act.put, List.getElem_toArray, List.getElem_cons_succ, List.getElem_cons_zero, List.setIfInBounds_toArray, List.set_cons_zero, List.set_cons_succ]
  refine wpAnyU_one 12 (by kernel_rfl) rfl (fun K hK => ?_)
  go_simp
  refine hK _ _ (fun h => absurd h (by decide)) ?_
  clear hK K
  try simp only [Act.put, List.getElem_toArray, List.getElem_cons_succ, List.getElem_cons_zero, List.setIfInBounds_toArray, List.set_cons_zero, List.set_cons_succ]
  refine wpAnyU_done (by kernel_rfl) ?_ _
  go_wp2
  go_ret
  exact ⟨rfl, hm10.sub (List.Sublist.cons_cons _ ((List.sublist_append_right _ _).trans (List.sublist_cons_self _ _)))⟩
end Go.Proofs.YtpibchjkmaghnaaGreat
namespace Go.Proofs.YtpibchjkmaghnaaGreat
open Go.RowKit Go.Mm
set_option maxHeartbeats 4000000
set_option maxRecDepth 100000
set_option linter.unusedSimpArgs false
/-- A number from 0 to n - 1 out of any, as data. -/
def pickF (k : Int) (n : Nat) : Int := if k.tmod n < 0 then k.tmod n + n else k.tmod n
theorem pickF_rng (k : Int) (n : Nat) (h : 0 < n) : 0 ≤ pickF k n ∧ pickF k n < n := by
  unfold pickF
  have h0 : (0 : Int) < n := by omega
  have h1 := Int.lt_tmod_of_pos k h0
  have h2 := Int.tmod_lt_of_pos k h0
  split <;> omega
theorem pickF_id (k : Int) (n : Nat) (h0 : 0 ≤ k) (h1 : k < n) : pickF k n = k := by
  unfold pickF
  rw [Int.tmod_eq_of_lt h0 h1, if_neg (by omega)]
theorem pickF_ok (w : World) (k N : Int) (n : Nat) (hN : N = n) (hn : n ≤ 1048577) (h0 : 0 < n) :
    Calls Tryz.prog 10 #[.int .i64 k, .int .i64 N] w fun e w' => e = .returned (.int .i64 (pickF k n)) ∧ w' = w := by
  subst hN
  unfold pickF
  go_enter Tryz.func10, Tryz.ntmps10
  have h1 : ((n : Int) < 1) = False := by simp; omega
  have hb : -(n : Int) < k.tmod n ∧ k.tmod n < n := by
    have hn0 : (0 : Int) < n := by omega
    exact ⟨Int.lt_tmod_of_pos k hn0, Int.tmod_lt_of_pos k hn0⟩
  by_cases hs : k.tmod n < 0
  · have hw : wrap64 (k.tmod n + n) = k.tmod n + n := IntWalk.wrap64_in _ (by omega)
    have hw2 : IntKind.i64.wrap (k.tmod n + n) = k.tmod n + n := IntWalk.i64_in _ (by omega)
    go_wp2
    go_ret
    exact ⟨rfl, rfl⟩
  · go_wp2
    go_ret
    exact ⟨rfl, rfl⟩
end Go.Proofs.YtpibchjkmaghnaaGreat
namespace Go.Proofs.YtpibchjkmaghnaaGreat
open Go.RowKit Go.Mm
set_option maxHeartbeats 4000000
set_option maxRecDepth 100000
set_option linter.unusedSimpArgs false
/-- What a call on the reference's heap leaves. -/
def TellQ (w0 : World) (L : List Chunk) (g : Nat) (s : Hs) (r : Sd) (v : Value) (w : World) : Prop := ∃ h : Rf, h.g = g ∧ h.abs = s ∧ h.Ok ∧ SdQ w0 (RfC h :: L) r v w
theorem told_spend (w0 w : World) (L : List Chunk) (h : Rf) (hm : Mem w0 w (RfC h :: L)) (hok : Fact h.Ok) (o : HOp) :
    Calls Tryz.prog 11 #[.pointer (some ⟨h.g, 0, none⟩), .int .i64 0, .agg (cHO o).toArray] w fun e w' => ∃ v, e = .returned v ∧ TellQ w0 L h.g (h.abs.spend o.M) (sdV (0, 0) 0 0 (h.abs.room o.M)) v w' := by
  go_enter Tryz.func11, Tryz.ntmps11
  go_upto_region 2 with (fail)
  have hm1 := ((hm.alloc (.cells (cHO o).toArray 38)).alloc (.cells (sC 0 0 0 0 false 0 none 0 0 none 0 0 0 0 false none 0 0).toArray 43)).alloc (.cells (sC 0 0 0 0 false 0 none 0 0 none 0 0 0 0 false none 0 0).toArray 43)
  simp only [World.size_alloc] at hm1
  generalize hgb : w.heap.size = g at hm1 ⊢
  generalize hw1 : ((w.alloc (.cells (cHO o).toArray 38)).alloc (.cells (sC 0 0 0 0 false 0 none 0 0 none 0 0 0 0 false none 0 0).toArray 43)).alloc (.cells (sC 0 0 0 0 false 0 none 0 0 none 0 0 0 0 false none 0 0).toArray 43) = w1 at hm1
  try refine wp_world hw1 ?_
  clear hw1 hgb
  replace hm1 := hm1.pull3
  have x7 := hm1.cell m3 7 rfl
  go_wp2_with fail
  refine (refSpend_ok w0 w1 (Blk (g + 1 + 1) (.cells (sC 0 0 0 0 false 0 none 0 0 none 0 0 0 0 false none 0 0).toArray 43) :: Blk (g + 1) (.cells (sC 0 0 0 0 false 0 none 0 0 none 0 0 0 0 false none 0 0).toArray 43) :: Blk g (.cells (cHO o).toArray 38) :: L) h hm1 hok o.M).mono ?_
  rintro e w2 ⟨rfl, h', hg', ha', hok', hm2⟩
  go_wp2_with (first | (refine wp_setat rfl 4 _ _ rfl (g + 1 + 1) 4 rfl 43 _ [.bool (h.abs.room o.M)] (sC 0 0 0 0 (h.abs.room o.M) 0 none 0 0 none 0 0 0 0 false none 0 0) (.bool (h.abs.room o.M)) rfl rfl hm2.swap sz_bool (by simp [sC, obC]) (one_one rfl) rfl ?_; intro w3 hs3) | (refine wp_rng rfl 43 _ rfl (g + 1 + 1) 0 rfl (sC 0 0 0 0 (h.abs.room o.M) 0 none 0 0 none 0 0 0 0 false none 0 0) (rng_blk hs3 m0) row_S sz_S ?_) | (refine wp_setrow rfl 43 _ _ rfl (g + 1) rfl 43 _ (sC 0 0 0 0 (h.abs.room o.M) 0 none 0 0 none 0 0 0 0 false none 0 0) rfl hs3.pull2 sz_S rfl (sC_one _ _ _ _ _ _ _ _ _ _ _ _ _ _ _ _ _ _) ?_; intro w4 hs4))
  have hz := hs4.tail.tail.drop2
  refine bodyPost_ret (Mm.res_cell rfl _ (g + 1) 43 (sC 0 0 0 0 (h.abs.room o.M) 0 none 0 0 none 0 0 0 0 false none 0 0) (0, 0) rfl hs4 m0 row_S sz_S) rfl ?_
  exact ⟨_, rfl, h', hg', ha', hok', SdQ.plain 0 0 0 0 (h.abs.room o.M) hz⟩
theorem told_record (w0 w : World) (L : List Chunk) (h : Rf) (hm : Mem w0 w (RfC h :: L)) (hok : Fact h.Ok) (o : HOp) (hl : h.xs.length < 16777216) :
    Calls Tryz.prog 11 #[.pointer (some ⟨h.g, 0, none⟩), .int .i64 4, .agg (cHO o).toArray] w fun e w' => ∃ v, e = .returned v ∧ TellQ w0 L h.g (h.abs.make true 2 ⟨7, [], [], 0, 0, false⟩) (h.abs.makeV true 2 7) v w' := by
  go_enter Tryz.func11, Tryz.ntmps11
  go_upto_region 2 with (fail)
  have hm1 := ((hm.alloc (.cells (cHO o).toArray 38)).alloc (.cells (sC 0 0 0 0 false 0 none 0 0 none 0 0 0 0 false none 0 0).toArray 43)).alloc (.cells (sC 0 0 0 0 false 0 none 0 0 none 0 0 0 0 false none 0 0).toArray 43)
  simp only [World.size_alloc] at hm1
  generalize hgb : w.heap.size = g at hm1 ⊢
  generalize hw1 : ((w.alloc (.cells (cHO o).toArray 38)).alloc (.cells (sC 0 0 0 0 false 0 none 0 0 none 0 0 0 0 false none 0 0).toArray 43)).alloc (.cells (sC 0 0 0 0 false 0 none 0 0 none 0 0 0 0 false none 0 0).toArray 43) = w1 at hm1
  try refine wp_world hw1 ?_
  clear hw1 hgb
  replace hm1 := hm1.pull3
  go_wp2_with fail
  refine (refRecord_ok w0 w1 (Blk (g + 1 + 1) (.cells (sC 0 0 0 0 false 0 none 0 0 none 0 0 0 0 false none 0 0).toArray 43) :: Blk (g + 1) (.cells (sC 0 0 0 0 false 0 none 0 0 none 0 0 0 0 false none 0 0).toArray 43) :: Blk g (.cells (cHO o).toArray 38) :: L) h hm1 hok hl).mono ?_
  rintro e w2 ⟨rfl, h', hg', ha', hok', hm2⟩
  obtain ⟨a, b, d, hr, hr2⟩ := makeR_parts h.abs true 2 7
  rw [hr]
  replace hr := Fact.mk hr
  replace hr2 := Fact.mk hr2
  go_wp2_with (first | (refine wp_setat rfl 35 _ _ rfl (g + 1 + 1) 0 rfl 43 _ [.int .i64 a, .int .i64 b] (sC a b 0 0 false 0 none 0 0 none 0 0 0 0 false none 0 0) (.agg #[.int .i64 a, .int .i64 b]) rfl rfl hm2.swap sz_V (by simp [sC, obC]) (cV_one (a, b)) rfl ?_; intro w3 hs3) | (refine wp_setat rfl 4 _ _ rfl (g + 1 + 1) 4 rfl 43 _ [.bool d] (sC a b 0 0 d 0 none 0 0 none 0 0 0 0 false none 0 0) (.bool d) rfl rfl hs3 sz_bool (by simp [sC, obC]) (one_one rfl) rfl ?_; intro w4 hs4) | (refine wp_rng rfl 43 _ rfl (g + 1 + 1) 0 rfl (sC a b 0 0 d 0 none 0 0 none 0 0 0 0 false none 0 0) (rng_blk hs4 m0) row_S sz_S ?_) | (refine wp_setrow rfl 43 _ _ rfl (g + 1) rfl 43 _ (sC a b 0 0 d 0 none 0 0 none 0 0 0 0 false none 0 0) rfl hs4.pull2 sz_S rfl (sC_one _ _ _ _ _ _ _ _ _ _ _ _ _ _ _ _ _ _) ?_; intro w5 hs5))
  have hz := hs5.tail.tail.drop2
  refine bodyPost_ret (Mm.res_cell rfl _ (g + 1) 43 (sC a b 0 0 d 0 none 0 0 none 0 0 0 0 false none 0 0) (0, 0) rfl hs5 m0 row_S sz_S) rfl ?_
  rw [hr2.out]
  exact ⟨_, rfl, h', hg', ha', hok', SdQ.plain a b 0 0 d hz⟩
theorem told_chan (w0 w : World) (L : List Chunk) (h : Rf) (hm : Mem w0 w (RfC h :: L)) (hok : Fact h.Ok) (o : HOp) (hl : h.xs.length < 16777216) :
    Calls Tryz.prog 11 #[.pointer (some ⟨h.g, 0, none⟩), .int .i64 6, .agg (cHO o).toArray] w fun e w' => ∃ v, e = .returned v ∧ TellQ w0 L h.g (h.abs.make (decide (1 ≤ o.M) && decide (o.M ≤ 64)) (2 + o.M) ⟨9, [], [], 0, o.M, false⟩) (h.abs.makeV (decide (1 ≤ o.M) && decide (o.M ≤ 64)) (2 + o.M) 9) v w' := by
  go_enter Tryz.func11, Tryz.ntmps11
  go_upto_region 2 with (fail)
  have hm1 := ((hm.alloc (.cells (cHO o).toArray 38)).alloc (.cells (sC 0 0 0 0 false 0 none 0 0 none 0 0 0 0 false none 0 0).toArray 43)).alloc (.cells (sC 0 0 0 0 false 0 none 0 0 none 0 0 0 0 false none 0 0).toArray 43)
  simp only [World.size_alloc] at hm1
  generalize hgb : w.heap.size = g at hm1 ⊢
  generalize hw1 : ((w.alloc (.cells (cHO o).toArray 38)).alloc (.cells (sC 0 0 0 0 false 0 none 0 0 none 0 0 0 0 false none 0 0).toArray 43)).alloc (.cells (sC 0 0 0 0 false 0 none 0 0 none 0 0 0 0 false none 0 0).toArray 43) = w1 at hm1
  try refine wp_world hw1 ?_
  clear hw1 hgb
  replace hm1 := hm1.pull3
  have x7 := hm1.cell m3 7 rfl
  go_wp2_with fail
  refine (refChan_ok w0 w1 (Blk (g + 1 + 1) (.cells (sC 0 0 0 0 false 0 none 0 0 none 0 0 0 0 false none 0 0).toArray 43) :: Blk (g + 1) (.cells (sC 0 0 0 0 false 0 none 0 0 none 0 0 0 0 false none 0 0).toArray 43) :: Blk g (.cells (cHO o).toArray 38) :: L) h hm1 hok o.M hl).mono ?_
  rintro e w2 ⟨rfl, h', hg', ha', hok', hm2⟩
  obtain ⟨a, b, d, hr, hr2⟩ := makeR_parts h.abs (decide (1 ≤ o.M) && decide (o.M ≤ 64)) (2 + o.M) 9
  rw [hr]
  replace hr := Fact.mk hr
  replace hr2 := Fact.mk hr2
  go_wp2_with (first | (refine wp_setat rfl 35 _ _ rfl (g + 1 + 1) 0 rfl 43 _ [.int .i64 a, .int .i64 b] (sC a b 0 0 false 0 none 0 0 none 0 0 0 0 false none 0 0) (.agg #[.int .i64 a, .int .i64 b]) rfl rfl hm2.swap sz_V (by simp [sC, obC]) (cV_one (a, b)) rfl ?_; intro w3 hs3) | (refine wp_setat rfl 4 _ _ rfl (g + 1 + 1) 4 rfl 43 _ [.bool d] (sC a b 0 0 d 0 none 0 0 none 0 0 0 0 false none 0 0) (.bool d) rfl rfl hs3 sz_bool (by simp [sC, obC]) (one_one rfl) rfl ?_; intro w4 hs4) | (refine wp_rng rfl 43 _ rfl (g + 1 + 1) 0 rfl (sC a b 0 0 d 0 none 0 0 none 0 0 0 0 false none 0 0) (rng_blk hs4 m0) row_S sz_S ?_) | (refine wp_setrow rfl 43 _ _ rfl (g + 1) rfl 43 _ (sC a b 0 0 d 0 none 0 0 none 0 0 0 0 false none 0 0) rfl hs4.pull2 sz_S rfl (sC_one _ _ _ _ _ _ _ _ _ _ _ _ _ _ _ _ _ _) ?_; intro w5 hs5))
  have hz := hs5.tail.tail.drop2
  refine bodyPost_ret (Mm.res_cell rfl _ (g + 1) 43 (sC a b 0 0 d 0 none 0 0 none 0 0 0 0 false none 0 0) (0, 0) rfl hs5 m0 row_S sz_S) rfl ?_
  rw [hr2.out]
  exact ⟨_, rfl, h', hg', ha', hok', SdQ.plain a b 0 0 d hz⟩
theorem told_array (w0 w : World) (L : List Chunk) (h : Rf) (hm : Mem w0 w (RfC h :: L)) (hok : Fact h.Ok) (o : HOp) (hx : Fact (RdC w0 2 (.slice o.A o.n o.c) (fV o.items))) (hn : o.n ≤ 1048576) (hl : h.xs.length < 16777216) :
    Calls Tryz.prog 11 #[.pointer (some ⟨h.g, 0, none⟩), .int .i64 3, .agg (cHO o).toArray] w fun e w' => ∃ v, e = .returned v ∧ TellQ w0 L h.g (h.abs.make (decide (o.n ≤ 4096)) (2 + o.n) ⟨6, o.items, [], 0, 0, false⟩) (h.abs.makeV (decide (o.n ≤ 4096)) (2 + o.n) 6) v w' := by
  go_enter Tryz.func11, Tryz.ntmps11
  go_upto_region 2 with (fail)
  have hm1 := ((hm.alloc (.cells (cHO o).toArray 38)).alloc (.cells (sC 0 0 0 0 false 0 none 0 0 none 0 0 0 0 false none 0 0).toArray 43)).alloc (.cells (sC 0 0 0 0 false 0 none 0 0 none 0 0 0 0 false none 0 0).toArray 43)
  simp only [World.size_alloc] at hm1
  generalize hgb : w.heap.size = g at hm1 ⊢
  generalize hw1 : ((w.alloc (.cells (cHO o).toArray 38)).alloc (.cells (sC 0 0 0 0 false 0 none 0 0 none 0 0 0 0 false none 0 0).toArray 43)).alloc (.cells (sC 0 0 0 0 false 0 none 0 0 none 0 0 0 0 false none 0 0).toArray 43) = w1 at hm1
  try refine wp_world hw1 ?_
  clear hw1 hgb
  replace hm1 := hm1.pull3
  have x8 := hm1.cell m3 8 rfl
  go_wp2_with fail
  refine (refArray_ok w0 w1 (Blk (g + 1 + 1) (.cells (sC 0 0 0 0 false 0 none 0 0 none 0 0 0 0 false none 0 0).toArray 43) :: Blk (g + 1) (.cells (sC 0 0 0 0 false 0 none 0 0 none 0 0 0 0 false none 0 0).toArray 43) :: Blk g (.cells (cHO o).toArray 38) :: L) h hm1 hok o.A o.n o.c o.items ⟨hx.out.gr (Mem.below hm1)⟩ hn hl).mono ?_
  rintro e w2 ⟨rfl, h', hg', ha', hok', hm2⟩
  obtain ⟨a, b, d, hr, hr2⟩ := makeR_parts h.abs (decide (o.n ≤ 4096)) (2 + o.n) 6
  rw [hr]
  replace hr := Fact.mk hr
  replace hr2 := Fact.mk hr2
  go_wp2_with (first | (refine wp_setat rfl 35 _ _ rfl (g + 1 + 1) 0 rfl 43 _ [.int .i64 a, .int .i64 b] (sC a b 0 0 false 0 none 0 0 none 0 0 0 0 false none 0 0) (.agg #[.int .i64 a, .int .i64 b]) rfl rfl hm2.swap sz_V (by simp [sC, obC]) (cV_one (a, b)) rfl ?_; intro w3 hs3) | (refine wp_setat rfl 4 _ _ rfl (g + 1 + 1) 4 rfl 43 _ [.bool d] (sC a b 0 0 d 0 none 0 0 none 0 0 0 0 false none 0 0) (.bool d) rfl rfl hs3 sz_bool (by simp [sC, obC]) (one_one rfl) rfl ?_; intro w4 hs4) | (refine wp_rng rfl 43 _ rfl (g + 1 + 1) 0 rfl (sC a b 0 0 d 0 none 0 0 none 0 0 0 0 false none 0 0) (rng_blk hs4 m0) row_S sz_S ?_) | (refine wp_setrow rfl 43 _ _ rfl (g + 1) rfl 43 _ (sC a b 0 0 d 0 none 0 0 none 0 0 0 0 false none 0 0) rfl hs4.pull2 sz_S rfl (sC_one _ _ _ _ _ _ _ _ _ _ _ _ _ _ _ _ _ _) ?_; intro w5 hs5))
  have hz := hs5.tail.tail.drop2
  refine bodyPost_ret (Mm.res_cell rfl _ (g + 1) 43 (sC a b 0 0 d 0 none 0 0 none 0 0 0 0 false none 0 0) (0, 0) rfl hs5 m0 row_S sz_S) rfl ?_
  rw [hr2.out]
  exact ⟨_, rfl, h', hg', ha', hok', SdQ.plain a b 0 0 d hz⟩
theorem told_bound (w0 w : World) (L : List Chunk) (h : Rf) (hm : Mem w0 w (RfC h :: L)) (hok : Fact h.Ok) (o : HOp) (hx : Fact (RdC w0 2 (.slice o.A o.n o.c) (fV o.items))) (hn : o.n ≤ 1048576) (hl : h.xs.length < 16777216) :
    Calls Tryz.prog 11 #[.pointer (some ⟨h.g, 0, none⟩), .int .i64 5, .agg (cHO o).toArray] w fun e w' => ∃ v, e = .returned v ∧ TellQ w0 L h.g (h.abs.make (decide (0 ≤ o.M) && decide (o.n ≤ 4096)) (2 + o.n) ⟨8, o.items, [], o.M, 0, false⟩) (h.abs.makeV (decide (0 ≤ o.M) && decide (o.n ≤ 4096)) (2 + o.n) 8) v w' := by
  go_enter Tryz.func11, Tryz.ntmps11
  go_upto_region 2 with (fail)
  have hm1 := ((hm.alloc (.cells (cHO o).toArray 38)).alloc (.cells (sC 0 0 0 0 false 0 none 0 0 none 0 0 0 0 false none 0 0).toArray 43)).alloc (.cells (sC 0 0 0 0 false 0 none 0 0 none 0 0 0 0 false none 0 0).toArray 43)
  simp only [World.size_alloc] at hm1
  generalize hgb : w.heap.size = g at hm1 ⊢
  generalize hw1 : ((w.alloc (.cells (cHO o).toArray 38)).alloc (.cells (sC 0 0 0 0 false 0 none 0 0 none 0 0 0 0 false none 0 0).toArray 43)).alloc (.cells (sC 0 0 0 0 false 0 none 0 0 none 0 0 0 0 false none 0 0).toArray 43) = w1 at hm1
  try refine wp_world hw1 ?_
  clear hw1 hgb
  replace hm1 := hm1.pull3
  have x7 := hm1.cell m3 7 rfl
  have x8 := hm1.cell m3 8 rfl
  go_wp2_with fail
  refine (refBound_ok w0 w1 (Blk (g + 1 + 1) (.cells (sC 0 0 0 0 false 0 none 0 0 none 0 0 0 0 false none 0 0).toArray 43) :: Blk (g + 1) (.cells (sC 0 0 0 0 false 0 none 0 0 none 0 0 0 0 false none 0 0).toArray 43) :: Blk g (.cells (cHO o).toArray 38) :: L) h hm1 hok o.M o.A o.n o.c o.items ⟨hx.out.gr (Mem.below hm1)⟩ hn hl).mono ?_
  rintro e w2 ⟨rfl, h', hg', ha', hok', hm2⟩
  obtain ⟨a, b, d, hr, hr2⟩ := makeR_parts h.abs (decide (0 ≤ o.M) && decide (o.n ≤ 4096)) (2 + o.n) 8
  rw [hr]
  replace hr := Fact.mk hr
  replace hr2 := Fact.mk hr2
  go_wp2_with (first | (refine wp_setat rfl 35 _ _ rfl (g + 1 + 1) 0 rfl 43 _ [.int .i64 a, .int .i64 b] (sC a b 0 0 false 0 none 0 0 none 0 0 0 0 false none 0 0) (.agg #[.int .i64 a, .int .i64 b]) rfl rfl hm2.swap sz_V (by simp [sC, obC]) (cV_one (a, b)) rfl ?_; intro w3 hs3) | (refine wp_setat rfl 4 _ _ rfl (g + 1 + 1) 4 rfl 43 _ [.bool d] (sC a b 0 0 d 0 none 0 0 none 0 0 0 0 false none 0 0) (.bool d) rfl rfl hs3 sz_bool (by simp [sC, obC]) (one_one rfl) rfl ?_; intro w4 hs4) | (refine wp_rng rfl 43 _ rfl (g + 1 + 1) 0 rfl (sC a b 0 0 d 0 none 0 0 none 0 0 0 0 false none 0 0) (rng_blk hs4 m0) row_S sz_S ?_) | (refine wp_setrow rfl 43 _ _ rfl (g + 1) rfl 43 _ (sC a b 0 0 d 0 none 0 0 none 0 0 0 0 false none 0 0) rfl hs4.pull2 sz_S rfl (sC_one _ _ _ _ _ _ _ _ _ _ _ _ _ _ _ _ _ _) ?_; intro w5 hs5))
  have hz := hs5.tail.tail.drop2
  refine bodyPost_ret (Mm.res_cell rfl _ (g + 1) 43 (sC a b 0 0 d 0 none 0 0 none 0 0 0 0 false none 0 0) (0, 0) rfl hs5 m0 row_S sz_S) rfl ?_
  rw [hr2.out]
  exact ⟨_, rfl, h', hg', ha', hok', SdQ.plain a b 0 0 d hz⟩
theorem told_object (w0 w : World) (L : List Chunk) (h : Rf) (hm : Mem w0 w (RfC h :: L)) (hok : Fact h.Ok) (o : HOp) :
    Calls Tryz.prog 11 #[.pointer (some ⟨h.g, 0, none⟩), .int .i64 2, .agg (cHO o).toArray] w fun e w' => ∃ v, e = .returned v ∧ TellQ w0 L h.g (h.abs) (⟨(0, 0), 0, 0, h.abs.is o.M, h.abs.at o.M, []⟩) v w' := by
  go_enter Tryz.func11, Tryz.ntmps11
  go_upto_region 2 with (fail)
  have hm1 := ((hm.alloc (.cells (cHO o).toArray 38)).alloc (.cells (sC 0 0 0 0 false 0 none 0 0 none 0 0 0 0 false none 0 0).toArray 43)).alloc (.cells (sC 0 0 0 0 false 0 none 0 0 none 0 0 0 0 false none 0 0).toArray 43)
  simp only [World.size_alloc] at hm1
  generalize hgb : w.heap.size = g at hm1 ⊢
  generalize hw1 : ((w.alloc (.cells (cHO o).toArray 38)).alloc (.cells (sC 0 0 0 0 false 0 none 0 0 none 0 0 0 0 false none 0 0).toArray 43)).alloc (.cells (sC 0 0 0 0 false 0 none 0 0 none 0 0 0 0 false none 0 0).toArray 43) = w1 at hm1
  try refine wp_world hw1 ?_
  clear hw1 hgb
  replace hm1 := hm1.pull3
  have x7 := hm1.cell m3 7 rfl
  go_wp2_with fail
  refine (refObject_ok w0 w1 (Blk (g + 1 + 1) (.cells (sC 0 0 0 0 false 0 none 0 0 none 0 0 0 0 false none 0 0).toArray 43) :: Blk (g + 1) (.cells (sC 0 0 0 0 false 0 none 0 0 none 0 0 0 0 false none 0 0).toArray 43) :: Blk g (.cells (cHO o).toArray 38) :: L) h hm1 hok o.M).mono ?_
  rintro e w2 ⟨v, rfl, A2, d2, K2, k2, rfl, hm2⟩
  obtain ⟨ob, hob⟩ : ∃ ob, ob = h.abs.at o.M := ⟨_, rfl⟩
  obtain ⟨is, his⟩ : ∃ is, is = h.abs.is o.M := ⟨_, rfl⟩
  rw [← hob] at hm2 ⊢
  rw [← his]
  replace hob := Fact.mk hob
  replace his := Fact.mk his
  go_wp2_with (first | (refine wp_setat rfl 41 _ _ rfl (g + 1 + 1) 5 rfl 43 _ (obC ob.kind A2 ob.items.length d2 K2 ob.keys.length k2 ob.fn ob.cap ob.shut) (sC 0 0 0 0 false ob.kind A2 ob.items.length d2 K2 ob.keys.length k2 ob.fn ob.cap ob.shut none 0 0) (.agg (obC ob.kind A2 ob.items.length d2 K2 ob.keys.length k2 ob.fn ob.cap ob.shut).toArray) rfl rfl hm2.pull3 sz_O (by simp [sC, obC]) (obC_one _ _ _ _ _ _ _ _ _ _) rfl ?_; intro w3 hs3) | (refine wp_setat rfl 4 _ _ rfl (g + 1 + 1) 4 rfl 43 _ [.bool is] (sC 0 0 0 0 is ob.kind A2 ob.items.length d2 K2 ob.keys.length k2 ob.fn ob.cap ob.shut none 0 0) (.bool is) rfl rfl hs3 sz_bool (by simp [sC, obC]) (one_one rfl) rfl ?_; intro w4 hs4) | (refine wp_rng rfl 43 _ rfl (g + 1 + 1) 0 rfl (sC 0 0 0 0 is ob.kind A2 ob.items.length d2 K2 ob.keys.length k2 ob.fn ob.cap ob.shut none 0 0) (rng_blk hs4 m0) row_S sz_S ?_) | (refine wp_setrow rfl 43 _ _ rfl (g + 1) rfl 43 _ (sC 0 0 0 0 is ob.kind A2 ob.items.length d2 K2 ob.keys.length k2 ob.fn ob.cap ob.shut none 0 0) rfl hs4.pull4 sz_S rfl (sC_one _ _ _ _ _ _ _ _ _ _ _ _ _ _ _ _ _ _) ?_; intro w5 hs5))
  have hz := hs5.tail.tail.sub (List.Sublist.cons_cons _ (List.Sublist.cons_cons _ (List.Sublist.cons_cons _ (List.sublist_cons_self _ _))))
  refine bodyPost_ret (Mm.res_cell rfl _ (g + 1) 43 (sC 0 0 0 0 is ob.kind A2 ob.items.length d2 K2 ob.keys.length k2 ob.fn ob.cap ob.shut none 0 0) (0, 0) rfl hs5 m0 row_S sz_S) rfl ?_
  rw [← hob.out, ← his.out]
  exact ⟨_, rfl, h, rfl, rfl, hok.out, A2, d2, K2, k2, none, 0, rfl, (Mem.nil hz 1 none).back2⟩
theorem told_counts (w0 w : World) (L : List Chunk) (h : Rf) (hm : Mem w0 w (RfC h :: L)) (hok : Fact h.Ok) (o : HOp) :
    Calls Tryz.prog 11 #[.pointer (some ⟨h.g, 0, none⟩), .int .i64 1, .agg (cHO o).toArray] w fun e w' => ∃ v, e = .returned v ∧ TellQ w0 L h.g (h.abs) (sdV (0, 0) h.abs.objs.length h.abs.spent false) v w' := by
  go_enter Tryz.func11, Tryz.ntmps11
  go_upto_region 2 with (fail)
  have hm1 := ((hm.alloc (.cells (cHO o).toArray 38)).alloc (.cells (sC 0 0 0 0 false 0 none 0 0 none 0 0 0 0 false none 0 0).toArray 43)).alloc (.cells (sC 0 0 0 0 false 0 none 0 0 none 0 0 0 0 false none 0 0).toArray 43)
  simp only [World.size_alloc] at hm1
  generalize hgb : w.heap.size = g at hm1 ⊢
  generalize hw1 : ((w.alloc (.cells (cHO o).toArray 38)).alloc (.cells (sC 0 0 0 0 false 0 none 0 0 none 0 0 0 0 false none 0 0).toArray 43)).alloc (.cells (sC 0 0 0 0 false 0 none 0 0 none 0 0 0 0 false none 0 0).toArray 43) = w1 at hm1
  try refine wp_world hw1 ?_
  clear hw1 hgb
  replace hm1 := hm1.pull3
  obtain ⟨_, _, c2, _⟩ := Rf.read hm1 m0
  go_wp2_with (first | (refine wp_setat rfl 2 _ _ rfl (g + 1 + 1) 2 rfl 43 _ [.int .i64 h.xs.length] (sC 0 0 h.xs.length 0 false 0 none 0 0 none 0 0 0 0 false none 0 0) (.int .i64 h.xs.length) rfl rfl hm1.swap sz_i64 (by simp [sC]) (one_one rfl) rfl ?_; intro w2 hs2; obtain ⟨_, d1, _, _⟩ := Rf.read hs2 m1) | (refine wp_setat rfl 3 _ _ rfl (g + 1 + 1) 3 rfl 43 _ [.int .i64 h.spent] (sC 0 0 h.xs.length h.spent false 0 none 0 0 none 0 0 0 0 false none 0 0) (.int .i64 h.spent) rfl rfl hs2 sz_int (by simp [sC]) (one_one rfl) rfl ?_; intro w3 hs3) | (refine wp_rng rfl 43 _ rfl (g + 1 + 1) 0 rfl (sC 0 0 h.xs.length h.spent false 0 none 0 0 none 0 0 0 0 false none 0 0) (rng_blk hs3 m0) row_S sz_S ?_) | (refine wp_setrow rfl 43 _ _ rfl (g + 1) rfl 43 _ (sC 0 0 h.xs.length h.spent false 0 none 0 0 none 0 0 0 0 false none 0 0) rfl hs3.pull2 sz_S rfl (sC_one _ _ _ _ _ _ _ _ _ _ _ _ _ _ _ _ _ _) ?_; intro w4 hs4))
  have hz := hs4.tail.tail.drop2
  refine bodyPost_ret (Mm.res_cell rfl _ (g + 1) 43 (sC 0 0 h.xs.length h.spent false 0 none 0 0 none 0 0 0 0 false none 0 0) (0, 0) rfl hs4 m0 row_S sz_S) rfl ?_
  have hl : h.abs.objs.length = h.xs.length := h.abs_len
  rw [hl]
  exact ⟨_, rfl, h, rfl, rfl, hok.out, SdQ.plain 0 0 _ _ false hz⟩
end Go.Proofs.YtpibchjkmaghnaaGreat
namespace Go.Proofs.YtpibchjkmaghnaaGreat
open Go.RowKit Go.Mm
set_option maxHeartbeats 4000000
set_option maxRecDepth 100000
set_option linter.unusedSimpArgs false
/-- Calls that are alike on both heaps: what they leave, what they answer. -/
structure PlayH (w0 : World) (ks : List Nat) (S : Nat → Hs → HOp → Hs) (R : Nat → Hs → HOp → Sd) : Prop where
  told : ∀ c, c ∈ ks → ∀ (r : Rf) (w : World) (L : List Chunk) (o : HOp), Mem w0 w (RfC r :: L) → r.Ok → RdC w0 2 (.slice o.A o.n o.c) (fV o.items) → o.n ≤ 1048576 → r.xs.length < 8388608 →
    Calls Tryz.prog 11 #[.pointer (some ⟨r.g, 0, none⟩), .int .i64 c, .agg (cHO o).toArray] w fun e w' => ∃ v, e = .returned v ∧ TellQ w0 L r.g (S c r.abs o) (R c r.abs o) v w'
  ask : ∀ c, c ∈ ks → ∀ (h : Hp) (w : World) (L : List Chunk) (o : HOp), Mem w0 w (HpC h :: L) → h.Ok → RdC w0 2 (.slice o.A o.n o.c) (fV o.items) → o.n ≤ 1048576 → h.ths.length < 8388608 →
    Calls Tryz.prog 12 #[.pointer (some ⟨h.g, 0, none⟩), .int .i64 c, .agg (cHO o).toArray] w fun e w' => ∃ v, e = .returned (.tuple #[v, .bool true]) ∧ AskQ w0 L h.g (S c h.abs o) (R c h.abs o) v w'
  grow : ∀ c, c ∈ ks → ∀ (s : Hs) (o : HOp), (S c s o).objs.length ≤ s.objs.length + 1
  size : ∀ c, c ∈ ks → ∀ (h : Hp) (o : HOp), h.Ok → o.items.length ≤ 1048576 → (R c h.abs o).ob.items.length ≤ 16777216 ∧ (R c h.abs o).ob.keys.length ≤ 16777216 ∧ (R c h.abs o).list.length ≤ 16777216
def kindsV (ks : List Nat) : List Value := ks.map fun (k : Nat) => .int .i64 (k : Int)
theorem m8 {α : Type} {a b c d e f g h x : α} {l : List α} : x ∈ a :: b :: c :: d :: e :: f :: g :: h :: x :: l := .tail _ m7
theorem play_ok (w0 w : World) (L : List Chunk) (ks : List Nat) (S : Nat → Hs → HOp → Hs) (R : Nat → Hs → HOp → Sd) (H : Fact (PlayH w0 ks S R)) (hk0 : 0 < ks.length) (hk1 : ks.length ≤ 20)
    (h0 : Hp) (r0 : Rf) (hm : Mem w0 w (HpC h0 :: RfC r0 :: L)) (hok0 : h0.Ok) (rok0 : r0.Ok) (habs : r0.abs = h0.abs) (hsz0 : h0.ths.length ≤ 2097152) (gk : Nat) (hgk : Fact (Blk gk (.cells (kindsV ks).toArray 3) ∈ L))
    (A : Option Addr) (m c : Nat) (ops : List HOp) (hs : Fact (RdC w0 9 (.slice A m c) (ops.flatMap cHO))) (hit : ∀ x, x ∈ ops → RdC w0 2 (.slice x.A x.n x.c) (fV x.items) ∧ x.n ≤ 1048576) (hmm : m ≤ 1048576) :
    Calls Tryz.prog 9 #[.pointer (some ⟨h0.g, 0, none⟩), .pointer (some ⟨r0.g, 0, none⟩), .slice (some ⟨gk, 0, none⟩) ks.length ks.length, .slice A m c] w fun e w' => e = .returned (.bool true) ∧ Gr w0 w' := by
  have hit := Fact.mk hit
  have hkl := Fact.mk (show (kindsV ks).length = ks.length by simp [kindsV])
  have hpk := fun w k => pickF_ok w k ks.length ks.length rfl (by omega) hk0
  have hpr := fun k => pickF_rng k ks.length hk0
  have hkat : ∀ j, j < ks.length → ∃ cc : Nat, cc ∈ ks ∧ (kindsV ks)[j]? = some (.int .i64 cc) := fun j hj => ⟨ks[j], List.getElem_mem hj, by simp [kindsV, hj]⟩
  generalize hml : ks.length = kl at hkl hpk hpr hkat
  clear hk0 hml
  generalize hg0 : h0.g = hg
  generalize hr0 : r0.g = rg
  replace hpk := Fact.mk hpk
  replace hpr := Fact.mk hpr
  replace hkat := Fact.mk hkat
  have hstart : Fact (∃ (h : Hp) (r : Rf), h.g = hg ∧ r.g = rg ∧ h.Ok ∧ r.Ok ∧ r.abs = h.abs ∧ h.ths.length ≤ 2097152 + 0 ∧ Mem w0 w (HpC h :: RfC r :: L)) := ⟨h0, r0, hg0, hr0, hok0, rok0, habs, hsz0, hm⟩
  clear hm hok0 rok0 habs hsz0 hg0 hr0
  go_enter Tryz.func9, Tryz.ntmps9
  go_wp2
  go_loopw [9] (fun s9 w' => ∃ (k : Nat), s9 = .int .i64 k ∧ k ≤ m ∧ ∃ (h : Hp) (r : Rf), h.g = hg ∧ r.g = rg ∧ h.Ok ∧ r.Ok ∧ r.abs = h.abs ∧ h.ths.length ≤ 2097152 + k ∧ Mem w0 w' (HpC h :: RfC r :: L)) (fun s9 _ => m - (intOf s9).toNat)
  case atStart => exact ⟨0, rfl, by omega, hstart.out⟩
  case round =>
    obtain ⟨k, rfl, hk, h, r, rfl, rfl, hok, rok, habs, hsz, hmr⟩ := hrel
    clear hstart
    have hok := Fact.mk hok
    have rok := Fact.mk rok
    have habs := Fact.mk habs
    by_cases hlt : k < m
    · obtain ⟨b, o, rfl, hc, hkm⟩ := rdHO_at hs.out k hlt
      have hxm : ops.getD k hop0 ∈ ops := by rw [List.getD_eq_getElem?_getD, List.getElem?_eq_getElem hkm]; exact List.getElem_mem hkm
      generalize ops.getD k hop0 = x at hc hxm
      obtain ⟨hxr, hxn⟩ := hit.out x hxm
      have hxr := Fact.mk hxr
      have hc := Fact.mk hc
      have wrapk : wrap64 ((k : Int) + 1) = (k : Int) + 1 := IntWalk.wrap64_in _ (by omega)
      go_upto_region 5 with (first | (refine wp_rng rfl 38 _ rfl b (o + k * 9) rfl (cHO x) (rng_gr hc.out hmr.below) row_HO sz_HO ?_) | (refine wp_setrow rfl 38 _ _ rfl wr.heap.size rfl 38 _ (cHO x) rfl (hmr.alloc _) sz_HO rfl (cHO_one x) ?_; intro w6 hm6))
      generalize wr.heap.size = g10 at hm6 ⊢
      have y1 := hm6.cell m0 1 rfl
      clear hmr hxm
      go_wp2_with fail
      refine (hpk.out w6 x.kd).mono ?_
      rintro e w7 ⟨rfl, rfl⟩
      have hj := hpr.out x.kd
      obtain ⟨j, hj'⟩ := Int.eq_ofNat_of_zero_le hj.1
      rw [hj'] at hj ⊢
      have hj5 : j < kl := by omega
      clear hj' hj y1
      obtain ⟨cc, hcc, hcell⟩ := hkat.out j hj5
      have z1 := hm6.cell (.tail _ (.tail _ (.tail _ hgk.out))) j hcell
      clear hcell
      replace hcc := Fact.mk hcc
      have hxl := rdV_len hxr.out
      have hRs := H.out.size cc hcc.out h x hok.out (by omega)
      have hgrow := H.out.grow cc hcc.out h.abs x
      have htold := H.out.told cc hcc.out r w7 _ x hm6.pull2 rok.out hxr.out hxn (by have := r.abs_len; rw [habs.out, h.abs_len'] at this; omega)
      have hask := fun (w : World) (L : List Chunk) (hm : Mem w0 w (HpC h :: L)) => H.out.ask cc hcc.out h w L x hm hok.out hxr.out hxn (by omega)
      rw [habs.out] at htold
      have hSl : (S cc h.abs x).objs.length ≤ 2097152 + (k + 1) := by rw [h.abs_len'] at hgrow; omega
      generalize S cc h.abs x = s1 at htold hask hSl
      generalize R cc h.abs x = q1 at htold hask hRs
      clear hgrow hxl
      replace htold := Fact.mk htold
      replace hask := Fact.mk hask
      replace hRs := Fact.mk hRs
      go_wp2_with (refine wp_rng rfl 38 _ rfl g10 0 rfl (cHO x) (rng_blk hm6 m0) row_HO sz_HO ?_)
      refine htold.out.mono ?_
      rintro e w8 ⟨v, rfl, r', hrg', hra', rok', A1, c1, K1, k1, LA1, lc1, rfl, hm8⟩
      clear z1 hm6 htold
      go_wp2_with (first | (refine wp_setrow rfl 43 _ _ rfl w8.heap.size rfl 43 _ (sdC q1 A1 c1 K1 k1 LA1 lc1) rfl (hm8.alloc _) sz_S rfl (sC_one _ _ _ _ _ _ _ _ _ _ _ _ _ _ _ _ _ _) ?_; intro w9 hm9) | (refine wp_rng rfl 38 _ rfl g10 0 rfl (cHO x) (rng_blk hm9 m5) row_HO sz_HO ?_))
      generalize w8.heap.size = g12 at hm9 ⊢
      clear hm8
      refine (hask.out w9 _ hm9.pull6).mono ?_
      rintro e w10 ⟨v, rfl, h', hhg', hha', hok', A2, c2, K2, k2, LA2, lc2, rfl, hm10⟩
      clear hm9 hask
      go_wp2_with (first | (refine wp_setrow rfl 43 _ _ rfl w10.heap.size rfl 43 _ (sdC q1 A2 c2 K2 k2 LA2 lc2) rfl (hm10.alloc _) sz_S rfl (sC_one _ _ _ _ _ _ _ _ _ _ _ _ _ _ _ _ _ _) ?_; intro w11 hm11) | (refine wp_rng rfl 43 _ rfl w10.heap.size 0 rfl (sdC q1 A2 c2 K2 k2 LA2 lc2) (rng_blk hm11 m0) row_S sz_S ?_) | (refine wp_rng rfl 43 _ rfl g12 0 rfl (sdC q1 A1 c1 K1 k1 LA1 lc1) (rng_blk hm11 m5) row_S sz_S ?_))
      generalize w10.heap.size = g13 at hm11 ⊢
      clear hm10
      refine (same_ok w11 q1 _ _ ⟨A2, c2, K2, k2, LA2, lc2, rfl, hm11.rd m1, hm11.rd m2, hm11.rd m3⟩ ⟨A1, c1, K1, k1, LA1, lc1, rfl, hm11.rd m6, hm11.rd m7, hm11.rd m8⟩ hRs.out.1 hRs.out.2.1 hRs.out.2.2).mono ?_
      rintro e w12 ⟨rfl, hg12⟩
      have hz : Mem w0 w12 (HpC h' :: RfC r' :: L) := (hm11.tail.tail.tail.tail.gr hg12).sub (List.Sublist.cons_cons _ (.cons _ (.cons _ (.cons _ (.cons _ (List.Sublist.cons_cons _ (List.sublist_cons_self _ _)))))))
      clear hm11 hg12
      go_wp2_with fail
      go_roundw
      case rel => exact ⟨k + 1, by go_num, by omega, h', r', hhg', hrg', hok', rok', by rw [hha', hra'], by rw [← h'.abs_len', hha']; exact hSl, hz⟩
      case measure => first | exact measP_lt hlt | exact measN_lt hlt wrapk
    · obtain rfl : k = m := by omega
      go_wp2_with fail
      refine (alike_ok w0 wr L h r hmr hok rok ⟨by rw [habs.out]⟩ (congrArg Hs.spent habs.out)).mono ?_
      rintro e w8 ⟨rfl, hm8⟩
      go_wp2_with fail
      go_ret
      exact ⟨rfl, hm8.below⟩
end Go.Proofs.YtpibchjkmaghnaaGreat
namespace Go.Proofs.YtpibchjkmaghnaaGreat
open Go.RowKit Go.Mm
set_option maxHeartbeats 4000000
set_option maxRecDepth 100000
set_option linter.unusedSimpArgs false
def mkS (c : Nat) (s : Hs) (o : HOp) : Hs := match c with
  | 0 => s.spend o.M
  | 3 => s.make (decide (o.n ≤ 4096)) (2 + o.n) ⟨6, o.items, [], 0, 0, false⟩
  | 4 => s.make true 2 ⟨7, [], [], 0, 0, false⟩
  | 5 => s.make (decide (0 ≤ o.M) && decide (o.n ≤ 4096)) (2 + o.n) ⟨8, o.items, [], o.M, 0, false⟩
  | 6 => s.make (decide (1 ≤ o.M) && decide (o.M ≤ 64)) (2 + o.M) ⟨9, [], [], 0, o.M, false⟩
  | _ => s
def mkR (c : Nat) (s : Hs) (o : HOp) : Sd := match c with
  | 0 => sdV (0, 0) 0 0 (s.room o.M)
  | 1 => sdV (0, 0) s.objs.length s.spent false
  | 2 => ⟨(0, 0), 0, 0, s.is o.M, s.at o.M, []⟩
  | 3 => s.makeV (decide (o.n ≤ 4096)) (2 + o.n) 6
  | 4 => s.makeV true 2 7
  | 5 => s.makeV (decide (0 ≤ o.M) && decide (o.n ≤ 4096)) (2 + o.n) 8
  | 6 => s.makeV (decide (1 ≤ o.M) && decide (o.M ≤ 64)) (2 + o.M) 9
  | _ => sd0
theorem make_len (s : Hs) (may : Bool) (n : Int) (o : Ob) : (s.make may n o).objs.length ≤ s.objs.length + 1 := by
  unfold Hs.make
  split <;> simp
theorem spend_len (s : Hs) (n : Int) : (s.spend n).objs.length ≤ s.objs.length + 1 := by
  unfold Hs.spend
  split <;> simp
theorem makeV_small (s : Hs) (may : Bool) (n k : Int) : (s.makeV may n k).ob.items.length ≤ 16777216 ∧ (s.makeV may n k).ob.keys.length ≤ 16777216 ∧ (s.makeV may n k).list.length ≤ 16777216 := by
  unfold Hs.makeV
  split <;> exact ⟨by simp [sdV, ob0], by simp [sdV, ob0], by simp [sdV]⟩
theorem at_small {h : Hp} (hok : h.Ok) (i : Int) : (h.abs.at i).items.length ≤ 16777216 ∧ (h.abs.at i).keys.length ≤ 16777216 := by
  unfold Hs.at
  split
  · rename_i q
    unfold Hs.is at q
    simp only [Bool.and_eq_true, decide_eq_true_eq] at q
    have hi : i.toNat < h.objs.length := by have : h.abs.objs.length = h.objs.length := rfl; omega
    have := hok.sz (o := h.abs.objs.getD i.toNat ob0) (by
      show h.objs.getD i.toNat ob0 ∈ h.objs
      rw [List.getD_eq_getElem?_getD, List.getElem?_eq_getElem hi]
      exact List.getElem_mem hi)
    omega
  · simp [ob0]
end Go.Proofs.YtpibchjkmaghnaaGreat
namespace Go.Proofs.YtpibchjkmaghnaaGreat
open Go.RowKit Go.Mm
open Go.Maps (Keyed)
set_option maxHeartbeats 4000000
set_option maxRecDepth 100000
theorem kd_i64 : Keyed Tryz.prog 2 := Maps.int_keyed (show Tryz.prog.underlying 2 = some (.int .i64) by kernel_rfl)
theorem ty_k64 : Tryz.prog.underlying 2 = some (.int .i64) := by kernel_rfl
theorem ty_mp : Tryz.prog.underlying 131 = some (.map 2 3) := by kernel_rfl
theorem zr_int (w : World) : (zeroValue 3).run Tryz.prog w = .ok (.int .i64 0) w := by kernel_rfl
def fvO (o : Option Nat) (z : DataW Unit) : DataW Unit := match o with | some i => .lit (.int .i64 (i : Nat)) | none => z
/-- A map that reads as a function, of at most so many entries. -/
def mapF (b n : Nat) (f : Int → Option Nat) (w : World) : Prop := ∃ D : DataW Unit, w.ownsMap Tryz.prog 2 (plainElem Tryz.prog 3) b n D ∧ Maps.Tidy D ∧ ∀ key : Int, (Lit.int .i64 key).wf = true → ∀ z, D.atKey (.int .i64 key) z = fvO (f key) z
def MapF (b n : Nat) (f : Int → Option Nat) : Chunk :=
  ⟨fun k => k = b, mapF b n f, fun w w' h hw => by
    obtain ⟨D, ⟨es, clock, hb, F, hs, hD⟩, hT, ha⟩ := hw
    exact ⟨D, ⟨es, clock, by rw [h b rfl]; exact hb, F, hs, hD⟩, hT, ha⟩⟩
theorem mapOk_F {b : Nat} {ks : List Int} {w : World} : mapOk (some b) ks w ↔ mapF b ks.length (fun k => ks.idxOf? k) w := Iff.rfl
theorem fvO_lit {o : Option Nat} {c : Int} (h : fvO o (.lit (.int .i64 0)) = .lit (.int .i64 c)) : c = (o.getD 0 : Nat) := by
  cases o with
  | none => simp [fvO] at h; simp [← h]
  | some i => simp [fvO] at h; simp [← h]
theorem has_of {D : DataW Unit} {k : Int} {o : Option Nat} (h : ∀ z, D.atKey (.int .i64 k) z = fvO o z) : Maps.has D (.int .i64 k) = o.isSome := by
  cases o with
  | none => exact Maps.has_false_of_atKey h
  | some i => exact Maps.has_true_of_atKey h
theorem mapF_look {b n : Nat} {f : Int → Option Nat} {w : World} (h : mapF b n f w) (key : Int) (hw : (Lit.int .i64 key).wf = true) :
    (Instr.lookup 131 (.map (some b)) (.int .i64 key) true).run Tryz.prog w = .ok (.tuple #[.int .i64 ((f key).getD 0 : Nat), .bool (f key).isSome]) w := by
  obtain ⟨D, hown, _, ha⟩ := h
  obtain ⟨v, ps, hrun, hv⟩ := hown.look_ok kd_i64 ty_mp (zr_int w) (plainElem_int ty_int (by decide)) (Maps.keyOf_int_mk ty_k64 hw)
  obtain ⟨c, rfl, hc, _⟩ := plainElem_int_inv ty_int hv
  simp only [Prod.mk.injEq] at hc
  rw [ha key hw] at hc
  rw [hrun, has_of (ha key hw), fvO_lit hc.1]
theorem mapOk_look {mp : Option Nat} {ks : List Int} {w : World} (h : mapOk mp ks w) (key : Int) (hw : (Lit.int .i64 key).wf = true) :
    (Instr.lookup 131 (.map mp) (.int .i64 key) true).run Tryz.prog w = .ok (.tuple #[.int .i64 ((ks.idxOf? key).getD 0 : Nat), .bool (ks.idxOf? key).isSome]) w := by
  cases mp with
  | none =>
    obtain rfl : ks = [] := h
    exact Maps.look_nil true kd_i64 ty_mp (zr_int w) (Maps.keyOf_int_mk ty_k64 hw)
  | some b => exact mapF_look (mapOk_F.1 h) key hw
theorem mapTurned_upd {b : Nat} {w w' : World} (h : w.mapTurned w' b) : Upd (fun k => k = b) w w' := by
  obtain ⟨es, clock, es', clock', hb, rfl⟩ := h
  exact ⟨rfl, rfl, rfl, by simp [Go.ChangeMaps.setBlock], fun k _ hk => Go.ChangeMaps.heap_setBlock_other hb _ hk⟩
def updF (f : Int → Option Nat) (key : Int) (i : Nat) (k : Int) : Option Nat := if k = key then some i else f k
def delF (f : Int → Option Nat) (key : Int) (k : Int) : Option Nat := if k = key then none else f k
theorem lit_ne {a b : Int} (h : a ≠ b) : (Lit.int .i64 a) ≠ (Lit.int .i64 b) := fun e => h (by cases e; rfl)
theorem isKey (k : Int) : WideAt.IsKeyLit (.int .i64 k) := trivial
theorem mapF_put {b n : Nat} {f : Int → Option Nat} {w : World} (h : mapF b n f w) (hn : n < maxLen) (key : Int) (hw : (Lit.int .i64 key).wf = true) (i : Nat) (hi : i < 9223372036854775808) :
    ∃ w', (Instr.mapUpdate 131 (.map (some b)) (.int .i64 key) (.int .i64 i)).run Tryz.prog w = .ok () w' ∧ mapF b (if (f key).isSome then n else n + 1) (updF f key i) w' ∧ w.mapTurned w' b := by
  obtain ⟨D, hown, hT, ha⟩ := h
  obtain ⟨w', hrun, h1, h2⟩ := hown.store kd_i64 ty_mp hn (Maps.keyOf_int_mk ty_k64 hw) (plainElem_int (H := Unit) ty_int (show (Lit.int .i64 (i : Int)).wf = true by simp [Lit.wf, IntKind.min, IntKind.max, IntKind.signed, IntKind.bits]; omega))
  refine ⟨w', hrun, ⟨D.put (.int .i64 key) (.lit (.int .i64 (i : Int))), ?_, hT.put (isKey key) _, fun k hk z => ?_⟩, h2⟩
  · obtain ⟨es, clock, hb, F, hs, hD⟩ := h1
    refine ⟨es, clock, hb, F, ?_, hD⟩
    split
    · rename_i hf
      have e1 := Maps.size_put hT (k := Lit.int .i64 key) (DataW.lit (.int .i64 (i : Int)))
      rw [has_of (ha key hw), hf, if_pos rfl] at e1
      have e2 : Maps.size (DataW.put D (Lit.int .i64 key) (DataW.lit (.int .i64 (i : Int)))) = es.size := by rw [hD]; simp [Maps.size, length_sorted]
      have := hown.size_le
      omega
    · exact hs
  · unfold updF
    by_cases q : k = key
    · subst q
      rw [if_pos rfl, Maps.atKey_put_same hT.isMap (isKey k)]
      rfl
    · rw [if_neg q, Maps.atKey_put_other (lit_ne q), ha k hk]
theorem mapF_del {b n : Nat} {f : Int → Option Nat} {w : World} (h : mapF b n f w) (key : Int) (hw : (Lit.int .i64 key).wf = true) (hf : (f key).isSome = true) (ty : TypeId) :
    ∃ w', (Builtin.delete_ #[131, 2] ty #[.map (some b), .int .i64 key]).run Tryz.prog w = .ok (.tuple #[]) w' ∧ mapF b (n - 1) (delF f key) w' ∧ w.mapTurned w' b := by
  obtain ⟨D, hown, hT, ha⟩ := h
  obtain ⟨w', hrun, h1, h2⟩ := hown.drop kd_i64 ty_mp (Maps.keyOf_int_mk ty_k64 hw) ty
  refine ⟨w', hrun, ⟨D.del (.int .i64 key), ?_, hT.del _, fun k hk z => ?_⟩, h2⟩
  · obtain ⟨es, clock, hb, F, hs, hD⟩ := h1
    refine ⟨es, clock, hb, F, ?_, hD⟩
    have e1 := Maps.size_del hT (k := Lit.int .i64 key)
    rw [has_of (ha key hw), hf, if_pos rfl] at e1
    have e2 : Maps.size (DataW.del D (Lit.int .i64 key)) = es.size := by rw [hD]; simp [Maps.size, length_sorted]
    have := hown.size_le
    omega
  · unfold delF
    by_cases q : k = key
    · subst q
      rw [if_pos rfl, Maps.atKey_del_same]
      rfl
    · rw [if_neg q, Maps.atKey_del_other (lit_ne q), ha k hk]
section
variable {ops : Array Oper} {rest : List Oper} {o : Oper} {a : Act} {Q : Exit → Act → World → Prop} {w0 w : World} {L : List Chunk}
theorem wp_mapput (hg : o.guard = none) (m x v : Operand) (hop : o.op = .mapUpdate 131 m x v) (b n : Nat) (f : Int → Option Nat) (hm : a.eval m = .map (some b)) (hM : Mem w0 w (MapF b n f :: L)) (hn : n < maxLen) (key : Int) (hx : a.eval x = .int .i64 key) (hw : (Lit.int .i64 key).wf = true) (i : Nat) (hv : a.eval v = .int .i64 i) (hi : i < 9223372036854775808)
    (hK : ∀ w', Mem w0 w' (MapF b (if (f key).isSome then n else n + 1) (updF f key i) :: L) → wpList Tryz.prog ops Q rest (a.put o.dst undef) w') : wpList Tryz.prog ops Q (o :: rest) a w := by
  refine wpList_plain hg fun K' hK' => ?_
  obtain ⟨w', hrun, r1, r2⟩ := mapF_put (hM.ok _ m0) hn key hw i hi
  unfold Oper.wp
  simp [execOp, hop, hm, hx, hv, hrun, Result.andThen]
  exact hK' _ _ (hK w' (hM.upd (mapTurned_upd r2) r1 (fun k hk => .inl hk)))
theorem wp_mapdel (hg : o.guard = none) (m x : Operand) (hop : o.op = .call { callee := .builtin .delete, args := #[m, x], argTypes := #[131, 2] }) (b n : Nat) (f : Int → Option Nat) (hm : a.eval m = .map (some b)) (hM : Mem w0 w (MapF b n f :: L)) (key : Int) (hx : a.eval x = .int .i64 key) (hw : (Lit.int .i64 key).wf = true) (hf : (f key).isSome = true)
    (hK : ∀ w', Mem w0 w' (MapF b (n - 1) (delF f key) :: L) → wpList Tryz.prog ops Q rest (a.put o.dst (.tuple #[])) w') : wpList Tryz.prog ops Q (o :: rest) a w := by
  refine wpList_plain hg fun K' hK' => ?_
  obtain ⟨w', hrun, r1, r2⟩ := mapF_del (hM.ok _ m0) key hw hf o.type
  unfold Oper.wp
  simp only [execOp, hop, resolve, invoke, builtin, Sem.run_bind, Sem.run_pure, Result.andThen_ok, List.map_toArray, List.map_cons, List.map_nil, hm, hx, hrun]
  exact hK' _ _ (hK w' (hM.upd (mapTurned_upd r2) r1 (fun k hk => .inl hk)))
end
theorem Mem.toF {w0 w : World} {L : List Chunk} {b : Nat} {ks : List Int} (h : Mem w0 w (MapC (some b) ks :: L)) : Mem w0 w (MapF b ks.length (fun k => ks.idxOf? k) :: L) := by
  refine ⟨h.below, fun c hc => ?_, fun c hc k hk => ?_, List.pairwise_cons.2 ⟨fun d hd k hk => ?_, (List.pairwise_cons.1 h.dis).2⟩⟩
  · rcases List.mem_cons.1 hc with rfl | hc
    · exact h.ok (MapC (some b) ks) m0
    · exact h.ok c (.tail _ hc)
  · rcases List.mem_cons.1 hc with rfl | hc
    · exact h.rng (MapC (some b) ks) m0 k (by show some b = some k; rw [show k = b from hk])
    · exact h.rng c (.tail _ hc) k hk
  · exact (List.pairwise_cons.1 h.dis).1 d hd k (by show some b = some k; rw [show k = b from hk])
theorem Mem.toC {w0 w : World} {L : List Chunk} {b n : Nat} {f : Int → Option Nat} {ks : List Int} (h : Mem w0 w (MapF b n f :: L)) (hn : n ≤ ks.length) (hf : ∀ k, (Lit.int .i64 k).wf = true → f k = ks.idxOf? k) : Mem w0 w (MapC (some b) ks :: L) := by
  refine ⟨h.below, fun c hc => ?_, fun c hc k hk => ?_, List.pairwise_cons.2 ⟨fun d hd k hk => ?_, (List.pairwise_cons.1 h.dis).2⟩⟩
  · rcases List.mem_cons.1 hc with rfl | hc
    · obtain ⟨D, h1, h2, h3⟩ : mapF b n f w := h.ok (MapF b n f) m0
      exact ⟨D, h1.mono hn, h2, fun key hk z => by rw [h3 key hk, hf key hk]; rfl⟩
    · exact h.ok c (.tail _ hc)
  · rcases List.mem_cons.1 hc with rfl | hc
    · exact h.rng (MapF b n f) m0 k (by show k = b; exact (Option.some.inj hk).symm)
    · exact h.rng c (.tail _ hc) k hk
  · exact (List.pairwise_cons.1 h.dis).1 d hd k (by show k = b; exact (Option.some.inj hk).symm)
theorem Mem.mapmade {w0 w : World} {L : List Chunk} (h : Mem w0 w L) : Mem w0 (w.alloc (.map #[] 0)) (MapC (some w.heap.size) [] :: L) := by
  have h1 := h.alloc (.map #[] 0)
  refine h1.upd ⟨rfl, rfl, rfl, Nat.le_refl _, fun _ _ _ => rfl⟩ ?_ (fun k hk => .inl (Option.some.inj hk).symm)
  exact ⟨.map [], World.ownsMap_made w _ _ _, Maps.tidy_empty, fun key hk z => rfl⟩
end Go.Proofs.YtpibchjkmaghnaaGreat
