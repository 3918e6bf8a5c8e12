/- Lemmas for the row HeapMemoryRow (contracts of functions, laws of memory). Conditions: those that each lemma states. -/
import Derived.Carry
import Derived.Lib.SliceRun
import Derived.Test.YtpibchjkmaghnaaGreatHCa
import Derived.Test.YtpibchjkmaghnaaGreatHCb
namespace Go.Proofs.YtpibchjkmaghnaaGreat
open Go.RowKit Go.Mm
set_option maxHeartbeats 4000000
set_option maxRecDepth 100000
set_option linter.unusedSimpArgs false
theorem sz_Is' : (Tryz.prog.info? 39).map (·.size) = some 1 := by kernel_rfl
theorem sz_Vs' : (Tryz.prog.info? 36).map (·.size) = some 1 := by kernel_rfl
theorem sz_mp : (Tryz.prog.info? 131).map (·.size) = some 1 := by kernel_rfl
/-- A record's cells. -/
def recC (A : Option Addr) (n c : Nat) (KA : Option Addr) (kn kc : Nat) (mp : Option Nat) : List Value := [.slice KA kn kc, .slice A n c, .map mp]
theorem idx_app {ks ls : List Int} (k : Int) : (ks ++ ls).idxOf? k = match ks.idxOf? k with | some i => some i | none => (ls.idxOf? k).map (· + ks.length) := by
  induction ks with
  | nil => simp
  | cons a ks ih =>
    rw [List.cons_append, List.idxOf?_cons, List.idxOf?_cons, ih]
    split
    · rfl
    · cases ks.idxOf? k with
      | some i => rfl
      | none => cases ls.idxOf? k <;> simp [Nat.add_assoc, Nat.add_comm]
theorem idx_snoc {ks : List Int} {key : Int} (h : ks.idxOf? key = none) (k : Int) : updF (fun k => ks.idxOf? k) key ks.length k = (ks ++ [key]).idxOf? k := by
  unfold updF
  rw [idx_app]
  by_cases q : k = key
  · subst q
    rw [if_pos rfl, h]
    simp [List.idxOf?_cons]
  · rw [if_neg q]
    have e : ([key] : List Int).idxOf? k = none := by
      rw [List.idxOf?_cons, if_neg (by simp; exact fun h => q h.symm)]
      rfl
    rw [e]
    show ks.idxOf? k = _
    cases ks.idxOf? k <;> rfl
theorem perm_o4 {a b c d e : Chunk} (L : List Chunk) : (a :: b :: c :: d :: e :: L).Perm (d :: a :: b :: c :: e :: L) := perm_front (a :: b :: c :: d :: e :: L) 3 (by simp)
theorem rputNo_ok (w0 w : World) (L : List Chunk) (g : Nat) (A : Option Addr) (n c : Nat) (KA : Option Addr) (kn kc : Nat) (mp : Option Nat) (ks : List Int) (hm : Mem w0 w (MapC mp ks :: Blk g (.cells (recC A n c KA kn kc mp).toArray 133) :: L)) (key : Int) (hw : (Lit.int .i64 key).wf = true) (hf : (ks.idxOf? key).isSome = true) (X Y : Int) :
    Calls Tryz.prog 82 #[.pointer (some ⟨g, 0, none⟩), .int .i64 key, .agg #[.int .i64 X, .int .i64 Y]] w fun e w' => e = .returned (.bool false) ∧ Mem w0 w' (MapC mp ks :: Blk g (.cells (recC A n c KA kn kc mp).toArray 133) :: L) := by
  go_enter Tryz.func82, Tryz.ntmps82
  go_upto_region 1 with (fail)
  have hm1 := hm.alloc (.cells [.int .i64 X, .int .i64 Y].toArray 35)
  generalize hgb : w.heap.size = gb at hm1 ⊢
  generalize hw1 : w.alloc (.cells [.int .i64 X, .int .i64 Y].toArray 35) = w1 at hm1
  try refine wp_world hw1 ?_
  clear hw1 hgb
  have c2 := hm1.cell m2 2 rfl
  have hlook := mapOk_look (hm1.ok _ m1) key hw
  rw [hf] at hlook
  go_wp2
  go_ret
  exact ⟨rfl, hm1.tail⟩
theorem rputYes_ok (w0 w : World) (L : List Chunk) (g : Nat) (A : Option Addr) (c : Nat) (KA : Option Addr) (kc : Nat) (mp : Option Nat) (ks : List Int) (items : List V2) (hm : Mem w0 w (Blk g (.cells (recC A items.length c KA ks.length kc mp).toArray 133) :: Own 2 (.slice A items.length c) (fV items) :: Own 1 (.slice KA ks.length kc) (nums .i64 ks) :: MapC mp ks :: L)) (key : Int) (hw : (Lit.int .i64 key).wf = true) (hf : Fact (ks.idxOf? key = none)) (X Y : Int) (hkn : ks.length ≤ 1048576) (hin : items.length ≤ 1048576) :
    Calls Tryz.prog 82 #[.pointer (some ⟨g, 0, none⟩), .int .i64 key, .agg #[.int .i64 X, .int .i64 Y]] w fun e w' => e = .returned (.bool true) ∧ ∃ A' c' KA' kc' mp', Mem w0 w' (Blk g (.cells (recC A' (items.length + 1) c' KA' (ks.length + 1) kc' mp').toArray 133) :: Own 2 (.slice A' (items.length + 1) c') (fV (items ++ [(X, Y)])) :: Own 1 (.slice KA' (ks.length + 1) kc') (nums .i64 (ks ++ [key])) :: MapC mp' (ks ++ [key]) :: L) := by
  obtain ⟨iV, hiV, hz0, hz1, hz2⟩ := info_parts inf_V
  obtain ⟨iI, hiI, yz0, yz1, yz2⟩ := info_parts inf_I
  have hw := Fact.mk hw
  have q22 : ∀ (w : World) (r : Option Nat), (binOp .eql 131 (.map r) (.map none)).run Tryz.prog w = .ok (.bool r.isNone) w := fun w r => run_eql_map_nil w _ _ _ r ty_mp
  go_enter Tryz.func82, Tryz.ntmps82
  go_upto_region 1 with (fail)
  have hm1 := hm.alloc (.cells [.int .i64 X, .int .i64 Y].toArray 35)
  generalize hgb : w.heap.size = gb at hm1 ⊢
  generalize hw1 : w.alloc (.cells [.int .i64 X, .int .i64 Y].toArray 35) = w1 at hm1
  try refine wp_world hw1 ?_
  clear hw1 hgb hm
  have c2 := hm1.cell m1 2 rfl
  have hlook := mapOk_look (hm1.ok _ m4) key hw.out
  rw [hf.out] at hlook
  simp only [Option.isSome_none, Option.getD_none] at hlook
  cases mp with
  | none =>
    obtain rfl : ks = [] := hm1.ok _ m4
    have hmk : (Instr.makeMap 131 none).run Tryz.prog w1 = .ok (.map (some w1.heap.size)) (w1.alloc (.map #[] 0)) := by first | exact run_makeMap _ _ _ _ ty_mp | exact run_makeMap _ _ | kernel_rfl
    have hmm := (Mem.mapmade hm1).pull2
    go_upto_region 6 with (first | (refine wp_setat rfl 131 _ _ rfl g 2 rfl 133 _ [.map (some w1.heap.size)] (recC A items.length c KA 0 kc (some w1.heap.size)) (.map (some w1.heap.size)) rfl rfl hmm sz_mp (by simp [recC]) (one_one rfl) rfl ?_; intro w2 hm2))
    generalize w1.heap.size = b at hm2 ⊢
    clear hlook c2
    clear hmm hmk hm1
    have hm1 := (hm2.sub (List.Sublist.cons_cons _ (List.Sublist.cons_cons _ (List.Sublist.cons_cons _ (List.Sublist.cons_cons _ (List.Sublist.cons_cons _ (List.sublist_cons_self _ _))))))).pull2.perm ((((List.Perm.swap _ _ _).trans ((List.Perm.swap _ _ _).cons _)).cons _).cons _)
    clear hm2
    have hm2 := hm1.drew
    clear hm1
    have c0 := hm2.cell m1 0 rfl
    have c2 := hm2.cell m1 2 rfl
    refine wp_region_still_tail 10 (by kernel_rfl) (by kernel_rfl) ?_
    simp only [List.take_succ_cons, List.take_zero, List.drop_succ_cons, List.drop_zero]
    repeat still_step
    refine wpStill_nil ?_
    have hF := Mem.toF hm2.pull4
    have hidx : (if (([] : List Int).idxOf? key).isSome = true then 0 else 0 + 1) ≤ (([] : List Int) ++ [key]).length := by rw [hf.out]; simp
    have hidy : ∀ k, (Lit.int .i64 k).wf = true → updF (fun k => ([] : List Int).idxOf? k) key 0 k = (([] : List Int) ++ [key]).idxOf? k := fun k _ => idx_snoc hf.out k
    replace hidx := Fact.mk hidx
    replace hidy := Fact.mk hidy
    go_upto_region 8 with (first | (refine wp_mapput rfl _ _ _ rfl b 0 (fun k => ([] : List Int).idxOf? k) rfl hF (by unfold maxLen; omega) key rfl hw.out 0 rfl (by omega) ?_; intro w3 hm3; have hm4 := (Mem.toC hm3 hidx.out hidy.out).pull4; have d0 := hm4.cell m3 0 rfl) | (at_builtin; refine wp_app rfl _ _ _ rfl 2 iI _ 1 8 ty_Is hiI yz0 yz1 yz2 rfl KA 0 kc _ rfl (hm4.alloc _).swap _ 1 1 [.int .i64 key] rfl (RdC.lit _ _ _ _ _ rfl (by simp [maxLen]) (One.nums .i64 [key])) (by unfold maxLen; omega) (by omega) ?_; intro KA5 kc5 w5 HM5; have hm5 := HM5.drop2.pull3) | (refine wp_setat rfl 39 _ _ rfl g 0 rfl 133 _ [.slice KA5 (0 + 1) kc5] (recC A items.length c KA5 (0 + 1) kc5 (some b)) (.slice KA5 (0 + 1) kc5) rfl rfl hm5 sz_Is' (by simp [recC]) (one_one rfl) rfl ?_; intro w6 hm6))
    have hm7 := hm6.pull4.swap.drew
    clear hm6
    have hS := And.intro (hm7.cell m0 1 rfl) (And.intro (hm7.cell m4 0 rfl) (hm7.cell m4 1 rfl))
    refine wp_region_until (S := fun W => W.cell? ⟨g, 1, none⟩ = some (.slice A items.length c) ∧ W.cell? ⟨gb, 0, none⟩ = some (.int .i64 X) ∧ W.cell? ⟨gb, 1, none⟩ = some (.int .i64 Y)) 8 (by kernel_rfl) ?_
    generalize w6.drew = w7 at hm7 hS ⊢
    refine wpAnyU_take 0 (v := ?vsa0) rfl (by kernel_rfl) (by kernel_rfl) (fun _ _ _ h => h) hS (Or.inl ⟨rfl, ?ysa0⟩) ?rsa0
    case ysa0 =>
      intro W hW
      obtain ⟨hW0, hW1, hW2⟩ := hW
      go_simp
      try with_reducible rfl
    try simp only [Act.put, List.getElem_toArray, List.getElem_cons_succ, List.getElem_cons_zero, List.setIfInBounds_toArray, List.set_cons_zero, List.set_cons_succ]
    refine wpAnyU_take 1 (v := ?vsa1) rfl (by kernel_rfl) (by kernel_rfl) (fun _ _ _ h => h) hS (Or.inl ⟨rfl, ?ysa1⟩) ?rsa1
    case ysa1 =>
      intro W hW
      obtain ⟨hW0, hW1, hW2⟩ := hW
      go_simp
      try with_reducible rfl
    try simp only [Act.put, List.getElem_toArray, List.getElem_cons_succ, List.getElem_cons_zero, List.setIfInBounds_toArray, List.set_cons_zero, List.set_cons_succ]
    refine wpAnyU_take 2 (v := ?vsa2) rfl (by kernel_rfl) (by kernel_rfl) (fun _ _ _ h => h) hS (Or.inl ⟨rfl, ?ysa2⟩) ?rsa2
    case ysa2 =>
      intro W hW
      obtain ⟨hW0, hW1, hW2⟩ := hW
      go_simp
      try with_reducible rfl
    try simp only [Act.put, List.getElem_toArray, List.getElem_cons_succ, List.getElem_cons_zero, List.setIfInBounds_toArray, List.set_cons_zero, List.set_cons_succ]
    refine wpAnyU_take 3 (v := ?vsa3) rfl (by kernel_rfl) (by kernel_rfl) (fun _ _ _ h => h) hS (Or.inl ⟨rfl, ?ysa3⟩) ?rsa3
    case ysa3 =>
      intro W hW
      obtain ⟨hW0, hW1, hW2⟩ := hW
      go_simp
      try with_reducible rfl
    try simp only [Act.put, List.getElem_toArray, List.getElem_cons_succ, List.getElem_cons_zero, List.setIfInBounds_toArray, List.set_cons_zero, List.set_cons_succ]
    refine wpAnyU_take 4 (v := ?vsa4) rfl (by kernel_rfl) (by kernel_rfl) (fun _ _ _ h => h) hS (Or.inl ⟨rfl, ?ysa4⟩) ?rsa4
    case ysa4 =>
      intro W hW
      obtain ⟨hW0, hW1, hW2⟩ := hW
      go_simp
      try with_reducible rfl
    try simp only [Act.put, List.getElem_toArray, List.getElem_cons_succ, List.getElem_cons_zero, List.setIfInBounds_toArray, List.set_cons_zero, List.set_cons_succ]
    refine wpAnyU_take 5 (v := ?vsa5) rfl (by kernel_rfl) (by kernel_rfl) (fun _ _ _ h => h) hS (Or.inl ⟨rfl, ?ysa5⟩) ?rsa5
    case ysa5 =>
      intro W hW
      obtain ⟨hW0, hW1, hW2⟩ := hW
      go_simp
      try with_reducible rfl
    try simp only [Act.put, List.getElem_toArray, List.getElem_cons_succ, List.getElem_cons_zero, List.setIfInBounds_toArray, List.set_cons_zero, List.set_cons_succ]
    refine wpAnyU_one 6 (by kernel_rfl) rfl (fun K hK => ?_)
    go_simp
    have hm8 := hm7.alloc (.cells [.int .i64 X, .int .i64 Y].toArray 35)
    refine hK _ _ (fun _ => ⟨hm8.cell m1 1 rfl, hm8.cell m5 0 rfl, hm8.cell m5 1 rfl⟩) ?_
    clear hK K
    try simp only [Act.put, List.getElem_toArray, List.getElem_cons_succ, List.getElem_cons_zero, List.setIfInBounds_toArray, List.set_cons_zero, List.set_cons_succ]
    refine wpAnyU_one 7 (by kernel_rfl) rfl (fun K hK => ?_)
    refine step_app rfl _ _ _ rfl 35 iV _ 2 16 ty_Vs hiV hz0 hz1 hz2 rfl A items.length c _ rfl hm8.pull2 _ 1 1 [.int .i64 X, .int .i64 Y] rfl (RdC.lit _ _ _ _ _ rfl (by simp [maxLen]) (cV_one (X, Y))) (by unfold maxLen; omega) (by omega) ?_
    intro A9 c9 w9 HM9
    have hm9 := HM9.back2.tail
    clear HM9 hm8
    refine hK _ _ (fun _ => ⟨hm9.cell m0 1 rfl, hm9.cell m4 0 rfl, hm9.cell m4 1 rfl⟩) ?_
    clear hK K
    try simp only [Act.put, List.getElem_toArray, List.getElem_cons_succ, List.getElem_cons_zero, List.setIfInBounds_toArray, List.set_cons_zero, List.set_cons_succ]
    refine wpAnyU_one 8 (by kernel_rfl) rfl (fun K hK => ?_)
    go_simp
    refine hK _ _ (fun h => absurd h (by decide)) ?_
    clear hK K
    try simp only [Act.put, List.getElem_toArray, List.getElem_cons_succ, List.getElem_cons_zero, List.setIfInBounds_toArray, List.set_cons_zero, List.set_cons_succ]
    refine wpAnyU_one 9 (by kernel_rfl) rfl (fun K hK => ?_)
    go_simp
    refine hK _ _ (fun h => absurd h (by decide)) ?_
    clear hK K
    try simp only [Act.put, List.getElem_toArray, List.getElem_cons_succ, List.getElem_cons_zero, List.setIfInBounds_toArray, List.set_cons_zero, List.set_cons_succ]
    refine wpAnyU_one 10 (by kernel_rfl) rfl (fun K hK => ?_)
    refine step_setat rfl 36 _ _ rfl g 1 rfl 133 _ [.slice A9 (items.length + 1) c9] (recC A9 (items.length + 1) c9 KA5 (0 + 1) kc5 (some b)) (.slice A9 (items.length + 1) c9) rfl rfl hm9 sz_Vs' (by simp [recC]) (one_one rfl) rfl ?_
    intro w10 hm10
    refine hK _ _ (fun h => absurd h (by decide)) ?_
    clear hK K hS hm7 hm9
    try simp only [Act.put, List.getElem_toArray, List.getElem_cons_succ, List.getElem_cons_zero, List.setIfInBounds_toArray, List.set_cons_zero, List.set_cons_succ]
    refine wpAnyU_done (by kernel_rfl) ?_ _
    go_wp2
    go_ret
    refine ⟨rfl, A9, c9, KA5, kc5, some b, ?_⟩
    have hz := hm10.sub (List.Sublist.cons_cons _ (List.Sublist.cons_cons _ (List.Sublist.cons_cons _ (List.Sublist.cons_cons _ (List.sublist_cons_self _ _)))))
    have e1 : fV (items ++ [(X, Y)]) = fV items ++ [.int .i64 X, .int .i64 Y] := by rw [fV_app]; rfl
    rw [e1, nums_append]
    exact hz
  | some b =>
    go_upto_region 6 with (fail)
    clear hlook c2
    have hm2 := hm1.drew
    clear hm1
    have c0 := hm2.cell m1 0 rfl
    have c2 := hm2.cell m1 2 rfl
    refine wp_region_still_tail 10 (by kernel_rfl) (by kernel_rfl) ?_
    simp only [List.take_succ_cons, List.take_zero, List.drop_succ_cons, List.drop_zero]
    repeat still_step
    refine wpStill_nil ?_
    have hF := Mem.toF hm2.pull4
    have hidx : (if (ks.idxOf? key).isSome = true then ks.length else ks.length + 1) ≤ (ks ++ [key]).length := by rw [hf.out]; simp
    have hidy : ∀ k, (Lit.int .i64 k).wf = true → updF (fun k => ks.idxOf? k) key ks.length k = (ks ++ [key]).idxOf? k := fun k _ => idx_snoc hf.out k
    replace hidx := Fact.mk hidx
    replace hidy := Fact.mk hidy
    go_upto_region 8 with (first | (refine wp_mapput rfl _ _ _ rfl b ks.length (fun k => ks.idxOf? k) rfl hF (by unfold maxLen; omega) key rfl hw.out ks.length rfl (by omega) ?_; intro w3 hm3; have hm4 := (Mem.toC hm3 hidx.out hidy.out).pull4; have d0 := hm4.cell m3 0 rfl) | (at_builtin; refine wp_app rfl _ _ _ rfl 2 iI _ 1 8 ty_Is hiI yz0 yz1 yz2 rfl KA ks.length kc _ rfl (hm4.alloc _).swap _ 1 1 [.int .i64 key] rfl (RdC.lit _ _ _ _ _ rfl (by simp [maxLen]) (One.nums .i64 [key])) (by unfold maxLen; omega) (by omega) ?_; intro KA5 kc5 w5 HM5; have hm5 := HM5.drop2.pull3) | (refine wp_setat rfl 39 _ _ rfl g 0 rfl 133 _ [.slice KA5 (ks.length + 1) kc5] (recC A items.length c KA5 (ks.length + 1) kc5 (some b)) (.slice KA5 (ks.length + 1) kc5) rfl rfl hm5 sz_Is' (by simp [recC]) (one_one rfl) rfl ?_; intro w6 hm6))
    have hm7 := hm6.pull4.swap.drew
    clear hm6
    have hS := And.intro (hm7.cell m0 1 rfl) (And.intro (hm7.cell m4 0 rfl) (hm7.cell m4 1 rfl))
    refine wp_region_until (S := fun W => W.cell? ⟨g, 1, none⟩ = some (.slice A items.length c) ∧ W.cell? ⟨gb, 0, none⟩ = some (.int .i64 X) ∧ W.cell? ⟨gb, 1, none⟩ = some (.int .i64 Y)) 8 (by kernel_rfl) ?_
    generalize w6.drew = w7 at hm7 hS ⊢
    refine wpAnyU_take 0 (v := ?vsb0) rfl (by kernel_rfl) (by kernel_rfl) (fun _ _ _ h => h) hS (Or.inl ⟨rfl, ?ysb0⟩) ?rsb0
    case ysb0 =>
      intro W hW
      obtain ⟨hW0, hW1, hW2⟩ := hW
      go_simp
      try with_reducible rfl
    try simp only [Act.put, List.getElem_toArray, List.getElem_cons_succ, List.getElem_cons_zero, List.setIfInBounds_toArray, List.set_cons_zero, List.set_cons_succ]
    refine wpAnyU_take 1 (v := ?vsb1) rfl (by kernel_rfl) (by kernel_rfl) (fun _ _ _ h => h) hS (Or.inl ⟨rfl, ?ysb1⟩) ?rsb1
    case ysb1 =>
      intro W hW
      obtain ⟨hW0, hW1, hW2⟩ := hW
      go_simp
      try with_reducible rfl
    try simp only [Act.put, List.getElem_toArray, List.getElem_cons_succ, List.getElem_cons_zero, List.setIfInBounds_toArray, List.set_cons_zero, List.set_cons_succ]
    refine wpAnyU_take 2 (v := ?vsb2) rfl (by kernel_rfl) (by kernel_rfl) (fun _ _ _ h => h) hS (Or.inl ⟨rfl, ?ysb2⟩) ?rsb2
    case ysb2 =>
      intro W hW
      obtain ⟨hW0, hW1, hW2⟩ := hW
      go_simp
      try with_reducible rfl
    try simp only [Act.put, List.getElem_toArray, List.getElem_cons_succ, List.getElem_cons_zero, List.setIfInBounds_toArray, List.set_cons_zero, List.set_cons_succ]
    refine wpAnyU_take 3 (v := ?vsb3) rfl (by kernel_rfl) (by kernel_rfl) (fun _ _ _ h => h) hS (Or.inl ⟨rfl, ?ysb3⟩) ?rsb3
    case ysb3 =>
      intro W hW
      obtain ⟨hW0, hW1, hW2⟩ := hW
      go_simp
      try with_reducible rfl
    try simp only [Act.put, List.getElem_toArray, List.getElem_cons_succ, List.getElem_cons_zero, List.setIfInBounds_toArray, List.set_cons_zero, List.set_cons_succ]
    refine wpAnyU_take 4 (v := ?vsb4) rfl (by kernel_rfl) (by kernel_rfl) (fun _ _ _ h => h) hS (Or.inl ⟨rfl, ?ysb4⟩) ?rsb4
    case ysb4 =>
      intro W hW
      obtain ⟨hW0, hW1, hW2⟩ := hW
      go_simp
      try with_reducible rfl
    try simp only [Act.put, List.getElem_toArray, List.getElem_cons_succ, List.getElem_cons_zero, List.setIfInBounds_toArray, List.set_cons_zero, List.set_cons_succ]
    refine wpAnyU_take 5 (v := ?vsb5) rfl (by kernel_rfl) (by kernel_rfl) (fun _ _ _ h => h) hS (Or.inl ⟨rfl, ?ysb5⟩) ?rsb5
    case ysb5 =>
      intro W hW
      obtain ⟨hW0, hW1, hW2⟩ := hW
      go_simp
      try with_reducible rfl
    try simp only [Act.put, List.getElem_toArray, List.getElem_cons_succ, List.getElem_cons_zero, List.setIfInBounds_toArray, List.set_cons_zero, List.set_cons_succ]
    refine wpAnyU_one 6 (by kernel_rfl) rfl (fun K hK => ?_)
    go_simp
    have hm8 := hm7.alloc (.cells [.int .i64 X, .int .i64 Y].toArray 35)
    refine hK _ _ (fun _ => ⟨hm8.cell m1 1 rfl, hm8.cell m5 0 rfl, hm8.cell m5 1 rfl⟩) ?_
    clear hK K
    try simp only [Act.put, List.getElem_toArray, List.getElem_cons_succ, List.getElem_cons_zero, List.setIfInBounds_toArray, List.set_cons_zero, List.set_cons_succ]
    refine wpAnyU_one 7 (by kernel_rfl) rfl (fun K hK => ?_)
    refine step_app rfl _ _ _ rfl 35 iV _ 2 16 ty_Vs hiV hz0 hz1 hz2 rfl A items.length c _ rfl hm8.pull2 _ 1 1 [.int .i64 X, .int .i64 Y] rfl (RdC.lit _ _ _ _ _ rfl (by simp [maxLen]) (cV_one (X, Y))) (by unfold maxLen; omega) (by omega) ?_
    intro A9 c9 w9 HM9
    have hm9 := HM9.back2.tail
    clear HM9 hm8
    refine hK _ _ (fun _ => ⟨hm9.cell m0 1 rfl, hm9.cell m4 0 rfl, hm9.cell m4 1 rfl⟩) ?_
    clear hK K
    try simp only [Act.put, List.getElem_toArray, List.getElem_cons_succ, List.getElem_cons_zero, List.setIfInBounds_toArray, List.set_cons_zero, List.set_cons_succ]
    refine wpAnyU_one 8 (by kernel_rfl) rfl (fun K hK => ?_)
    go_simp
    refine hK _ _ (fun h => absurd h (by decide)) ?_
    clear hK K
    try simp only [Act.put, List.getElem_toArray, List.getElem_cons_succ, List.getElem_cons_zero, List.setIfInBounds_toArray, List.set_cons_zero, List.set_cons_succ]
    refine wpAnyU_one 9 (by kernel_rfl) rfl (fun K hK => ?_)
    go_simp
    refine hK _ _ (fun h => absurd h (by decide)) ?_
    clear hK K
    try simp only [Act.put, List.getElem_toArray, List.getElem_cons_succ, List.getElem_cons_zero, List.setIfInBounds_toArray, List.set_cons_zero, List.set_cons_succ]
    refine wpAnyU_one 10 (by kernel_rfl) rfl (fun K hK => ?_)
    refine step_setat rfl 36 _ _ rfl g 1 rfl 133 _ [.slice A9 (items.length + 1) c9] (recC A9 (items.length + 1) c9 KA5 (ks.length + 1) kc5 (some b)) (.slice A9 (items.length + 1) c9) rfl rfl hm9 sz_Vs' (by simp [recC]) (one_one rfl) rfl ?_
    intro w10 hm10
    refine hK _ _ (fun h => absurd h (by decide)) ?_
    clear hK K hS hm7 hm9
    try simp only [Act.put, List.getElem_toArray, List.getElem_cons_succ, List.getElem_cons_zero, List.setIfInBounds_toArray, List.set_cons_zero, List.set_cons_succ]
    refine wpAnyU_done (by kernel_rfl) ?_ _
    go_wp2
    go_ret
    refine ⟨rfl, A9, c9, KA5, kc5, some b, ?_⟩
    have hz := hm10.sub (List.Sublist.cons_cons _ (List.Sublist.cons_cons _ (List.Sublist.cons_cons _ (List.Sublist.cons_cons _ (List.sublist_cons_self _ _)))))
    have e1 : fV (items ++ [(X, Y)]) = fV items ++ [.int .i64 X, .int .i64 Y] := by rw [fV_app]; rfl
    rw [e1, nums_append]
    exact hz
end Go.Proofs.YtpibchjkmaghnaaGreat
namespace Go.Proofs.YtpibchjkmaghnaaGreat
open Go.RowKit Go.Mm
set_option maxHeartbeats 4000000
set_option maxRecDepth 100000
set_option linter.unusedSimpArgs false
theorem record_at (w0 w : World) (L : List Chunk) (h : Hp) (hm : Mem w0 w L) (hh : HpC h ∈ L) (hok : Fact h.Ok) (K N : Int) :
    Calls Tryz.prog 94 #[.pointer (some ⟨h.g, 0, none⟩), .agg #[.int .i64 K, .int .i64 N]] w fun e w' => e = .returned (.tuple #[.pointer (asK h (K, N) 7), .int .i64 (trapK (asK h (K, N) 7))]) ∧ Gr w w' := by
  go_enter Tryz.func94, Tryz.ntmps94
  go_upto_region 1 with (fail)
  have hm1 := hm.alloc (.cells [.int .i64 K, .int .i64 N].toArray 35)
  generalize hgb : w.heap.size = gb at hm1 ⊢
  generalize hw1 : w.alloc (.cells [.int .i64 K, .int .i64 N].toArray 35) = w1 at hm1
  try refine wp_world hw1 ?_
  have hg1 : Gr w w1 := by rw [← hw1]; exact (Gr.refl w).alloc _
  clear hw1 hgb
  go_wp2_with (refine wp_rng rfl 35 _ rfl gb 0 rfl (cV (K, N)) (rng_blk hm1 m0) row_V sz_V ?_)
  refine (named_ok w0 w1 _ h hm1 (.tail _ hh) hok K N).mono ?_
  rintro e w2 ⟨rfl, hg2⟩
  have hta := tan_R hok.out (K, N) w2
  generalize namedV h (K, N) = nv at hta ⊢
  have hgr : Gr w w2 := hg1.trans hg2
  cases hq : asK h (K, N) 7 with
  | none =>
    rw [hq] at hta
    simp only [Option.isSome] at hta
    go_wp2
    go_ret2
    exact ⟨by rw [hq]; rfl, hgr⟩
  | some a =>
    rw [hq] at hta
    simp only [Option.isSome] at hta
    go_wp2
    go_ret2
    exact ⟨by rw [hq]; rfl, hgr⟩
/-- A record, its fields others. -/
def Th.fields (t : Th) (A : Option Addr) (n c : Nat) (KA : Option Addr) (kn kc : Nat) (mp : Option Nat) (items : List V2) (keys : List Int) : Th := { t with A := A, n := n, c := c, KA := KA, kn := kn, kc := kc, mp := mp, ob := { t.ob with items := items, keys := keys } }
def recCh (g : Nat) (A : Option Addr) (n c : Nat) (KA : Option Addr) (kn kc : Nat) (mp : Option Nat) (items : List V2) (keys : List Int) : List Chunk :=
  [Blk g (.cells (recC A n c KA kn kc mp).toArray 133), Own 2 (.slice A n c) (fV items), Own 1 (.slice KA kn kc) (nums .i64 keys), MapC mp keys]
theorem Th.chunksR (t : Th) (hk : t.ob.kind = 7) : t.chunks = recCh t.g t.A t.n t.c t.KA t.kn t.kc t.mp t.ob.items t.ob.keys := by
  unfold Th.chunks Th.cells thEl recCh recC
  rw [hk]
  rfl
theorem Hp.opnR {w0 w : World} {L : List Chunk} {h : Hp} (hm : Mem w0 w (HpC h :: L)) (i : Nat) (hi : i < h.ths.length) (t : Th) (ht : h.ths.getD i th0 = t) (hk : t.ob.kind = 7) :
    Mem w0 w (recCh t.g t.A t.n t.c t.KA t.kn t.kc t.mp t.ob.items t.ob.keys ++ (h.rest i ++ L)) := by
  have h1 := Hp.opn hm i hi
  rw [ht, t.chunksR hk] at h1
  exact h1
theorem Hp.clsR {w0 w : World} {L : List Chunk} {h : Hp} (i : Nat) (hi : i < h.ths.length) (t : Th) (ht : h.ths.getD i th0 = t) (hk : t.ob.kind = 7) (A : Option Addr) (n c : Nat) (KA : Option Addr) (kn kc : Nat) (mp : Option Nat) (items : List V2) (keys : List Int)
    (hm : Mem w0 w (recCh t.g A n c KA kn kc mp items keys ++ (h.rest i ++ L))) : Mem w0 w (HpC (h.upd i (t.fields A n c KA kn kc mp items keys)) :: L) := by
  refine Hp.cls i hi (t.fields A n c KA kn kc mp items keys) (by rw [ht]; rfl) ?_
  rw [Th.chunksR (t.fields A n c KA kn kc mp items keys) hk]
  exact hm
theorem fields_ok {t : Th} (ht : t.Ok) (hk : t.ob.kind = 7) (A : Option Addr) (n c : Nat) (KA : Option Addr) (kn kc : Nat) (mp : Option Nat) (items : List V2) (keys : List Int) (hl : items.length ≤ 1048576) (hkl : keys.length = items.length) (hnd : keys.Nodup) (hw : ∀ k, k ∈ keys → (Lit.int .i64 k).wf = true) : (t.fields A n c KA kn kc mp items keys).Ok :=
  ⟨ht.kind, hl, fun _ => hkl, fun h7 => absurd hk h7, hnd, hw, ht.fn, ht.cap⟩
/-- What is read of a record. -/
theorem Hp.readR {w0 w : World} {L : List Chunk} {h : Hp} (hm : Mem w0 w (HpC h :: L)) (i : Nat) (hi : i < h.ths.length) (t : Th) (ht : h.ths.getD i th0 = t) (hk : t.ob.kind = 7) :
    w.cell? ⟨t.g, 0, none⟩ = some (.slice t.KA t.ob.keys.length t.kc) ∧ w.cell? ⟨t.g, 1, none⟩ = some (.slice t.A t.ob.items.length t.c) ∧ w.cell? ⟨t.g, 2, none⟩ = some (.map t.mp) ∧ RdC w 2 (.slice t.A t.ob.items.length t.c) (fV t.ob.items) ∧ RdC w 1 (.slice t.KA t.ob.keys.length t.kc) (nums .i64 t.ob.keys) ∧ mapOk t.mp t.ob.keys w ∧ t.n = t.ob.items.length ∧ t.kn = t.ob.keys.length := by
  have h1 := Hp.opnR hm i hi t ht hk
  have hx : RdC w 2 (.slice t.A t.n t.c) (fV t.ob.items) := (h1.ok (Own 2 (.slice t.A t.n t.c) (fV t.ob.items)) (.tail _ (.head _)) : OwnAt _ _ _ _).rd
  have hy : RdC w 1 (.slice t.KA t.kn t.kc) (nums .i64 t.ob.keys) := (h1.ok (Own 1 (.slice t.KA t.kn t.kc) (nums .i64 t.ob.keys)) (.tail _ (.tail _ (.head _))) : OwnAt _ _ _ _).rd
  have e1 := rdV_len hx
  have e2 := RdC.nlen hy
  have hb : Blk t.g (.cells (recC t.A t.n t.c t.KA t.kn t.kc t.mp).toArray 133) ∈ recCh t.g t.A t.n t.c t.KA t.kn t.kc t.mp t.ob.items t.ob.keys ++ (h.rest i ++ L) := .head _
  have c0 := h1.cell hb 0 rfl
  have c1 := h1.cell hb 1 rfl
  have c2 := h1.cell hb 2 rfl
  have hM : mapOk t.mp t.ob.keys w := h1.ok (MapC t.mp t.ob.keys) (.tail _ (.tail _ (.tail _ (.head _))))
  rw [← e1] at c1 hx
  rw [← e2] at c0 hy
  exact ⟨c0, c1, c2, hx, hy, hM, e1.symm, e2.symm⟩
theorem idx_lt {ks : List Int} {k : Int} {j : Nat} (h : ks.idxOf? k = some j) : j < ks.length := by
  rw [List.idxOf?, List.findIdx?_eq_some_iff_getElem] at h
  exact h.1
def fldV (o : Ob) (key : Int) : V2 := match o.keys.idxOf? key with | some j => o.items.getD j (0, 0) | none => (0, 0)
def fldT (o : Ob) (key : Int) : Int := match o.keys.idxOf? key with | some _ => 0 | none => 4
theorem field_ok (w0 w : World) (L : List Chunk) (h : Hp) (hm : Mem w0 w (HpC h :: L)) (hok : Fact h.Ok) (K N key : Int) (hw : Fact ((Lit.int .i64 key).wf = true)) (i : Nat) (hn : nm h.objs (K, N) = some i) (t : Th) (ht : Fact (h.ths.getD i th0 = t)) (hk : Fact (t.ob.kind = 7)) :
    Calls Tryz.prog 86 #[.pointer (some ⟨h.g, 0, none⟩), .agg #[.int .i64 K, .int .i64 N], .int .i64 key] w fun e w' => e = .returned (.tuple #[.agg #[.int .i64 (fldV t.ob key).1, .int .i64 (fldV t.ob key).2], .int .i64 (fldT t.ob key)]) ∧ Mem w0 w' (HpC h :: L) := by
  have hil := (nm_in hn).1
  have has := Fact.mk (asK_yes hn ht.out 7 hk.out)
  have htk : t.Ok := by
    have := hok.out.each _ (List.getElem_mem hil)
    have e := ht.out
    simp only [List.getD_eq_getElem?_getD, List.getElem?_eq_getElem hil, Option.getD_some] at e
    rw [← e]
    exact this
  have hkl := htk.keys hk.out
  have hsz := htk.size
  clear hn
  have hfv : fldV t.ob key = match t.ob.keys.idxOf? key with | some j => t.ob.items.getD j (0, 0) | none => (0, 0) := rfl
  have hft : fldT t.ob key = match t.ob.keys.idxOf? key with | some _ => 0 | none => 4 := rfl
  generalize fldV t.ob key = V at hfv ⊢
  generalize fldT t.ob key = T at hft ⊢
  replace hfv := Fact.mk hfv
  replace hft := Fact.mk hft
  go_enter Tryz.func86, Tryz.ntmps86
  go_upto_region 1 with (fail)
  have hm1 := (hm.alloc (.cells [.int .i64 K, .int .i64 N].toArray 35)).alloc (.cells [.int .i64 0, .int .i64 0].toArray 35)
  simp only [World.size_alloc] at hm1
  generalize hgb : w.heap.size = gb at hm1 ⊢
  generalize hw1 : (w.alloc (.cells [.int .i64 K, .int .i64 N].toArray 35)).alloc (.cells [.int .i64 0, .int .i64 0].toArray 35) = w1 at hm1
  try refine wp_world hw1 ?_
  clear hw1 hgb
  go_wp2_with (refine wp_rng rfl 35 _ rfl gb 0 rfl (cV (K, N)) (rng_blk hm1 m1) row_V sz_V ?_)
  refine (record_at w0 w1 _ h hm1 m2 hok K N).mono ?_
  rintro e w2 ⟨rfl, hg2⟩
  rw [has.out]
  simp only [trapK]
  have hm2 := hm1.gr hg2
  obtain ⟨_, c1, c2, hx, _, hM, _, _⟩ := Hp.readR (hm2.pull2) i hil t ht.out hk.out
  have hlook := mapOk_look hM key hw.out
  clear hM hm1
  cases hq : t.ob.keys.idxOf? key with
  | none =>
    have hV := hfv.out
    have hT := hft.out
    rw [hq] at hlook hV hT
    simp only at hV hT
    subst hV hT
    simp only [Option.isSome_none, Option.getD_none] at hlook
    clear hq hx
    go_wp2_with (refine wp_setrow rfl 35 _ _ rfl (gb + 1) rfl 35 _ [.int .i64 0, .int .i64 0] rfl hm2 sz_V rfl (cV_one (0, 0)) ?_; intro w3 hm3)
    refine bodyPost_ret (Mm.res_cell_tmp rfl _ (gb + 1) 35 [.int .i64 0, .int .i64 0] (0, 0) rfl hm3 m0 row_V sz_V) rfl ⟨rfl, hm3.tail.tail⟩
  | some j =>
    have hV := hfv.out
    have hT := hft.out
    have hj := idx_lt hq
    rw [hq] at hlook hV hT
    simp only at hV hT
    subst hT
    simp only [Option.isSome_some, Option.getD_some] at hlook
    clear hq
    obtain ⟨b, o, hA, g1, g2, _, _⟩ := rdV_at hx j (by omega)
    rw [← hV] at g1 g2
    rw [hA] at c1
    clear hV
    have hjl : j < t.ob.items.length := by omega
    go_wp2_with (first | (refine wp_rng rfl 35 _ rfl b (o + j * 2) rfl (cV V) (rng2 g1 g2) row_V sz_V ?_) | (refine wp_setrow rfl 35 _ _ rfl (gb + 1) rfl 35 _ (cV V) rfl hm2 sz_V rfl (cV_one V) ?_; intro w3 hm3))
    refine bodyPost_ret (Mm.res_cell_tmp rfl _ (gb + 1) 35 (cV V) (0, 0) rfl hm3 m0 row_V sz_V) rfl ⟨rfl, hm3.tail.tail⟩
theorem has_ok (w0 w : World) (L : List Chunk) (h : Hp) (hm : Mem w0 w (HpC h :: L)) (hok : Fact h.Ok) (K N key : Int) (hw : Fact ((Lit.int .i64 key).wf = true)) (i : Nat) (hn : nm h.objs (K, N) = some i) (t : Th) (ht : Fact (h.ths.getD i th0 = t)) (hk : Fact (t.ob.kind = 7)) :
    Calls Tryz.prog 88 #[.pointer (some ⟨h.g, 0, none⟩), .agg #[.int .i64 K, .int .i64 N], .int .i64 key] w fun e w' => e = .returned (.tuple #[.bool (t.ob.keys.idxOf? key).isSome, .int .i64 0]) ∧ Mem w0 w' (HpC h :: L) := by
  have hil := (nm_in hn).1
  have has := Fact.mk (asK_yes hn ht.out 7 hk.out)
  clear hn
  go_enter Tryz.func88, Tryz.ntmps88
  go_upto_region 1 with (fail)
  have hm1 := hm.alloc (.cells [.int .i64 K, .int .i64 N].toArray 35)
  generalize hgb : w.heap.size = gb at hm1 ⊢
  generalize hw1 : w.alloc (.cells [.int .i64 K, .int .i64 N].toArray 35) = w1 at hm1
  try refine wp_world hw1 ?_
  clear hw1 hgb
  go_wp2_with (refine wp_rng rfl 35 _ rfl gb 0 rfl (cV (K, N)) (rng_blk hm1 m0) row_V sz_V ?_)
  refine (record_at w0 w1 _ h hm1 m1 hok K N).mono ?_
  rintro e w2 ⟨rfl, hg2⟩
  rw [has.out]
  simp only [trapK]
  have hm2 := hm1.gr hg2
  obtain ⟨_, _, c2, _, _, hM, _, _⟩ := Hp.readR (hm2.swap) i hil t ht.out hk.out
  have hlook := mapOk_look hM key hw.out
  clear hM hm1
  obtain ⟨q, hq⟩ : ∃ q, q = t.ob.keys.idxOf? key := ⟨_, rfl⟩
  rw [← hq] at hlook
  replace hq := Fact.mk hq
  go_wp2
  go_ret2
  exact ⟨by rw [← hq.out]; rfl, hm2.tail⟩
end Go.Proofs.YtpibchjkmaghnaaGreat
namespace Go.Proofs.YtpibchjkmaghnaaGreat
open Go.RowKit Go.Mm
set_option maxHeartbeats 4000000
set_option maxRecDepth 100000
set_option linter.unusedSimpArgs false
theorem th_at {h : Hp} (hok : h.Ok) {i : Nat} (hi : i < h.ths.length) {t : Th} (ht : h.ths.getD i th0 = t) : t.Ok := by
  have := hok.each _ (List.getElem_mem hi)
  have e := ht
  simp only [List.getD_eq_getElem?_getD, List.getElem?_eq_getElem hi, Option.getD_some] at e
  rw [← e]
  exact this
theorem fV_set (xs : List V2) (j : Nat) (x : V2) (h : j < xs.length) : (fV xs).take (j * 2) ++ cV x ++ (fV xs).drop (j * 2 + 2) = fV (xs.set j x) := by
  have e1 : (fV xs).take (j * 2) = fV (xs.take j) := (flatMap_take cV 2 cV_len xs j).symm
  have e2 : (fV xs).drop (j * 2 + 2) = fV (xs.drop (j + 1)) := by
    rw [show j * 2 + 2 = (j + 1) * 2 by omega]
    exact (flatMap_drop cV 2 cV_len xs (j + 1)).symm
  rw [e1, e2, List.set_eq_take_append_cons_drop, if_pos h]
  simp [fV]
/-- SetField: there is a field of that key. -/
theorem setOld_ok (w0 w : World) (L : List Chunk) (h : Hp) (hm : Mem w0 w (HpC h :: L)) (hok : Fact h.Ok) (K N key : Int) (hw : Fact ((Lit.int .i64 key).wf = true)) (X Y : Int) (i : Nat) (hn : nm h.objs (K, N) = some i) (t : Th) (ht : Fact (h.ths.getD i th0 = t)) (hk : Fact (t.ob.kind = 7)) (j : Nat) (hj : Fact (t.ob.keys.idxOf? key = some j)) :
    Calls Tryz.prog 87 #[.pointer (some ⟨h.g, 0, none⟩), .agg #[.int .i64 K, .int .i64 N], .int .i64 key, .agg #[.int .i64 X, .int .i64 Y]] w fun e w' => e = .returned (.tuple #[.int .i64 0, .bool true]) ∧ ∃ t' : Th, t'.ob = { t.ob with items := t.ob.items.set j (X, Y) } ∧ t'.Ok ∧ Mem w0 w' (HpC (h.upd i t') :: L) := by
  have hil := (nm_in hn).1
  have has := Fact.mk (asK_yes hn ht.out 7 hk.out)
  have htk := th_at hok.out hil ht.out
  have hkl := htk.keys hk.out
  have hsz := htk.size
  have hjl := idx_lt hj.out
  have hfin : Fact (∀ W, Mem w0 W (recCh t.g t.A t.ob.items.length t.c t.KA t.ob.keys.length t.kc t.mp (t.ob.items.set j (X, Y)) t.ob.keys ++ (h.rest i ++ L)) → ∃ t' : Th, t'.ob = { t.ob with items := t.ob.items.set j (X, Y) } ∧ t'.Ok ∧ Mem w0 W (HpC (h.upd i t') :: L)) := ⟨fun W hW => ⟨_, rfl, fields_ok htk hk.out t.A _ t.c t.KA _ t.kc t.mp _ _ (by simpa using hsz) (by simpa using hkl) htk.nodup htk.wf, Hp.clsR i hil t ht.out hk.out _ _ _ _ _ _ _ _ _ hW⟩⟩
  clear hn
  go_enter Tryz.func87, Tryz.ntmps87
  go_upto_region 1 with (fail)
  have hm1 := (hm.alloc (.cells [.int .i64 K, .int .i64 N].toArray 35)).alloc (.cells [.int .i64 X, .int .i64 Y].toArray 35)
  simp only [World.size_alloc] at hm1
  generalize hgb : w.heap.size = gb at hm1 ⊢
  generalize hw1 : (w.alloc (.cells [.int .i64 K, .int .i64 N].toArray 35)).alloc (.cells [.int .i64 X, .int .i64 Y].toArray 35) = w1 at hm1
  try refine wp_world hw1 ?_
  clear hw1 hgb
  go_wp2_with (refine wp_rng rfl 35 _ rfl gb 0 rfl (cV (K, N)) (rng_blk hm1 m1) row_V sz_V ?_)
  refine (record_at w0 w1 _ h hm1 m2 hok K N).mono ?_
  rintro e w2 ⟨rfl, hg2⟩
  rw [has.out]
  simp only [trapK]
  have hm2 := hm1.gr hg2
  obtain ⟨_, _, c2, _, _, hM, en, ekn⟩ := Hp.readR (hm2.pull2) i hil t ht.out hk.out
  have hlook := mapOk_look hM key hw.out
  rw [hj.out] at hlook
  simp only [Option.isSome_some, Option.getD_some] at hlook
  clear hM hm1
  go_upto_region 6 with (fail)
  clear hlook c2
  have hm3 := Hp.opnR (L := Blk (gb + 1) (.cells [.int .i64 X, .int .i64 Y].toArray 35) :: Blk gb (.cells [.int .i64 K, .int .i64 N].toArray 35) :: L) (hm2.pull2) i hil t ht.out hk.out
  rw [en, ekn] at hm3
  have hm4 := (show Mem w0 w2 (Blk t.g (.cells (recC t.A t.ob.items.length t.c t.KA t.ob.keys.length t.kc t.mp).toArray 133) :: Own 2 (.slice t.A t.ob.items.length t.c) (fV t.ob.items) :: Own 1 (.slice t.KA t.ob.keys.length t.kc) (nums .i64 t.ob.keys) :: MapC t.mp t.ob.keys :: (h.rest i ++ (Blk (gb + 1) (.cells [.int .i64 X, .int .i64 Y].toArray 35) :: Blk gb (.cells [.int .i64 K, .int .i64 N].toArray 35) :: L))) from hm3).drew
  clear hm3 hm2
  have hxm : Blk (gb + 1) (.cells [.int .i64 X, .int .i64 Y].toArray 35) ∈ Blk t.g (.cells (recC t.A t.ob.items.length t.c t.KA t.ob.keys.length t.kc t.mp).toArray 133) :: Own 2 (.slice t.A t.ob.items.length t.c) (fV t.ob.items) :: Own 1 (.slice t.KA t.ob.keys.length t.kc) (nums .i64 t.ob.keys) :: MapC t.mp t.ob.keys :: (h.rest i ++ (Blk (gb + 1) (.cells [.int .i64 X, .int .i64 Y].toArray 35) :: Blk gb (.cells [.int .i64 K, .int .i64 N].toArray 35) :: L)) := .tail _ (.tail _ (.tail _ (.tail _ (List.mem_append_right _ m0))))
  have x0 := hm4.cell hxm 0 rfl
  have x1 := hm4.cell hxm 1 rfl
  clear hxm
  obtain ⟨b, o, hA⟩ := OwnAt.addr (hm4.ok _ m1) (by have := OwnAt.cap (hm4.ok _ m1); omega)
  rw [hA] at hm4 hfin
  have c1 := hm4.cell m0 1 rfl
  have hji : j < t.ob.items.length := by omega
  refine wp_region_still_tail 6 (by kernel_rfl) (by kernel_rfl) ?_
  simp only [List.take_succ_cons, List.take_zero, List.drop_succ_cons, List.drop_zero]
  repeat still_step
  refine wpStill_nil ?_
  go_wp2_with (refine wp_ownrow rfl 35 _ _ rfl (o + j * 2) (j * 2) rfl rfl [.int .i64 X, .int .i64 Y] rfl hm4.swap sz_V (by rw [fV_len]; simp; omega) (cV_one (X, Y)) ?_; intro w6 hm6)
  go_ret2
  have hz := hm6.swap.sub (List.Sublist.cons_cons _ (List.Sublist.cons_cons _ (List.Sublist.cons_cons _ (List.Sublist.cons_cons _ (List.Sublist.append (List.Sublist.refl _) ((List.sublist_cons_self _ _).trans (List.sublist_cons_self _ _)))))))
  have e5 := fV_set t.ob.items j (X, Y) hji
  refine ⟨rfl, hfin.out w6 ?_⟩
  show Mem w0 w6 (Blk t.g _ :: Own 2 (.slice _ (t.ob.items.length) t.c) (fV (t.ob.items.set j (X, Y))) :: _)
  rw [← e5]
  exact hz
/-- SetField: there is no field of that key, and the record is full. -/
theorem setFull_ok (w0 w : World) (L : List Chunk) (h : Hp) (hm : Mem w0 w (HpC h :: L)) (hok : Fact h.Ok) (K N key : Int) (hw : Fact ((Lit.int .i64 key).wf = true)) (X Y : Int) (i : Nat) (hn : nm h.objs (K, N) = some i) (t : Th) (ht : Fact (h.ths.getD i th0 = t)) (hk : Fact (t.ob.kind = 7)) (hj : Fact (t.ob.keys.idxOf? key = none)) (hf : 256 ≤ t.ob.keys.length) :
    Calls Tryz.prog 87 #[.pointer (some ⟨h.g, 0, none⟩), .agg #[.int .i64 K, .int .i64 N], .int .i64 key, .agg #[.int .i64 X, .int .i64 Y]] w fun e w' => e = .returned (.tuple #[.int .i64 8, .bool true]) ∧ Mem w0 w' (HpC h :: L) := by
  have hil := (nm_in hn).1
  have has := Fact.mk (asK_yes hn ht.out 7 hk.out)
  have hf' : decide ((t.ob.keys.length : Int) ≥ 256) = true := decide_eq_true (by omega)
  clear hn
  go_enter Tryz.func87, Tryz.ntmps87
  go_upto_region 1 with (fail)
  have hm1 := (hm.alloc (.cells [.int .i64 K, .int .i64 N].toArray 35)).alloc (.cells [.int .i64 X, .int .i64 Y].toArray 35)
  simp only [World.size_alloc] at hm1
  generalize hgb : w.heap.size = gb at hm1 ⊢
  generalize hw1 : (w.alloc (.cells [.int .i64 K, .int .i64 N].toArray 35)).alloc (.cells [.int .i64 X, .int .i64 Y].toArray 35) = w1 at hm1
  try refine wp_world hw1 ?_
  clear hw1 hgb
  go_wp2_with (refine wp_rng rfl 35 _ rfl gb 0 rfl (cV (K, N)) (rng_blk hm1 m1) row_V sz_V ?_)
  refine (record_at w0 w1 _ h hm1 m2 hok K N).mono ?_
  rintro e w2 ⟨rfl, hg2⟩
  rw [has.out]
  simp only [trapK]
  have hm2 := hm1.gr hg2
  obtain ⟨c0, _, c2, _, _, hM, en, ekn⟩ := Hp.readR (hm2.pull2) i hil t ht.out hk.out
  have hlook := mapOk_look hM key hw.out
  rw [hj.out] at hlook
  simp only [Option.isSome_none, Option.getD_none] at hlook
  clear hM hm1
  go_wp2
  go_ret2
  exact ⟨rfl, hm2.tail.tail⟩
/-- .. there is room for one more, but the budget is spent. -/
theorem setPoor_ok (w0 w : World) (L : List Chunk) (h : Hp) (hm : Mem w0 w (HpC h :: L)) (hok : Fact h.Ok) (K N key : Int) (hw : Fact ((Lit.int .i64 key).wf = true)) (X Y : Int) (i : Nat) (hn : nm h.objs (K, N) = some i) (t : Th) (ht : Fact (h.ths.getD i th0 = t)) (hk : Fact (t.ob.kind = 7)) (hj : Fact (t.ob.keys.idxOf? key = none)) (hf : t.ob.keys.length < 256) (hr : Fact (h.room 2 = false)) :
    Calls Tryz.prog 87 #[.pointer (some ⟨h.g, 0, none⟩), .agg #[.int .i64 K, .int .i64 N], .int .i64 key, .agg #[.int .i64 X, .int .i64 Y]] w fun e w' => e = .returned (.tuple #[.int .i64 0, .bool false]) ∧ Mem w0 w' (HpC h :: L) := by
  have hil := (nm_in hn).1
  have has := Fact.mk (asK_yes hn ht.out 7 hk.out)
  have hf' : decide ((t.ob.keys.length : Int) ≥ 256) = false := decide_eq_false (by omega)
  clear hn
  go_enter Tryz.func87, Tryz.ntmps87
  go_upto_region 1 with (fail)
  have hm1 := (hm.alloc (.cells [.int .i64 K, .int .i64 N].toArray 35)).alloc (.cells [.int .i64 X, .int .i64 Y].toArray 35)
  simp only [World.size_alloc] at hm1
  generalize hgb : w.heap.size = gb at hm1 ⊢
  generalize hw1 : (w.alloc (.cells [.int .i64 K, .int .i64 N].toArray 35)).alloc (.cells [.int .i64 X, .int .i64 Y].toArray 35) = w1 at hm1
  try refine wp_world hw1 ?_
  clear hw1 hgb
  go_wp2_with (refine wp_rng rfl 35 _ rfl gb 0 rfl (cV (K, N)) (rng_blk hm1 m1) row_V sz_V ?_)
  refine (record_at w0 w1 _ h hm1 m2 hok K N).mono ?_
  rintro e w2 ⟨rfl, hg2⟩
  rw [has.out]
  simp only [trapK]
  have hm2 := hm1.gr hg2
  obtain ⟨c0, _, c2, _, _, hM, en, ekn⟩ := Hp.readR (hm2.pull2) i hil t ht.out hk.out
  have hlook := mapOk_look hM key hw.out
  rw [hj.out] at hlook
  simp only [Option.isSome_none, Option.getD_none] at hlook
  clear hM hm1
  go_wp2_with fail
  have hsp := heapSpend_ok w0 w2 _ h hm2.pull2 hok 2
  rw [show h.spend 2 = h from by unfold Hp.spend; rw [hr.out]; rfl, hr.out] at hsp
  refine hsp.mono ?_
  clear hsp
  rintro e w3 ⟨rfl, hm3⟩
  go_wp2_with fail
  go_ret2
  exact ⟨rfl, hm3.sub (List.Sublist.cons_cons _ ((List.sublist_cons_self _ _).trans (List.sublist_cons_self _ _)))⟩
/-- .. a field more. -/
theorem setNew_ok (w0 w : World) (L : List Chunk) (h : Hp) (hm : Mem w0 w (HpC h :: L)) (hok : Fact h.Ok) (K N key : Int) (hw : Fact ((Lit.int .i64 key).wf = true)) (X Y : Int) (i : Nat) (hn : nm h.objs (K, N) = some i) (t : Th) (ht : Fact (h.ths.getD i th0 = t)) (hk : Fact (t.ob.kind = 7)) (hj : Fact (t.ob.keys.idxOf? key = none)) (hf : t.ob.keys.length < 256) (hr : Fact (h.room 2 = true)) :
    Calls Tryz.prog 87 #[.pointer (some ⟨h.g, 0, none⟩), .agg #[.int .i64 K, .int .i64 N], .int .i64 key, .agg #[.int .i64 X, .int .i64 Y]] w fun e w' => e = .returned (.tuple #[.int .i64 0, .bool true]) ∧ ∃ t' : Th, t'.ob = { t.ob with items := t.ob.items ++ [(X, Y)], keys := t.ob.keys ++ [key] } ∧ t'.Ok ∧ Mem w0 w' (HpC ((h.spend 2).upd i t') :: L) := by
  have hil := (nm_in hn).1
  have has := Fact.mk (asK_yes hn ht.out 7 hk.out)
  have htk := th_at hok.out hil ht.out
  have hkl := htk.keys hk.out
  have hf' : decide ((t.ob.keys.length : Int) ≥ 256) = false := decide_eq_false (by omega)
  have hths : (h.spend 2).ths = h.ths := by unfold Hp.spend; split <;> rfl
  have hnd : (t.ob.keys ++ [key]).Nodup := by
    rw [List.nodup_append]
    refine ⟨htk.nodup, by simp, fun a ha b hb hab => ?_⟩
    simp only [List.mem_singleton] at hb
    subst hb hab
    have h1 := hj.out
    rw [List.idxOf?, List.findIdx?_eq_none_iff] at h1
    have := h1 a ha
    simp at this
  have hfin : Fact (∀ W A c KA kc mp, Mem w0 W (recCh t.g A (t.ob.items.length + 1) c KA (t.ob.keys.length + 1) kc mp (t.ob.items ++ [(X, Y)]) (t.ob.keys ++ [key]) ++ ((h.spend 2).rest i ++ L)) → ∃ t' : Th, t'.ob = { t.ob with items := t.ob.items ++ [(X, Y)], keys := t.ob.keys ++ [key] } ∧ t'.Ok ∧ Mem w0 W (HpC ((h.spend 2).upd i t') :: L)) := ⟨fun W A c KA kc mp hW => ⟨_, rfl, fields_ok htk hk.out A _ c KA _ kc mp _ _ (by simp; omega) (by simp; omega) hnd (fun k hkm => by
    simp only [List.mem_append, List.mem_singleton] at hkm
    rcases hkm with h1 | rfl
    · exact htk.wf k h1
    · exact hw.out), Hp.clsR i (by rw [hths]; exact hil) t (by rw [hths]; exact ht.out) hk.out _ _ _ _ _ _ _ _ _ hW⟩⟩
  have hths := Fact.mk hths
  clear hn hnd htk
  go_enter Tryz.func87, Tryz.ntmps87
  go_upto_region 1 with (fail)
  have hm1 := (hm.alloc (.cells [.int .i64 K, .int .i64 N].toArray 35)).alloc (.cells [.int .i64 X, .int .i64 Y].toArray 35)
  simp only [World.size_alloc] at hm1
  generalize hgb : w.heap.size = gb at hm1 ⊢
  generalize hw1 : (w.alloc (.cells [.int .i64 K, .int .i64 N].toArray 35)).alloc (.cells [.int .i64 X, .int .i64 Y].toArray 35) = w1 at hm1
  try refine wp_world hw1 ?_
  clear hw1 hgb
  go_wp2_with (refine wp_rng rfl 35 _ rfl gb 0 rfl (cV (K, N)) (rng_blk hm1 m1) row_V sz_V ?_)
  refine (record_at w0 w1 _ h hm1 m2 hok K N).mono ?_
  rintro e w2 ⟨rfl, hg2⟩
  rw [has.out]
  simp only [trapK]
  have hm2 := hm1.gr hg2
  obtain ⟨c0, _, c2, _, _, hM, en, ekn⟩ := Hp.readR (hm2.pull2) i hil t ht.out hk.out
  have hlook := mapOk_look hM key hw.out
  rw [hj.out] at hlook
  simp only [Option.isSome_none, Option.getD_none] at hlook
  clear hM hm1
  go_wp2_with fail
  have hsp := heapSpend_ok w0 w2 _ h hm2.pull2 hok 2
  rw [hr.out] at hsp
  refine hsp.mono ?_
  clear hsp
  rintro e w3 ⟨rfl, hm3⟩
  obtain ⟨_, _, _, _, _, _, en3, ekn3⟩ := Hp.readR hm3 i (by rw [hths.out]; exact hil) t (by rw [hths.out]; exact ht.out) hk.out
  have hm4 := Hp.opnR hm3 i (by rw [hths.out]; exact hil) t (by rw [hths.out]; exact ht.out) hk.out
  rw [en3, ekn3] at hm4
  clear hm3 hm2 c0 c2 hlook
  have hxm : Blk (gb + 1) (.cells [.int .i64 X, .int .i64 Y].toArray 35) ∈ recCh t.g t.A t.ob.items.length t.c t.KA t.ob.keys.length t.kc t.mp t.ob.items t.ob.keys ++ ((h.spend 2).rest i ++ (Blk (gb + 1) (.cells [.int .i64 X, .int .i64 Y].toArray 35) :: Blk gb (.cells [.int .i64 K, .int .i64 N].toArray 35) :: L)) := List.mem_append_right _ (List.mem_append_right _ m0)
  have x0 := hm4.cell hxm 0 rfl
  have x1 := hm4.cell hxm 1 rfl
  clear hxm
  go_wp2_with (refine wp_rng rfl 35 _ rfl (gb + 1) 0 rfl (cV (X, Y)) (rng2 x0 x1) row_V sz_V ?_)
  refine (rputYes_ok w0 w3 _ t.g t.A t.c t.KA t.kc t.mp t.ob.keys t.ob.items hm4 key hw.out hj X Y (by omega) (by omega)).mono ?_
  rintro e w5 ⟨rfl, A5, c5, KA5, kc5, mp5, hm5⟩
  clear x0 x1
  go_wp2_with fail
  go_ret2
  have hz : Mem w0 w5 (recCh t.g A5 (t.ob.items.length + 1) c5 KA5 (t.ob.keys.length + 1) kc5 mp5 (t.ob.items ++ [(X, Y)]) (t.ob.keys ++ [key]) ++ ((h.spend 2).rest i ++ (Blk (gb + 1) (.cells [.int .i64 X, .int .i64 Y].toArray 35) :: Blk gb (.cells [.int .i64 K, .int .i64 N].toArray 35) :: L))) := hm5
  exact ⟨rfl, hfin.out _ A5 c5 KA5 kc5 mp5 (hz.sub (List.Sublist.append (List.Sublist.refl _) (List.Sublist.append (List.Sublist.refl _) ((List.sublist_cons_self _ _).trans (List.sublist_cons_self _ _)))))⟩
end Go.Proofs.YtpibchjkmaghnaaGreat
namespace Go.Proofs.YtpibchjkmaghnaaGreat
open Go.RowKit Go.Mm
set_option maxHeartbeats 4000000
set_option maxRecDepth 100000
set_option linter.unusedSimpArgs false
theorem array_at (w0 w : World) (L : List Chunk) (h : Hp) (hm : Mem w0 w L) (hh : HpC h ∈ L) (hok : Fact h.Ok) (K N : Int) :
    Calls Tryz.prog 85 #[.pointer (some ⟨h.g, 0, none⟩), .agg #[.int .i64 K, .int .i64 N]] w fun e w' => e = .returned (.tuple #[.pointer (asK h (K, N) 6), .int .i64 (trapK (asK h (K, N) 6))]) ∧ Gr w w' := by
  go_enter Tryz.func85, Tryz.ntmps85
  go_upto_region 1 with (fail)
  have hm1 := hm.alloc (.cells [.int .i64 K, .int .i64 N].toArray 35)
  generalize hgb : w.heap.size = gb at hm1 ⊢
  generalize hw1 : w.alloc (.cells [.int .i64 K, .int .i64 N].toArray 35) = w1 at hm1
  try refine wp_world hw1 ?_
  have hg1 : Gr w w1 := by rw [← hw1]; exact (Gr.refl w).alloc _
  clear hw1 hgb
  go_wp2_with (refine wp_rng rfl 35 _ rfl gb 0 rfl (cV (K, N)) (rng_blk hm1 m0) row_V sz_V ?_)
  refine (named_ok w0 w1 _ h hm1 (.tail _ hh) hok K N).mono ?_
  rintro e w2 ⟨rfl, hg2⟩
  have hta := tan_A hok.out (K, N) w2
  generalize namedV h (K, N) = nv at hta ⊢
  have hgr : Gr w w2 := hg1.trans hg2
  cases hq : asK h (K, N) 6 with
  | none =>
    rw [hq] at hta
    simp only [Option.isSome] at hta
    go_wp2
    go_ret2
    exact ⟨by rw [hq]; rfl, hgr⟩
  | some a =>
    rw [hq] at hta
    simp only [Option.isSome] at hta
    go_wp2
    go_ret2
    exact ⟨by rw [hq]; rfl, hgr⟩
/-- The number of the object of this kind that a value names. -/
def Hs.obAt (s : Hs) (v : V2) (k : Int) : Option Nat := match nm s.objs v with | some i => if (s.objs.getD i ob0).kind = k then some i else none | none => none
theorem ob_at {h : Hp} {i : Nat} (hi : i < h.ths.length) : h.objs.getD i ob0 = (h.ths.getD i th0).ob := by simp [Hp.objs, hi]
theorem asK_of {h : Hp} {v : V2} {k : Int} : (asK h v k = none ∧ h.abs.obAt v k = none) ∨ ∃ i, i < h.ths.length ∧ nm h.objs v = some i ∧ (h.ths.getD i th0).ob.kind = k ∧ h.abs.obAt v k = some i ∧ asK h v k = some ⟨(h.ths.getD i th0).g, 0, none⟩ := by
  unfold asK Hs.obAt
  rw [show h.abs.objs = h.objs from rfl]
  cases hn : nm h.objs v with
  | none => exact .inl ⟨rfl, rfl⟩
  | some i =>
    have hi := (nm_in hn).1
    simp only [ob_at hi]
    by_cases q : (h.ths.getD i th0).ob.kind = k
    · rw [if_pos q, if_pos q]
      exact .inr ⟨i, hi, rfl, q, rfl, rfl⟩
    · rw [if_neg q, if_neg q]
      exact .inl ⟨rfl, rfl⟩
theorem th_ok {h : Hp} (hok : h.Ok) {i : Nat} (hi : i < h.ths.length) : (h.ths.getD i th0).Ok := by
  have := hok.each _ (List.getElem_mem hi)
  simpa [hi] using this
def getV (s : Hs) (v : V2) (j : Int) : V2 := match s.obAt v 6 with | none => (0, 0) | some i => if 0 ≤ j ∧ j < (s.objs.getD i ob0).items.length then (s.objs.getD i ob0).items.getD j.toNat (0, 0) else (0, 0)
def getT (s : Hs) (v : V2) (j : Int) : Int := match s.obAt v 6 with | none => 1 | some i => if 0 ≤ j ∧ j < (s.objs.getD i ob0).items.length then 0 else 3
/-- What is read of an array. -/
theorem Hp.readA {w0 w : World} {L : List Chunk} {h : Hp} (hm : Mem w0 w (HpC h :: L)) (i : Nat) (hi : i < h.ths.length) (t : Th) (ht : h.ths.getD i th0 = t) (hk : t.ob.kind = 6) :
    w.cell? ⟨t.g, 0, none⟩ = some (.slice t.A t.ob.items.length t.c) ∧ RdC w 2 (.slice t.A t.ob.items.length t.c) (fV t.ob.items) ∧ t.n = t.ob.items.length := by
  have h1 := Hp.opn hm i hi
  rw [ht] at h1
  obtain ⟨h0, hx, _⟩ := Th.reads (t := t) (w := w) (fun c hc => h1.ok c (List.mem_append_left _ hc))
  have e1 := rdV_len hx
  have hc : t.cells = [.slice t.A t.n t.c] := by unfold Th.cells; rw [if_pos hk]
  have c0 := h0 0 (.slice t.A t.n t.c) (by rw [hc]; rfl)
  rw [← e1] at c0 hx
  exact ⟨c0, hx, e1.symm⟩
theorem get_ok (w0 w : World) (L : List Chunk) (h : Hp) (hm : Mem w0 w (HpC h :: L)) (hok : Fact h.Ok) (K N j : Int) :
    Calls Tryz.prog 73 #[.pointer (some ⟨h.g, 0, none⟩), .agg #[.int .i64 K, .int .i64 N], .int .i64 j] w fun e w' => e = .returned (.tuple #[.agg #[.int .i64 (getV h.abs (K, N) j).1, .int .i64 (getV h.abs (K, N) j).2], .int .i64 (getT h.abs (K, N) j)]) ∧ Mem w0 w' (HpC h :: L) := by
  rcases asK_of (h := h) (v := (K, N)) (k := 6) with ⟨has, hob⟩ | ⟨i, hil, _, hk, hob, has⟩
  · rw [show getV h.abs (K, N) j = (0, 0) by unfold getV; rw [hob], show getT h.abs (K, N) j = 1 by unfold getT; rw [hob]]
    replace has := Fact.mk has
    clear hob
    go_enter Tryz.func73, Tryz.ntmps73
    go_upto_region 1 with (fail)
    have hm1 := (hm.alloc (.cells [.int .i64 K, .int .i64 N].toArray 35)).alloc (.cells [.int .i64 0, .int .i64 0].toArray 35)
    simp only [World.size_alloc] at hm1
    generalize hgb : w.heap.size = gb at hm1 ⊢
    generalize hw1 : (w.alloc (.cells [.int .i64 K, .int .i64 N].toArray 35)).alloc (.cells [.int .i64 0, .int .i64 0].toArray 35) = w1 at hm1
    try refine wp_world hw1 ?_
    clear hw1 hgb
    go_wp2_with (refine wp_rng rfl 35 _ rfl gb 0 rfl (cV (K, N)) (rng_blk hm1 m1) row_V sz_V ?_)
    refine (array_at w0 w1 _ h hm1 m2 hok K N).mono ?_
    rintro e w2 ⟨rfl, hg2⟩
    rw [has.out]
    simp only [trapK]
    have hm2 := hm1.gr hg2
    clear hm1
    go_wp2_with (refine wp_setrow rfl 35 _ _ rfl (gb + 1) rfl 35 _ [.int .i64 0, .int .i64 0] rfl hm2 sz_V rfl (cV_one (0, 0)) ?_; intro w3 hm3)
    refine bodyPost_ret (Mm.res_cell_tmp rfl _ (gb + 1) 35 [.int .i64 0, .int .i64 0] (0, 0) rfl hm3 m0 row_V sz_V) rfl ⟨rfl, hm3.tail.tail⟩
  · obtain ⟨t, ht⟩ : ∃ t, h.ths.getD i th0 = t := ⟨_, rfl⟩
    have hv : getV h.abs (K, N) j = if 0 ≤ j ∧ j < t.ob.items.length then t.ob.items.getD j.toNat (0, 0) else (0, 0) := by
      unfold getV; rw [hob]; simp only [show h.abs.objs = h.objs from rfl, ob_at hil, ht]
    have hT : getT h.abs (K, N) j = if 0 ≤ j ∧ j < t.ob.items.length then 0 else 3 := by
      unfold getT; rw [hob]; simp only [show h.abs.objs = h.objs from rfl, ob_at hil, ht]
    have hsz := (th_ok hok.out hil).size
    rw [ht] at hsz hk has
    rw [hv, hT]
    clear hv hT hob
    replace has := Fact.mk has
    replace ht := Fact.mk ht
    replace hk := Fact.mk hk
    by_cases q0 : j < 0
    · have q0' : decide (j < 0) = true := decide_eq_true q0
      rw [if_neg (by omega), if_neg (by omega)]
      go_enter Tryz.func73, Tryz.ntmps73
      go_upto_region 1 with (fail)
      have hm1 := (hm.alloc (.cells [.int .i64 K, .int .i64 N].toArray 35)).alloc (.cells [.int .i64 0, .int .i64 0].toArray 35)
      simp only [World.size_alloc] at hm1
      generalize hgb : w.heap.size = gb at hm1 ⊢
      generalize hw1 : (w.alloc (.cells [.int .i64 K, .int .i64 N].toArray 35)).alloc (.cells [.int .i64 0, .int .i64 0].toArray 35) = w1 at hm1
      try refine wp_world hw1 ?_
      clear hw1 hgb
      go_wp2_with (refine wp_rng rfl 35 _ rfl gb 0 rfl (cV (K, N)) (rng_blk hm1 m1) row_V sz_V ?_)
      refine (array_at w0 w1 _ h hm1 m2 hok K N).mono ?_
      rintro e w2 ⟨rfl, hg2⟩
      rw [has.out]
      simp only [trapK]
      have hm2 := hm1.gr hg2
      clear hm1
      obtain ⟨c0, _, _⟩ := Hp.readA hm2.pull2 i hil t ht.out hk.out
      go_wp2_with (refine wp_setrow rfl 35 _ _ rfl (gb + 1) rfl 35 _ [.int .i64 0, .int .i64 0] rfl hm2 sz_V rfl (cV_one (0, 0)) ?_; intro w3 hm3)
      refine bodyPost_ret (Mm.res_cell_tmp rfl _ (gb + 1) 35 [.int .i64 0, .int .i64 0] (0, 0) rfl hm3 m0 row_V sz_V) rfl ⟨rfl, hm3.tail.tail⟩
    · have q0' : decide (j < 0) = false := decide_eq_false q0
      by_cases q1 : j < t.ob.items.length
      · have q1' : decide (j ≥ t.ob.items.length) = false := decide_eq_false (by omega)
        rw [if_pos (by omega), if_pos (by omega)]
        obtain ⟨k, rfl⟩ := Int.eq_ofNat_of_zero_le (Int.not_lt.1 q0)
        have hkl : k < t.ob.items.length := by omega
        obtain ⟨x, hx⟩ : ∃ x, t.ob.items.getD k (0, 0) = x := ⟨_, rfl⟩
        rw [show ((k : Nat) : Int).toNat = k from rfl, hx]
        replace hx := Fact.mk hx
        go_enter Tryz.func73, Tryz.ntmps73
        go_upto_region 1 with (fail)
        have hm1 := (hm.alloc (.cells [.int .i64 K, .int .i64 N].toArray 35)).alloc (.cells [.int .i64 0, .int .i64 0].toArray 35)
        simp only [World.size_alloc] at hm1
        generalize hgb : w.heap.size = gb at hm1 ⊢
        generalize hw1 : (w.alloc (.cells [.int .i64 K, .int .i64 N].toArray 35)).alloc (.cells [.int .i64 0, .int .i64 0].toArray 35) = w1 at hm1
        try refine wp_world hw1 ?_
        clear hw1 hgb
        go_wp2_with (refine wp_rng rfl 35 _ rfl gb 0 rfl (cV (K, N)) (rng_blk hm1 m1) row_V sz_V ?_)
        refine (array_at w0 w1 _ h hm1 m2 hok K N).mono ?_
        rintro e w2 ⟨rfl, hg2⟩
        rw [has.out]
        simp only [trapK]
        have hm2 := hm1.gr hg2
        clear hm1
        obtain ⟨c0, hR, _⟩ := Hp.readA hm2.pull2 i hil t ht.out hk.out
        obtain ⟨b, o, hA, g1, g2, _, _⟩ := rdV_at hR k hkl
        rw [hx.out] at g1 g2
        rw [hA] at c0
        clear hR hA
        go_wp2_with (first | (refine wp_rng rfl 35 _ rfl b (o + k * 2) rfl (cV x) (rng2 g1 g2) row_V sz_V ?_) | (refine wp_setrow rfl 35 _ _ rfl (gb + 1) rfl 35 _ (cV x) rfl hm2 sz_V rfl (cV_one x) ?_; intro w3 hm3))
        refine bodyPost_ret (Mm.res_cell_tmp rfl _ (gb + 1) 35 (cV x) (0, 0) rfl hm3 m0 row_V sz_V) rfl ⟨rfl, hm3.tail.tail⟩
      · have q1' : decide (j ≥ t.ob.items.length) = true := decide_eq_true (by omega)
        rw [if_neg (by omega), if_neg (by omega)]
        go_enter Tryz.func73, Tryz.ntmps73
        go_upto_region 1 with (fail)
        have hm1 := (hm.alloc (.cells [.int .i64 K, .int .i64 N].toArray 35)).alloc (.cells [.int .i64 0, .int .i64 0].toArray 35)
        simp only [World.size_alloc] at hm1
        generalize hgb : w.heap.size = gb at hm1 ⊢
        generalize hw1 : (w.alloc (.cells [.int .i64 K, .int .i64 N].toArray 35)).alloc (.cells [.int .i64 0, .int .i64 0].toArray 35) = w1 at hm1
        try refine wp_world hw1 ?_
        clear hw1 hgb
        go_wp2_with (refine wp_rng rfl 35 _ rfl gb 0 rfl (cV (K, N)) (rng_blk hm1 m1) row_V sz_V ?_)
        refine (array_at w0 w1 _ h hm1 m2 hok K N).mono ?_
        rintro e w2 ⟨rfl, hg2⟩
        rw [has.out]
        simp only [trapK]
        have hm2 := hm1.gr hg2
        clear hm1
        obtain ⟨c0, _, _⟩ := Hp.readA hm2.pull2 i hil t ht.out hk.out
        go_wp2_with (refine wp_setrow rfl 35 _ _ rfl (gb + 1) rfl 35 _ [.int .i64 0, .int .i64 0] rfl hm2 sz_V rfl (cV_one (0, 0)) ?_; intro w3 hm3)
        refine bodyPost_ret (Mm.res_cell_tmp rfl _ (gb + 1) 35 [.int .i64 0, .int .i64 0] (0, 0) rfl hm3 m0 row_V sz_V) rfl ⟨rfl, hm3.tail.tail⟩
def Hs.put (s : Hs) (i : Nat) (o : Ob) : Hs := ⟨s.budget, s.spent, s.objs.set i o⟩
theorem Hp.upd_abs (h : Hp) (i : Nat) (t : Th) : (h.upd i t).abs = h.abs.put i t.ob := by
  simp [Hp.upd, Hp.abs, Hp.objs, Hs.put, List.map_set]
def setS (s : Hs) (v : V2) (j : Int) (x : V2) : Hs := match s.obAt v 6 with | none => s | some i => if 0 ≤ j ∧ j < (s.objs.getD i ob0).items.length then s.put i { s.objs.getD i ob0 with items := (s.objs.getD i ob0).items.set j.toNat x } else s
/-- An array opened. -/
theorem Hp.opnA {w0 w : World} {L : List Chunk} {h : Hp} (hm : Mem w0 w (HpC h :: L)) (i : Nat) (hi : i < h.ths.length) (t : Th) (ht : h.ths.getD i th0 = t) (hk : t.ob.kind = 6) :
    Mem w0 w (Blk t.g (.cells [.slice t.A t.n t.c].toArray 116) :: Own 2 (.slice t.A t.n t.c) (fV t.ob.items) :: (t.more ++ (h.rest i ++ L))) := by
  have h1 := Hp.opn hm i hi
  rw [ht] at h1
  have e : t.chunks = Blk t.g (.cells [.slice t.A t.n t.c].toArray 116) :: Own 2 (.slice t.A t.n t.c) (fV t.ob.items) :: t.more := by
    unfold Th.chunks Th.cells thEl Th.more
    rw [hk]
    rfl
  rw [e] at h1
  exact h1
theorem Hp.clsA {w0 w : World} {L : List Chunk} {h : Hp} (i : Nat) (hi : i < h.ths.length) (t : Th) (ht : h.ths.getD i th0 = t) (hk : t.ob.kind = 6) (A : Option Addr) (n c : Nat) (items : List V2)
    (hm : Mem w0 w (Blk t.g (.cells [.slice A n c].toArray 116) :: Own 2 (.slice A n c) (fV items) :: (t.more ++ (h.rest i ++ L)))) : Mem w0 w (HpC (h.upd i (t.queue A n c items t.ob.shut)) :: L) := by
  refine Hp.cls i hi (t.queue A n c items t.ob.shut) (by rw [ht]; rfl) ?_
  have e : (t.queue A n c items t.ob.shut).chunks = Blk t.g (.cells [.slice A n c].toArray 116) :: Own 2 (.slice A n c) (fV items) :: t.more := by
    unfold Th.chunks Th.cells thEl Th.more
    rw [show (t.queue A n c items t.ob.shut).ob.kind = 6 from hk]
    rfl
  rw [e]
  exact hm
theorem queueA_ok {t : Th} (ht : t.Ok) (hk : t.ob.kind = 6) (A : Option Addr) (n c : Nat) (items : List V2) (hl : items.length ≤ 1048576) : (t.queue A n c items t.ob.shut).Ok :=
  ⟨ht.kind, hl, fun h7 => absurd (hk.symm.trans h7) (by decide), ht.nokeys, ht.nodup, ht.wf, ht.fn, ht.cap⟩
theorem set_ok (w0 w : World) (L : List Chunk) (h : Hp) (hm : Mem w0 w (HpC h :: L)) (hok : Fact h.Ok) (K N j X Y : Int) :
    Calls Tryz.prog 74 #[.pointer (some ⟨h.g, 0, none⟩), .agg #[.int .i64 K, .int .i64 N], .int .i64 j, .agg #[.int .i64 X, .int .i64 Y]] w fun e w' => e = .returned (.int .i64 (getT h.abs (K, N) j)) ∧ HpQ w0 L h.g (setS h.abs (K, N) j (X, Y)) w' := by
  rcases asK_of (h := h) (v := (K, N)) (k := 6) with ⟨has, hob⟩ | ⟨i, hil, _, hk, hob, has⟩
  · rw [show setS h.abs (K, N) j (X, Y) = h.abs by unfold setS; rw [hob], show getT h.abs (K, N) j = 1 by unfold getT; rw [hob]]
    replace has := Fact.mk has
    clear hob
    go_enter Tryz.func74, Tryz.ntmps74
    go_upto_region 1 with (fail)
    have hm1 := (hm.alloc (.cells [.int .i64 K, .int .i64 N].toArray 35)).alloc (.cells [.int .i64 X, .int .i64 Y].toArray 35)
    simp only [World.size_alloc] at hm1
    generalize hgb : w.heap.size = gb at hm1 ⊢
    generalize hw1 : (w.alloc (.cells [.int .i64 K, .int .i64 N].toArray 35)).alloc (.cells [.int .i64 X, .int .i64 Y].toArray 35) = w1 at hm1
    try refine wp_world hw1 ?_
    clear hw1 hgb
    go_wp2_with (refine wp_rng rfl 35 _ rfl gb 0 rfl (cV (K, N)) (rng_blk hm1 m1) row_V sz_V ?_)
    refine (array_at w0 w1 _ h hm1 m2 hok K N).mono ?_
    rintro e w2 ⟨rfl, hg2⟩
    rw [has.out]
    simp only [trapK]
    have hm2 := hm1.gr hg2
    clear hm1
    go_wp2
    go_ret
    exact ⟨rfl, h, rfl, rfl, hok.out, hm2.tail.tail⟩
  · obtain ⟨t, ht⟩ : ∃ t, h.ths.getD i th0 = t := ⟨_, rfl⟩
    have hv : setS h.abs (K, N) j (X, Y) = if 0 ≤ j ∧ j < t.ob.items.length then h.abs.put i { t.ob with items := t.ob.items.set j.toNat (X, Y) } else h.abs := by
      unfold setS; rw [hob]; simp only [show h.abs.objs = h.objs from rfl, ob_at hil, ht]
    have hT : getT h.abs (K, N) j = if 0 ≤ j ∧ j < t.ob.items.length then 0 else 3 := by
      unfold getT; rw [hob]; simp only [show h.abs.objs = h.objs from rfl, ob_at hil, ht]
    have htk := th_ok hok.out hil
    rw [ht] at htk hk has
    have hsz := htk.size
    rw [hv, hT]
    clear hv hT hob
    replace has := Fact.mk has
    replace ht := Fact.mk ht
    replace hk := Fact.mk hk
    replace htk := Fact.mk htk
    by_cases q0 : j < 0
    · have q0' : decide (j < 0) = true := decide_eq_true q0
      rw [if_neg (by omega), if_neg (by omega)]
      go_enter Tryz.func74, Tryz.ntmps74
      go_upto_region 1 with (fail)
      have hm1 := (hm.alloc (.cells [.int .i64 K, .int .i64 N].toArray 35)).alloc (.cells [.int .i64 X, .int .i64 Y].toArray 35)
      simp only [World.size_alloc] at hm1
      generalize hgb : w.heap.size = gb at hm1 ⊢
      generalize hw1 : (w.alloc (.cells [.int .i64 K, .int .i64 N].toArray 35)).alloc (.cells [.int .i64 X, .int .i64 Y].toArray 35) = w1 at hm1
      try refine wp_world hw1 ?_
      clear hw1 hgb
      go_wp2_with (refine wp_rng rfl 35 _ rfl gb 0 rfl (cV (K, N)) (rng_blk hm1 m1) row_V sz_V ?_)
      refine (array_at w0 w1 _ h hm1 m2 hok K N).mono ?_
      rintro e w2 ⟨rfl, hg2⟩
      rw [has.out]
      simp only [trapK]
      have hm2 := hm1.gr hg2
      clear hm1
      obtain ⟨c0, _, _⟩ := Hp.readA hm2.pull2 i hil t ht.out hk.out
      go_wp2
      go_ret
      exact ⟨rfl, h, rfl, rfl, hok.out, hm2.tail.tail⟩
    · have q0' : decide (j < 0) = false := decide_eq_false q0
      by_cases q1 : j < t.ob.items.length
      · have q1' : decide (j ≥ t.ob.items.length) = false := decide_eq_false (by omega)
        rw [if_pos (by omega), if_pos (by omega)]
        obtain ⟨k, rfl⟩ := Int.eq_ofNat_of_zero_le (Int.not_lt.1 q0)
        have hkl : k < t.ob.items.length := by omega
        rw [show ((k : Nat) : Int).toNat = k from rfl]
        have hfin : Fact (∀ W, Mem w0 W (Blk t.g (.cells [.slice t.A t.ob.items.length t.c].toArray 116) :: Own 2 (.slice t.A t.ob.items.length t.c) (fV (t.ob.items.set k (X, Y))) :: (t.more ++ (h.rest i ++ L))) → HpQ w0 L h.g (h.abs.put i { t.ob with items := t.ob.items.set k (X, Y) }) W) := ⟨fun W hW => ⟨h.upd i (t.queue t.A t.ob.items.length t.c (t.ob.items.set k (X, Y)) t.ob.shut), rfl, h.upd_abs i _, upd_ok hok.out i _ (queueA_ok htk.out hk.out _ _ _ _ (by simpa using hsz)), Hp.clsA i hil t ht.out hk.out _ _ _ _ hW⟩⟩
        go_enter Tryz.func74, Tryz.ntmps74
        go_upto_region 1 with (fail)
        have hm1 := (hm.alloc (.cells [.int .i64 K, .int .i64 N].toArray 35)).alloc (.cells [.int .i64 X, .int .i64 Y].toArray 35)
        simp only [World.size_alloc] at hm1
        generalize hgb : w.heap.size = gb at hm1 ⊢
        generalize hw1 : (w.alloc (.cells [.int .i64 K, .int .i64 N].toArray 35)).alloc (.cells [.int .i64 X, .int .i64 Y].toArray 35) = w1 at hm1
        try refine wp_world hw1 ?_
        clear hw1 hgb
        go_wp2_with (refine wp_rng rfl 35 _ rfl gb 0 rfl (cV (K, N)) (rng_blk hm1 m1) row_V sz_V ?_)
        refine (array_at w0 w1 _ h hm1 m2 hok K N).mono ?_
        rintro e w2 ⟨rfl, hg2⟩
        rw [has.out]
        simp only [trapK]
        have hm2 := hm1.gr hg2
        clear hm1
        obtain ⟨c0, _, en⟩ := Hp.readA hm2.pull2 i hil t ht.out hk.out
        go_upto_region 6 with (fail)
        have hm3 := Hp.opnA (L := Blk (gb + 1) (.cells [.int .i64 X, .int .i64 Y].toArray 35) :: Blk gb (.cells [.int .i64 K, .int .i64 N].toArray 35) :: L) hm2.pull2 i hil t ht.out hk.out
        rw [en] at hm3
        have hm4 := hm3.drew
        clear hm3 hm2 c0
        have hxm : Blk (gb + 1) (.cells [.int .i64 X, .int .i64 Y].toArray 35) ∈ Blk t.g (.cells [.slice t.A t.ob.items.length t.c].toArray 116) :: Own 2 (.slice t.A t.ob.items.length t.c) (fV t.ob.items) :: (t.more ++ (h.rest i ++ (Blk (gb + 1) (.cells [.int .i64 X, .int .i64 Y].toArray 35) :: Blk gb (.cells [.int .i64 K, .int .i64 N].toArray 35) :: L))) := .tail _ (.tail _ (List.mem_append_right _ (List.mem_append_right _ m0)))
        have x0 := hm4.cell hxm 0 rfl
        have x1 := hm4.cell hxm 1 rfl
        clear hxm
        obtain ⟨b, o, hA⟩ := OwnAt.addr (hm4.ok _ m1) (by have := OwnAt.cap (hm4.ok _ m1); omega)
        rw [hA] at hm4 hfin
        have c1 := hm4.cell m0 0 rfl
        replace hA := Fact.mk hA
        refine wp_region_still_tail 6 (by kernel_rfl) (by kernel_rfl) ?_
        simp only [List.take_succ_cons, List.take_zero, List.drop_succ_cons, List.drop_zero]
        repeat still_step
        refine wpStill_nil ?_
        go_wp2_with (refine wp_ownrow rfl 35 _ _ rfl (o + k * 2) (k * 2) rfl rfl [.int .i64 X, .int .i64 Y] rfl hm4.swap sz_V (by rw [fV_len]; simp; omega) (cV_one (X, Y)) ?_; intro w6 hm6)
        go_ret
        have hz := hm6.swap.sub (List.Sublist.cons_cons _ (List.Sublist.cons_cons _ (List.Sublist.append (List.Sublist.refl _) (List.Sublist.append (List.Sublist.refl _) ((List.sublist_cons_self _ _).trans (List.sublist_cons_self _ _))))))
        have e5 := fV_set t.ob.items k (X, Y) hkl
        refine ⟨rfl, hfin.out w6 ?_⟩
        rw [← e5]
        exact hz
      · have q1' : decide (j ≥ t.ob.items.length) = true := decide_eq_true (by omega)
        rw [if_neg (by omega), if_neg (by omega)]
        go_enter Tryz.func74, Tryz.ntmps74
        go_upto_region 1 with (fail)
        have hm1 := (hm.alloc (.cells [.int .i64 K, .int .i64 N].toArray 35)).alloc (.cells [.int .i64 X, .int .i64 Y].toArray 35)
        simp only [World.size_alloc] at hm1
        generalize hgb : w.heap.size = gb at hm1 ⊢
        generalize hw1 : (w.alloc (.cells [.int .i64 K, .int .i64 N].toArray 35)).alloc (.cells [.int .i64 X, .int .i64 Y].toArray 35) = w1 at hm1
        try refine wp_world hw1 ?_
        clear hw1 hgb
        go_wp2_with (refine wp_rng rfl 35 _ rfl gb 0 rfl (cV (K, N)) (rng_blk hm1 m1) row_V sz_V ?_)
        refine (array_at w0 w1 _ h hm1 m2 hok K N).mono ?_
        rintro e w2 ⟨rfl, hg2⟩
        rw [has.out]
        simp only [trapK]
        have hm2 := hm1.gr hg2
        clear hm1
        obtain ⟨c0, _, _⟩ := Hp.readA hm2.pull2 i hil t ht.out hk.out
        go_wp2
        go_ret
        exact ⟨rfl, h, rfl, rfl, hok.out, hm2.tail.tail⟩
end Go.Proofs.YtpibchjkmaghnaaGreat
namespace Go.Proofs.YtpibchjkmaghnaaGreat
open Go.RowKit Go.Mm
set_option maxHeartbeats 4000000
set_option maxRecDepth 100000
set_option linter.unusedSimpArgs false
/-- Push, an item more. -/
theorem pushNew_ok (w0 w : World) (L : List Chunk) (h : Hp) (hm : Mem w0 w (HpC h :: L)) (hok : Fact h.Ok) (K N X Y : Int) (i : Nat) (hil : i < h.ths.length) (t : Th) (ht : Fact (h.ths.getD i th0 = t)) (hk : Fact (t.ob.kind = 6)) (has : Fact (asK h (K, N) 6 = some ⟨t.g, 0, none⟩)) (hf : t.ob.items.length < 4096) (hr : Fact (h.room 1 = true)) :
    Calls Tryz.prog 75 #[.pointer (some ⟨h.g, 0, none⟩), .agg #[.int .i64 K, .int .i64 N], .agg #[.int .i64 X, .int .i64 Y]] w fun e w' => e = .returned (.tuple #[.int .i64 0, .bool true]) ∧ HpQ w0 L h.g ((h.abs.spend 1).put i { t.ob with items := t.ob.items ++ [(X, Y)] }) w' := by
  obtain ⟨iV, hiV, hz0, hz1, hz2⟩ := info_parts inf_V
  have htk := Fact.mk (th_at hok.out hil ht.out)
  have hf' : decide ((t.ob.items.length : Int) ≥ 4096) = false := decide_eq_false (by omega)
  have hths : Fact ((h.spend 1).ths = h.ths) := ⟨by unfold Hp.spend; split <;> rfl⟩
  have hfin : Fact (∀ W A c, Mem w0 W (Blk t.g (.cells [.slice A (t.ob.items.length + 1) c].toArray 116) :: Own 2 (.slice A (t.ob.items.length + 1) c) (fV (t.ob.items ++ [(X, Y)])) :: (t.more ++ ((h.spend 1).rest i ++ L))) → HpQ w0 L h.g ((h.abs.spend 1).put i { t.ob with items := t.ob.items ++ [(X, Y)] }) W) := ⟨fun W A c hW => ⟨(h.spend 1).upd i (t.queue A (t.ob.items.length + 1) c (t.ob.items ++ [(X, Y)]) t.ob.shut), h.spend_g 1, by rw [Hp.upd_abs, Hp.spend_abs]; rfl, upd_ok (Hp.spend_ok hok.out 1) i _ (queueA_ok htk.out hk.out _ _ _ _ (by simp; omega)), Hp.clsA i (by rw [hths.out]; exact hil) t (by rw [hths.out]; exact ht.out) hk.out _ _ _ _ hW⟩⟩
  go_enter Tryz.func75, Tryz.ntmps75
  go_upto_region 1 with (fail)
  have hm1 := (hm.alloc (.cells [.int .i64 K, .int .i64 N].toArray 35)).alloc (.cells [.int .i64 X, .int .i64 Y].toArray 35)
  simp only [World.size_alloc] at hm1
  generalize hgb : w.heap.size = gb at hm1 ⊢
  generalize hw1 : (w.alloc (.cells [.int .i64 K, .int .i64 N].toArray 35)).alloc (.cells [.int .i64 X, .int .i64 Y].toArray 35) = w1 at hm1
  try refine wp_world hw1 ?_
  clear hw1 hgb
  go_wp2_with (refine wp_rng rfl 35 _ rfl gb 0 rfl (cV (K, N)) (rng_blk hm1 m1) row_V sz_V ?_)
  refine (array_at w0 w1 _ h hm1 m2 hok K N).mono ?_
  rintro e w2 ⟨rfl, hg2⟩
  rw [has.out]
  simp only [trapK]
  have hm2 := hm1.gr hg2
  obtain ⟨c0, _, en⟩ := Hp.readA hm2.pull2 i hil t ht.out hk.out
  clear hm1
  go_wp2_with fail
  have hsp := heapSpend_ok w0 w2 _ h hm2.pull2 hok 1
  rw [hr.out] at hsp
  refine hsp.mono ?_
  clear hsp c0
  rintro e w3 ⟨rfl, hm3⟩
  have hm4 := Hp.opnA hm3 i (by rw [hths.out]; exact hil) t (by rw [hths.out]; exact ht.out) hk.out
  rw [en] at hm4
  clear hm3 hm2
  go_upto_region 8 with (fail)
  obtain ⟨R, hR⟩ : ∃ R, R = t.more ++ ((h.spend 1).rest i ++ (Blk (gb + 1) (.cells [.int .i64 X, .int .i64 Y].toArray 35) :: Blk gb (.cells [.int .i64 K, .int .i64 N].toArray 35) :: L)) := ⟨_, rfl⟩
  have hxR : Blk (gb + 1) (.cells [.int .i64 X, .int .i64 Y].toArray 35) ∈ R := by rw [hR]; exact List.mem_append_right _ (List.mem_append_right _ m0)
  rw [← hR] at hm4
  replace hR := Fact.mk hR
  have hm5 := hm4.drew
  have hS := And.intro (hm5.cell m0 0 rfl) (And.intro (hm5.cell (.tail _ (.tail _ hxR)) 0 rfl) (hm5.cell (.tail _ (.tail _ hxR)) 1 rfl))
  clear hm4
  refine wp_region_until (S := fun W => W.cell? ⟨t.g, 0, none⟩ = some (.slice t.A t.ob.items.length t.c) ∧ W.cell? ⟨gb + 1, 0, none⟩ = some (.int .i64 X) ∧ W.cell? ⟨gb + 1, 1, none⟩ = some (.int .i64 Y)) 8 (by kernel_rfl) ?_
  generalize w3.drew = w5 at hm5 hS ⊢
  refine wpAnyU_take 0 (v := ?vsa0) rfl (by kernel_rfl) (by kernel_rfl) (fun _ _ _ h => h) hS (Or.inl ⟨rfl, ?ysa0⟩) ?rsa0
  case ysa0 =>
    intro W hW
    obtain ⟨hW0, hW1, hW2⟩ := hW
    go_simp
    try with_reducible rfl
  try simp only [Act.put, List.getElem_toArray, List.getElem_cons_succ, List.getElem_cons_zero, List.setIfInBounds_toArray, List.set_cons_zero, List.set_cons_succ]
  refine wpAnyU_take 1 (v := ?vsa1) rfl (by kernel_rfl) (by kernel_rfl) (fun _ _ _ h => h) hS (Or.inl ⟨rfl, ?ysa1⟩) ?rsa1
  case ysa1 =>
    intro W hW
    obtain ⟨hW0, hW1, hW2⟩ := hW
    go_simp
    try with_reducible rfl
  try simp only [Act.put, List.getElem_toArray, List.getElem_cons_succ, List.getElem_cons_zero, List.setIfInBounds_toArray, List.set_cons_zero, List.set_cons_succ]
  refine wpAnyU_take 2 (v := ?vsa2) rfl (by kernel_rfl) (by kernel_rfl) (fun _ _ _ h => h) hS (Or.inl ⟨rfl, ?ysa2⟩) ?rsa2
  case ysa2 =>
    intro W hW
    obtain ⟨hW0, hW1, hW2⟩ := hW
    go_simp
    try with_reducible rfl
  try simp only [Act.put, List.getElem_toArray, List.getElem_cons_succ, List.getElem_cons_zero, List.setIfInBounds_toArray, List.set_cons_zero, List.set_cons_succ]
  refine wpAnyU_take 3 (v := ?vsa3) rfl (by kernel_rfl) (by kernel_rfl) (fun _ _ _ h => h) hS (Or.inl ⟨rfl, ?ysa3⟩) ?rsa3
  case ysa3 =>
    intro W hW
    obtain ⟨hW0, hW1, hW2⟩ := hW
    go_simp
    try with_reducible rfl
  try simp only [Act.put, List.getElem_toArray, List.getElem_cons_succ, List.getElem_cons_zero, List.setIfInBounds_toArray, List.set_cons_zero, List.set_cons_succ]
  refine wpAnyU_take 4 (v := ?vsa4) rfl (by kernel_rfl) (by kernel_rfl) (fun _ _ _ h => h) hS (Or.inl ⟨rfl, ?ysa4⟩) ?rsa4
  case ysa4 =>
    intro W hW
    obtain ⟨hW0, hW1, hW2⟩ := hW
    go_simp
    try with_reducible rfl
  try simp only [Act.put, List.getElem_toArray, List.getElem_cons_succ, List.getElem_cons_zero, List.setIfInBounds_toArray, List.set_cons_zero, List.set_cons_succ]
  refine wpAnyU_take 5 (v := ?vsa5) rfl (by kernel_rfl) (by kernel_rfl) (fun _ _ _ h => h) hS (Or.inl ⟨rfl, ?ysa5⟩) ?rsa5
  case ysa5 =>
    intro W hW
    obtain ⟨hW0, hW1, hW2⟩ := hW
    go_simp
    try with_reducible rfl
  try simp only [Act.put, List.getElem_toArray, List.getElem_cons_succ, List.getElem_cons_zero, List.setIfInBounds_toArray, List.set_cons_zero, List.set_cons_succ]
  refine wpAnyU_one 6 (by kernel_rfl) rfl (fun K hK => ?_)
  go_simp
  have hm6 := hm5.alloc (.cells [.int .i64 X, .int .i64 Y].toArray 35)
  refine hK _ _ (fun _ => ⟨hm6.cell m1 0 rfl, hm6.cell (.tail _ (.tail _ (.tail _ hxR))) 0 rfl, hm6.cell (.tail _ (.tail _ (.tail _ hxR))) 1 rfl⟩) ?_
  clear hK K hS
  try simp only [Act.put, List.getElem_toArray, List.getElem_cons_succ, List.getElem_cons_zero, List.setIfInBounds_toArray, List.set_cons_zero, List.set_cons_succ]
  refine wpAnyU_one 7 (by kernel_rfl) rfl (fun K hK => ?_)
  refine step_app rfl _ _ _ rfl 35 iV _ 2 16 ty_Vs hiV hz0 hz1 hz2 rfl t.A t.ob.items.length t.c _ rfl hm6.pull2 _ 1 1 [.int .i64 X, .int .i64 Y] rfl (RdC.lit _ _ _ _ _ rfl (by simp [maxLen]) (cV_one (X, Y))) (by unfold maxLen; omega) (by omega) ?_
  intro A9 c9 w9 HM9
  have hm9 := HM9.back2.tail
  clear HM9 hm6 hm5
  have hT := And.intro (hm9.cell m0 0 rfl) (And.intro (hm9.cell (.tail _ (.tail _ hxR)) 0 rfl) (hm9.cell (.tail _ (.tail _ hxR)) 1 rfl))
  refine hK _ _ (fun _ => hT) ?_
  clear hK K
  try simp only [Act.put, List.getElem_toArray, List.getElem_cons_succ, List.getElem_cons_zero, List.setIfInBounds_toArray, List.set_cons_zero, List.set_cons_succ]
  refine wpAnyU_one 8 (by kernel_rfl) rfl (fun K hK => ?_)
  go_simp
  refine hK _ _ (fun h => absurd h (by decide)) ?_
  clear hK K
  try simp only [Act.put, List.getElem_toArray, List.getElem_cons_succ, List.getElem_cons_zero, List.setIfInBounds_toArray, List.set_cons_zero, List.set_cons_succ]
  refine wpAnyU_one 9 (by kernel_rfl) rfl (fun K hK => ?_)
  go_simp
  refine hK _ _ (fun h => absurd h (by decide)) ?_
  clear hK K
  try simp only [Act.put, List.getElem_toArray, List.getElem_cons_succ, List.getElem_cons_zero, List.setIfInBounds_toArray, List.set_cons_zero, List.set_cons_succ]
  refine wpAnyU_one 10 (by kernel_rfl) rfl (fun K hK => ?_)
  refine step_setat rfl 36 _ _ rfl t.g 0 rfl 116 _ [.slice A9 (t.ob.items.length + 1) c9] [.slice A9 (t.ob.items.length + 1) c9] (.slice A9 (t.ob.items.length + 1) c9) rfl rfl hm9 sz_Vs' (by simp) (one_one rfl) rfl ?_
  intro w10 hm10
  refine hK _ _ (fun h => absurd h (by decide)) ?_
  clear hK K hT hm9
  try simp only [Act.put, List.getElem_toArray, List.getElem_cons_succ, List.getElem_cons_zero, List.setIfInBounds_toArray, List.set_cons_zero, List.set_cons_succ]
  refine wpAnyU_done (by kernel_rfl) ?_ _
  go_wp2
  go_ret2
  rw [hR.out] at hm10
  have e1 : fV (t.ob.items ++ [(X, Y)]) = fV t.ob.items ++ [.int .i64 X, .int .i64 Y] := by rw [fV_app]; rfl
  have hz := hm10.sub (List.Sublist.cons_cons _ (List.Sublist.cons_cons _ (List.Sublist.append (List.Sublist.refl _) (List.Sublist.append (List.Sublist.refl _) ((List.sublist_cons_self _ _).trans (List.sublist_cons_self _ _))))))
  refine ⟨rfl, hfin.out w10 A9 c9 ?_⟩
  rw [e1]
  exact hz
end Go.Proofs.YtpibchjkmaghnaaGreat
namespace Go.Proofs.YtpibchjkmaghnaaGreat
open Go.RowKit Go.Mm
set_option maxHeartbeats 4000000
set_option maxRecDepth 100000
set_option linter.unusedSimpArgs false
theorem pushNone_ok (w0 w : World) (L : List Chunk) (h : Hp) (hm : Mem w0 w (HpC h :: L)) (hok : Fact h.Ok) (K N X Y : Int) (has : Fact (asK h (K, N) 6 = none)) :
    Calls Tryz.prog 75 #[.pointer (some ⟨h.g, 0, none⟩), .agg #[.int .i64 K, .int .i64 N], .agg #[.int .i64 X, .int .i64 Y]] w fun e w' => e = .returned (.tuple #[.int .i64 1, .bool true]) ∧ Mem w0 w' (HpC h :: L) := by
  go_enter Tryz.func75, Tryz.ntmps75
  go_upto_region 1 with (fail)
  have hm1 := (hm.alloc (.cells [.int .i64 K, .int .i64 N].toArray 35)).alloc (.cells [.int .i64 X, .int .i64 Y].toArray 35)
  simp only [World.size_alloc] at hm1
  generalize hgb : w.heap.size = gb at hm1 ⊢
  generalize hw1 : (w.alloc (.cells [.int .i64 K, .int .i64 N].toArray 35)).alloc (.cells [.int .i64 X, .int .i64 Y].toArray 35) = w1 at hm1
  try refine wp_world hw1 ?_
  clear hw1 hgb
  go_wp2_with (refine wp_rng rfl 35 _ rfl gb 0 rfl (cV (K, N)) (rng_blk hm1 m1) row_V sz_V ?_)
  refine (array_at w0 w1 _ h hm1 m2 hok K N).mono ?_
  rintro e w2 ⟨rfl, hg2⟩
  rw [has.out]
  simp only [trapK]
  have hm2 := hm1.gr hg2
  clear hm1
  go_wp2
  go_ret2
  exact ⟨rfl, hm2.tail.tail⟩
theorem pushFull_ok (w0 w : World) (L : List Chunk) (h : Hp) (hm : Mem w0 w (HpC h :: L)) (hok : Fact h.Ok) (K N X Y : Int) (i : Nat) (hil : i < h.ths.length) (t : Th) (ht : Fact (h.ths.getD i th0 = t)) (hk : Fact (t.ob.kind = 6)) (has : Fact (asK h (K, N) 6 = some ⟨t.g, 0, none⟩)) (hf : 4096 ≤ t.ob.items.length) :
    Calls Tryz.prog 75 #[.pointer (some ⟨h.g, 0, none⟩), .agg #[.int .i64 K, .int .i64 N], .agg #[.int .i64 X, .int .i64 Y]] w fun e w' => e = .returned (.tuple #[.int .i64 8, .bool true]) ∧ Mem w0 w' (HpC h :: L) := by
  have hf' : decide ((t.ob.items.length : Int) ≥ 4096) = true := decide_eq_true (by omega)
  go_enter Tryz.func75, Tryz.ntmps75
  go_upto_region 1 with (fail)
  have hm1 := (hm.alloc (.cells [.int .i64 K, .int .i64 N].toArray 35)).alloc (.cells [.int .i64 X, .int .i64 Y].toArray 35)
  simp only [World.size_alloc] at hm1
  generalize hgb : w.heap.size = gb at hm1 ⊢
  generalize hw1 : (w.alloc (.cells [.int .i64 K, .int .i64 N].toArray 35)).alloc (.cells [.int .i64 X, .int .i64 Y].toArray 35) = w1 at hm1
  try refine wp_world hw1 ?_
  clear hw1 hgb
  go_wp2_with (refine wp_rng rfl 35 _ rfl gb 0 rfl (cV (K, N)) (rng_blk hm1 m1) row_V sz_V ?_)
  refine (array_at w0 w1 _ h hm1 m2 hok K N).mono ?_
  rintro e w2 ⟨rfl, hg2⟩
  rw [has.out]
  simp only [trapK]
  have hm2 := hm1.gr hg2
  clear hm1
  obtain ⟨c0, _, _⟩ := Hp.readA hm2.pull2 i hil t ht.out hk.out
  go_wp2
  go_ret2
  exact ⟨rfl, hm2.tail.tail⟩
theorem pushPoor_ok (w0 w : World) (L : List Chunk) (h : Hp) (hm : Mem w0 w (HpC h :: L)) (hok : Fact h.Ok) (K N X Y : Int) (i : Nat) (hil : i < h.ths.length) (t : Th) (ht : Fact (h.ths.getD i th0 = t)) (hk : Fact (t.ob.kind = 6)) (has : Fact (asK h (K, N) 6 = some ⟨t.g, 0, none⟩)) (hf : t.ob.items.length < 4096) (hr : Fact (h.room 1 = false)) :
    Calls Tryz.prog 75 #[.pointer (some ⟨h.g, 0, none⟩), .agg #[.int .i64 K, .int .i64 N], .agg #[.int .i64 X, .int .i64 Y]] w fun e w' => e = .returned (.tuple #[.int .i64 0, .bool false]) ∧ Mem w0 w' (HpC h :: L) := by
  have hf' : decide ((t.ob.items.length : Int) ≥ 4096) = false := decide_eq_false (by omega)
  go_enter Tryz.func75, Tryz.ntmps75
  go_upto_region 1 with (fail)
  have hm1 := (hm.alloc (.cells [.int .i64 K, .int .i64 N].toArray 35)).alloc (.cells [.int .i64 X, .int .i64 Y].toArray 35)
  simp only [World.size_alloc] at hm1
  generalize hgb : w.heap.size = gb at hm1 ⊢
  generalize hw1 : (w.alloc (.cells [.int .i64 K, .int .i64 N].toArray 35)).alloc (.cells [.int .i64 X, .int .i64 Y].toArray 35) = w1 at hm1
  try refine wp_world hw1 ?_
  clear hw1 hgb
  go_wp2_with (refine wp_rng rfl 35 _ rfl gb 0 rfl (cV (K, N)) (rng_blk hm1 m1) row_V sz_V ?_)
  refine (array_at w0 w1 _ h hm1 m2 hok K N).mono ?_
  rintro e w2 ⟨rfl, hg2⟩
  rw [has.out]
  simp only [trapK]
  have hm2 := hm1.gr hg2
  clear hm1
  obtain ⟨c0, _, _⟩ := Hp.readA hm2.pull2 i hil t ht.out hk.out
  go_wp2_with fail
  have hsp := heapSpend_ok w0 w2 _ h hm2.pull2 hok 1
  rw [show h.spend 1 = h from by unfold Hp.spend; rw [hr.out]; rfl, hr.out] at hsp
  refine hsp.mono ?_
  clear hsp
  rintro e w3 ⟨rfl, hm3⟩
  go_wp2_with fail
  go_ret2
  exact ⟨rfl, hm3.sub (List.Sublist.cons_cons _ ((List.sublist_cons_self _ _).trans (List.sublist_cons_self _ _)))⟩
/-- Push as data: what it answers, what it leaves. -/
def pushT (s : Hs) (v : V2) : Int := match s.obAt v 6 with | none => 1 | some i => if 4096 ≤ (s.objs.getD i ob0).items.length then 8 else 0
def pushB (s : Hs) (v : V2) : Bool := match s.obAt v 6 with | none => true | some i => if 4096 ≤ (s.objs.getD i ob0).items.length then true else s.room 1
def pushS (s : Hs) (v x : V2) : Hs := match s.obAt v 6 with | none => s | some i => if 4096 ≤ (s.objs.getD i ob0).items.length then s else match s.room 1 with | true => (s.spend 1).put i { s.objs.getD i ob0 with items := (s.objs.getD i ob0).items ++ [x] } | false => s
theorem push_any (w0 w : World) (L : List Chunk) (h : Hp) (hm : Mem w0 w (HpC h :: L)) (hok : Fact h.Ok) (K N X Y : Int) :
    Calls Tryz.prog 75 #[.pointer (some ⟨h.g, 0, none⟩), .agg #[.int .i64 K, .int .i64 N], .agg #[.int .i64 X, .int .i64 Y]] w fun e w' => e = .returned (.tuple #[.int .i64 (pushT h.abs (K, N)), .bool (pushB h.abs (K, N))]) ∧ HpQ w0 L h.g (pushS h.abs (K, N) (X, Y)) w' := by
  unfold pushT pushB pushS
  rcases asK_of (h := h) (v := (K, N)) (k := 6) with ⟨has, hob⟩ | ⟨i, hil, _, hk, hob, has⟩
  · rw [hob]
    exact (pushNone_ok w0 w L h hm hok K N X Y ⟨has⟩).mono fun e w' q => ⟨q.1, HpQ.mk h hok.out q.2⟩
  · obtain ⟨t, ht⟩ : ∃ t, h.ths.getD i th0 = t := ⟨_, rfl⟩
    rw [hob]
    simp only [show h.abs.objs = h.objs from rfl, ob_at hil, ht]
    rw [ht] at hk has
    by_cases q0 : 4096 ≤ t.ob.items.length
    · rw [if_pos q0, if_pos q0, if_pos q0]
      exact (pushFull_ok w0 w L h hm hok K N X Y i hil t ⟨ht⟩ ⟨hk⟩ ⟨has⟩ q0).mono fun e w' q => ⟨q.1, HpQ.mk h hok.out q.2⟩
    · rw [if_neg q0, if_neg q0, if_neg q0]
      rw [show h.abs.room 1 = h.room 1 from rfl]
      cases hr : h.room 1 with
      | false => exact (pushPoor_ok w0 w L h hm hok K N X Y i hil t ⟨ht⟩ ⟨hk⟩ ⟨has⟩ (by omega) ⟨hr⟩).mono fun e w' q => ⟨q.1, HpQ.mk h hok.out q.2⟩
      | true => exact pushNew_ok w0 w L h hm hok K N X Y i hil t ⟨ht⟩ ⟨hk⟩ ⟨has⟩ (by omega) ⟨hr⟩
end Go.Proofs.YtpibchjkmaghnaaGreat
namespace Go.Proofs.YtpibchjkmaghnaaGreat
open Go.RowKit Go.Mm
set_option maxHeartbeats 4000000
set_option maxRecDepth 100000
set_option linter.unusedSimpArgs false
theorem sizeNone_ok (w0 w : World) (L : List Chunk) (h : Hp) (hm : Mem w0 w (HpC h :: L)) (hok : Fact h.Ok) (K N : Int) (hA : Fact (asK h (K, N) 6 = none)) (hR : Fact (asK h (K, N) 7 = none)) (hC : Fact (asK h (K, N) 9 = none)) :
    Calls Tryz.prog 76 #[.pointer (some ⟨h.g, 0, none⟩), .agg #[.int .i64 K, .int .i64 N]] w fun e w' => e = .returned (.tuple #[.int .i64 0, .int .i64 1]) ∧ Mem w0 w' (HpC h :: L) := by
  go_enter Tryz.func76, Tryz.ntmps76
  go_upto_region 1 with (fail)
  have hm1 := hm.alloc (.cells [.int .i64 K, .int .i64 N].toArray 35)
  generalize hgb : w.heap.size = gb at hm1 ⊢
  generalize hw1 : w.alloc (.cells [.int .i64 K, .int .i64 N].toArray 35) = w1 at hm1
  try refine wp_world hw1 ?_
  clear hw1 hgb
  go_wp2_with (refine wp_rng rfl 35 _ rfl gb 0 rfl (cV (K, N)) (rng_blk hm1 m0) row_V sz_V ?_)
  refine (named_ok w0 w1 _ h hm1 m1 hok K N).mono ?_
  rintro e w2 ⟨rfl, hg2⟩
  have hm2 := hm1.gr hg2
  have hta := tan_A hok.out (K, N) w2
  have htr := tan_R hok.out (K, N) w2
  have htc := tan_C hok.out (K, N) w2
  rw [hA.out] at hta
  rw [hR.out] at htr
  rw [hC.out] at htc
  simp only [Option.isSome] at hta htr htc
  generalize namedV h (K, N) = nv at hta htr htc ⊢
  clear hm1
  go_wp2
  go_ret2
  exact ⟨rfl, hm2.tail⟩
theorem sizeA_ok (w0 w : World) (L : List Chunk) (h : Hp) (hm : Mem w0 w (HpC h :: L)) (hok : Fact h.Ok) (K N : Int) (i : Nat) (hil : i < h.ths.length) (t : Th) (ht : Fact (h.ths.getD i th0 = t)) (hk : Fact (t.ob.kind = 6)) (hA : Fact (asK h (K, N) 6 = some ⟨t.g, 0, none⟩)) (hR : Fact (asK h (K, N) 7 = none)) (hC : Fact (asK h (K, N) 9 = none)) :
    Calls Tryz.prog 76 #[.pointer (some ⟨h.g, 0, none⟩), .agg #[.int .i64 K, .int .i64 N]] w fun e w' => e = .returned (.tuple #[.int .i64 t.ob.items.length, .int .i64 0]) ∧ Mem w0 w' (HpC h :: L) := by
  go_enter Tryz.func76, Tryz.ntmps76
  go_upto_region 1 with (fail)
  have hm1 := hm.alloc (.cells [.int .i64 K, .int .i64 N].toArray 35)
  generalize hgb : w.heap.size = gb at hm1 ⊢
  generalize hw1 : w.alloc (.cells [.int .i64 K, .int .i64 N].toArray 35) = w1 at hm1
  try refine wp_world hw1 ?_
  clear hw1 hgb
  go_wp2_with (refine wp_rng rfl 35 _ rfl gb 0 rfl (cV (K, N)) (rng_blk hm1 m0) row_V sz_V ?_)
  refine (named_ok w0 w1 _ h hm1 m1 hok K N).mono ?_
  rintro e w2 ⟨rfl, hg2⟩
  have hm2 := hm1.gr hg2
  have hta := tan_A hok.out (K, N) w2
  have htr := tan_R hok.out (K, N) w2
  have htc := tan_C hok.out (K, N) w2
  rw [hA.out] at hta
  rw [hR.out] at htr
  rw [hC.out] at htc
  simp only [Option.isSome] at hta htr htc
  generalize namedV h (K, N) = nv at hta htr htc ⊢
  clear hm1
  obtain ⟨c0, _, _⟩ := Hp.readA hm2.swap i hil t ht.out hk.out
  go_wp2
  go_ret2
  exact ⟨rfl, hm2.tail⟩
theorem sizeR_ok (w0 w : World) (L : List Chunk) (h : Hp) (hm : Mem w0 w (HpC h :: L)) (hok : Fact h.Ok) (K N : Int) (i : Nat) (hil : i < h.ths.length) (t : Th) (ht : Fact (h.ths.getD i th0 = t)) (hk : Fact (t.ob.kind = 7)) (hR : Fact (asK h (K, N) 7 = some ⟨t.g, 0, none⟩)) (hA : Fact (asK h (K, N) 6 = none)) (hC : Fact (asK h (K, N) 9 = none)) :
    Calls Tryz.prog 76 #[.pointer (some ⟨h.g, 0, none⟩), .agg #[.int .i64 K, .int .i64 N]] w fun e w' => e = .returned (.tuple #[.int .i64 t.ob.keys.length, .int .i64 0]) ∧ Mem w0 w' (HpC h :: L) := by
  go_enter Tryz.func76, Tryz.ntmps76
  go_upto_region 1 with (fail)
  have hm1 := hm.alloc (.cells [.int .i64 K, .int .i64 N].toArray 35)
  generalize hgb : w.heap.size = gb at hm1 ⊢
  generalize hw1 : w.alloc (.cells [.int .i64 K, .int .i64 N].toArray 35) = w1 at hm1
  try refine wp_world hw1 ?_
  clear hw1 hgb
  go_wp2_with (refine wp_rng rfl 35 _ rfl gb 0 rfl (cV (K, N)) (rng_blk hm1 m0) row_V sz_V ?_)
  refine (named_ok w0 w1 _ h hm1 m1 hok K N).mono ?_
  rintro e w2 ⟨rfl, hg2⟩
  have hm2 := hm1.gr hg2
  have hta := tan_A hok.out (K, N) w2
  have htr := tan_R hok.out (K, N) w2
  have htc := tan_C hok.out (K, N) w2
  rw [hA.out] at hta
  rw [hR.out] at htr
  rw [hC.out] at htc
  simp only [Option.isSome] at hta htr htc
  generalize namedV h (K, N) = nv at hta htr htc ⊢
  clear hm1
  obtain ⟨c0, _, _⟩ := Hp.readR hm2.swap i hil t ht.out hk.out
  go_wp2
  go_ret2
  exact ⟨rfl, hm2.tail⟩
def sizeN (s : Hs) (v : V2) : Int := match nm s.objs v with | none => 0 | some i => if (s.objs.getD i ob0).kind = 8 then 0 else (s.objs.getD i ob0).items.length
def sizeT (s : Hs) (v : V2) : Int := match nm s.objs v with | none => 1 | some i => if (s.objs.getD i ob0).kind = 8 then 1 else 0
theorem size_any (w0 w : World) (L : List Chunk) (h : Hp) (hm : Mem w0 w (HpC h :: L)) (hok : Fact h.Ok) (K N : Int) :
    Calls Tryz.prog 76 #[.pointer (some ⟨h.g, 0, none⟩), .agg #[.int .i64 K, .int .i64 N]] w fun e w' => e = .returned (.tuple #[.int .i64 (sizeN h.abs (K, N)), .int .i64 (sizeT h.abs (K, N))]) ∧ Mem w0 w' (HpC h :: L) := by
  have hk : ∀ k, asK h (K, N) k = match nm h.objs (K, N) with | some i => if (h.ths.getD i th0).ob.kind = k then some ⟨(h.ths.getD i th0).g, 0, none⟩ else none | none => none := fun k => rfl
  unfold sizeN sizeT
  rw [show h.abs.objs = h.objs from rfl]
  cases hn : nm h.objs (K, N) with
  | none =>
    simp only [hn] at hk
    exact sizeNone_ok w0 w L h hm hok K N ⟨hk 6⟩ ⟨hk 7⟩ ⟨hk 9⟩
  | some i =>
    have hil := (nm_in hn).1
    simp only [hn] at hk
    simp only [ob_at hil]
    obtain ⟨t, ht⟩ : ∃ t, h.ths.getD i th0 = t := ⟨_, rfl⟩
    have htk := th_ok hok.out hil
    rw [ht] at htk ⊢
    simp only [ht] at hk
    rcases htk.kind with q | q | q | q
    · rw [if_neg (by omega), if_neg (by omega)]
      exact sizeA_ok w0 w L h hm hok K N i hil t ⟨ht⟩ ⟨q⟩ ⟨by rw [hk 6, if_pos q]⟩ ⟨by rw [hk 7, if_neg (by omega)]⟩ ⟨by rw [hk 9, if_neg (by omega)]⟩
    · rw [if_neg (by omega), if_neg (by omega), ← htk.keys q]
      exact sizeR_ok w0 w L h hm hok K N i hil t ⟨ht⟩ ⟨q⟩ ⟨by rw [hk 7, if_pos q]⟩ ⟨by rw [hk 6, if_neg (by omega)]⟩ ⟨by rw [hk 9, if_neg (by omega)]⟩
    · rw [if_pos q, if_pos q]
      exact sizeNone_ok w0 w L h hm hok K N ⟨by rw [hk 6, if_neg (by omega)]⟩ ⟨by rw [hk 7, if_neg (by omega)]⟩ ⟨by rw [hk 9, if_neg (by omega)]⟩
    · rw [if_neg (by omega), if_neg (by omega)]
      exact sizeC_ok w0 w L h hm hok K N i hn t ⟨ht⟩ ⟨q⟩
end Go.Proofs.YtpibchjkmaghnaaGreat
namespace Go.Proofs.YtpibchjkmaghnaaGreat
open Go.RowKit Go.Mm
set_option maxHeartbeats 4000000
set_option maxRecDepth 100000
set_option linter.unusedSimpArgs false
theorem askP_get (w0 w : World) (L : List Chunk) (h : Hp) (hm : Mem w0 w (HpC h :: L)) (hok : Fact h.Ok) (o : HOp) :
    Calls Tryz.prog 38 #[.pointer (some ⟨h.g, 0, none⟩), .int .i64 7, .agg (cHO o).toArray] w fun e w' => ∃ v, e = .returned v ∧ AskQ w0 L h.g (h.abs) (sdV (getV h.abs o.v o.I) 0 (getT h.abs o.v o.I) false) v w' := by
  go_enter Tryz.func38, Tryz.ntmps38
  go_upto_region 2 with (fail)
  have hm1 := ((hm.alloc (.cells (cHO o).toArray 38)).alloc (.cells (sC 0 0 0 0 false 0 none 0 0 none 0 0 0 0 false none 0 0).toArray 43)).alloc (.cells (sC 0 0 0 0 false 0 none 0 0 none 0 0 0 0 false none 0 0).toArray 43)
  simp only [World.size_alloc] at hm1
  generalize hgb : w.heap.size = g at hm1 ⊢
  generalize hw1 : ((w.alloc (.cells (cHO o).toArray 38)).alloc (.cells (sC 0 0 0 0 false 0 none 0 0 none 0 0 0 0 false none 0 0).toArray 43)).alloc (.cells (sC 0 0 0 0 false 0 none 0 0 none 0 0 0 0 false none 0 0).toArray 43) = w1 at hm1
  try refine wp_world hw1 ?_
  clear hw1 hgb
  replace hm1 := hm1.pull3
  have x2 := hm1.cell m3 2 rfl
  have x3 := hm1.cell m3 3 rfl
  have x6 := hm1.cell m3 6 rfl
  go_wp2_with (first | (refine wp_rng rfl 35 _ rfl g 2 rfl (cV o.v) (rng2 x2 x3) row_V sz_V ?_))
  refine (get_ok w0 w1 (Blk (g + 1 + 1) (.cells (sC 0 0 0 0 false 0 none 0 0 none 0 0 0 0 false none 0 0).toArray 43) :: Blk (g + 1) (.cells (sC 0 0 0 0 false 0 none 0 0 none 0 0 0 0 false none 0 0).toArray 43) :: Blk g (.cells (cHO o).toArray 38) :: L) h hm1 hok o.v.1 o.v.2 o.I).mono ?_
  rintro e w2 ⟨rfl, hm2⟩
  rw [show ((o.v.1, o.v.2) : V2) = o.v from rfl]
  obtain ⟨gv, hgv⟩ : ∃ z, z = getV h.abs o.v o.I := ⟨_, rfl⟩
  rw [← hgv]
  replace hgv := Fact.mk hgv
  obtain ⟨gt, hgt⟩ : ∃ z, z = getT h.abs o.v o.I := ⟨_, rfl⟩
  rw [← hgt]
  replace hgt := Fact.mk hgt
  go_wp2_with (first | (refine wp_setat rfl 35 _ _ rfl (g + 1 + 1) 0 rfl 43 _ [.int .i64 gv.1, .int .i64 gv.2] (sC gv.1 gv.2 0 0 false 0 none 0 0 none 0 0 0 0 false none 0 0) (.agg #[.int .i64 gv.1, .int .i64 gv.2]) rfl rfl hm2.swap sz_V (by simp [sC, obC]) (cV_one gv) rfl ?_; intro w3 hs3) | (refine wp_setat rfl 3 _ _ rfl (g + 1 + 1) 3 rfl 43 _ [.int .i64 gt] (sC gv.1 gv.2 0 gt false 0 none 0 0 none 0 0 0 0 false none 0 0) (.int .i64 gt) rfl rfl hs3 sz_int (by simp [sC, obC]) (one_one rfl) rfl ?_; intro w4 hs4) | (refine wp_rng rfl 43 _ rfl (g + 1 + 1) 0 rfl (sC gv.1 gv.2 0 gt false 0 none 0 0 none 0 0 0 0 false none 0 0) (rng_blk hs4 m0) row_S sz_S ?_) | (refine wp_setrow rfl 43 _ _ rfl (g + 1) rfl 43 _ (sC gv.1 gv.2 0 gt false 0 none 0 0 none 0 0 0 0 false none 0 0) rfl hs4.pull2 sz_S rfl (sC_one _ _ _ _ _ _ _ _ _ _ _ _ _ _ _ _ _ _) ?_; intro w5 hs5))
  have hz := hs5.tail.tail.drop2
  refine bodyPost_ret (Mm.res_cell rfl _ (g + 1) 43 (sC gv.1 gv.2 0 gt false 0 none 0 0 none 0 0 0 0 false none 0 0) (0, 0) rfl hs5 m0 row_S sz_S) rfl ?_
  rw [← hgv.out]
  rw [← hgt.out]
  exact ⟨_, rfl, h, rfl, rfl, hok.out, SdQ.plain gv.1 gv.2 0 gt false hz⟩
theorem askP_set (w0 w : World) (L : List Chunk) (h : Hp) (hm : Mem w0 w (HpC h :: L)) (hok : Fact h.Ok) (o : HOp) :
    Calls Tryz.prog 38 #[.pointer (some ⟨h.g, 0, none⟩), .int .i64 8, .agg (cHO o).toArray] w fun e w' => ∃ v, e = .returned v ∧ AskQ w0 L h.g (setS h.abs o.v o.I o.x) (sdV (0, 0) 0 (getT h.abs o.v o.I) false) v w' := by
  go_enter Tryz.func38, Tryz.ntmps38
  go_upto_region 2 with (fail)
  have hm1 := ((hm.alloc (.cells (cHO o).toArray 38)).alloc (.cells (sC 0 0 0 0 false 0 none 0 0 none 0 0 0 0 false none 0 0).toArray 43)).alloc (.cells (sC 0 0 0 0 false 0 none 0 0 none 0 0 0 0 false none 0 0).toArray 43)
  simp only [World.size_alloc] at hm1
  generalize hgb : w.heap.size = g at hm1 ⊢
  generalize hw1 : ((w.alloc (.cells (cHO o).toArray 38)).alloc (.cells (sC 0 0 0 0 false 0 none 0 0 none 0 0 0 0 false none 0 0).toArray 43)).alloc (.cells (sC 0 0 0 0 false 0 none 0 0 none 0 0 0 0 false none 0 0).toArray 43) = w1 at hm1
  try refine wp_world hw1 ?_
  clear hw1 hgb
  replace hm1 := hm1.pull3
  have x2 := hm1.cell m3 2 rfl
  have x3 := hm1.cell m3 3 rfl
  have x6 := hm1.cell m3 6 rfl
  have x4 := hm1.cell m3 4 rfl
  have x5 := hm1.cell m3 5 rfl
  go_wp2_with (first | (refine wp_rng rfl 35 _ rfl g 2 rfl (cV o.v) (rng2 x2 x3) row_V sz_V ?_) | (refine wp_rng rfl 35 _ rfl g 4 rfl (cV o.x) (rng2 x4 x5) row_V sz_V ?_))
  refine (set_ok w0 w1 (Blk (g + 1 + 1) (.cells (sC 0 0 0 0 false 0 none 0 0 none 0 0 0 0 false none 0 0).toArray 43) :: Blk (g + 1) (.cells (sC 0 0 0 0 false 0 none 0 0 none 0 0 0 0 false none 0 0).toArray 43) :: Blk g (.cells (cHO o).toArray 38) :: L) h hm1 hok o.v.1 o.v.2 o.I o.x.1 o.x.2).mono ?_
  rintro e w2 ⟨rfl, h', hg', ha', hok', hm2⟩
  rw [show ((o.v.1, o.v.2) : V2) = o.v from rfl]
  obtain ⟨gt, hgt⟩ : ∃ z, z = getT h.abs o.v o.I := ⟨_, rfl⟩
  rw [← hgt]
  replace hgt := Fact.mk hgt
  go_wp2_with (first | (refine wp_setat rfl 3 _ _ rfl (g + 1 + 1) 3 rfl 43 _ [.int .i64 gt] (sC 0 0 0 gt false 0 none 0 0 none 0 0 0 0 false none 0 0) (.int .i64 gt) rfl rfl hm2.swap sz_int (by simp [sC, obC]) (one_one rfl) rfl ?_; intro w3 hs3) | (refine wp_rng rfl 43 _ rfl (g + 1 + 1) 0 rfl (sC 0 0 0 gt false 0 none 0 0 none 0 0 0 0 false none 0 0) (rng_blk hs3 m0) row_S sz_S ?_) | (refine wp_setrow rfl 43 _ _ rfl (g + 1) rfl 43 _ (sC 0 0 0 gt false 0 none 0 0 none 0 0 0 0 false none 0 0) rfl hs3.pull2 sz_S rfl (sC_one _ _ _ _ _ _ _ _ _ _ _ _ _ _ _ _ _ _) ?_; intro w4 hs4))
  have hz := hs4.tail.tail.drop2
  refine bodyPost_ret (Mm.res_cell rfl _ (g + 1) 43 (sC 0 0 0 gt false 0 none 0 0 none 0 0 0 0 false none 0 0) (0, 0) rfl hs4 m0 row_S sz_S) rfl ?_
  rw [← hgt.out]
  exact ⟨_, rfl, h', hg', ha', hok', SdQ.plain 0 0 0 gt false hz⟩
theorem askP_push (w0 w : World) (L : List Chunk) (h : Hp) (hm : Mem w0 w (HpC h :: L)) (hok : Fact h.Ok) (o : HOp) :
    Calls Tryz.prog 38 #[.pointer (some ⟨h.g, 0, none⟩), .int .i64 9, .agg (cHO o).toArray] w fun e w' => ∃ v, e = .returned v ∧ AskQ w0 L h.g (pushS h.abs o.v o.x) (sdV (0, 0) 0 (pushT h.abs o.v) (pushB h.abs o.v)) v w' := by
  go_enter Tryz.func38, Tryz.ntmps38
  go_upto_region 2 with (fail)
  have hm1 := ((hm.alloc (.cells (cHO o).toArray 38)).alloc (.cells (sC 0 0 0 0 false 0 none 0 0 none 0 0 0 0 false none 0 0).toArray 43)).alloc (.cells (sC 0 0 0 0 false 0 none 0 0 none 0 0 0 0 false none 0 0).toArray 43)
  simp only [World.size_alloc] at hm1
  generalize hgb : w.heap.size = g at hm1 ⊢
  generalize hw1 : ((w.alloc (.cells (cHO o).toArray 38)).alloc (.cells (sC 0 0 0 0 false 0 none 0 0 none 0 0 0 0 false none 0 0).toArray 43)).alloc (.cells (sC 0 0 0 0 false 0 none 0 0 none 0 0 0 0 false none 0 0).toArray 43) = w1 at hm1
  try refine wp_world hw1 ?_
  clear hw1 hgb
  replace hm1 := hm1.pull3
  have x2 := hm1.cell m3 2 rfl
  have x3 := hm1.cell m3 3 rfl
  have x4 := hm1.cell m3 4 rfl
  have x5 := hm1.cell m3 5 rfl
  go_wp2_with (first | (refine wp_rng rfl 35 _ rfl g 2 rfl (cV o.v) (rng2 x2 x3) row_V sz_V ?_) | (refine wp_rng rfl 35 _ rfl g 4 rfl (cV o.x) (rng2 x4 x5) row_V sz_V ?_))
  refine (push_any w0 w1 (Blk (g + 1 + 1) (.cells (sC 0 0 0 0 false 0 none 0 0 none 0 0 0 0 false none 0 0).toArray 43) :: Blk (g + 1) (.cells (sC 0 0 0 0 false 0 none 0 0 none 0 0 0 0 false none 0 0).toArray 43) :: Blk g (.cells (cHO o).toArray 38) :: L) h hm1 hok o.v.1 o.v.2 o.x.1 o.x.2).mono ?_
  rintro e w2 ⟨rfl, h', hg', ha', hok', hm2⟩
  rw [show ((o.v.1, o.v.2) : V2) = o.v from rfl]
  obtain ⟨gt, hgt⟩ : ∃ z, z = pushT h.abs o.v := ⟨_, rfl⟩
  rw [← hgt]
  replace hgt := Fact.mk hgt
  obtain ⟨gb, hgb⟩ : ∃ z, z = pushB h.abs o.v := ⟨_, rfl⟩
  rw [← hgb]
  replace hgb := Fact.mk hgb
  go_wp2_with (first | (refine wp_setat rfl 3 _ _ rfl (g + 1 + 1) 3 rfl 43 _ [.int .i64 gt] (sC 0 0 0 gt false 0 none 0 0 none 0 0 0 0 false none 0 0) (.int .i64 gt) rfl rfl hm2.swap sz_int (by simp [sC, obC]) (one_one rfl) rfl ?_; intro w3 hs3) | (refine wp_setat rfl 4 _ _ rfl (g + 1 + 1) 4 rfl 43 _ [.bool gb] (sC 0 0 0 gt gb 0 none 0 0 none 0 0 0 0 false none 0 0) (.bool gb) rfl rfl hs3 sz_bool (by simp [sC, obC]) (one_one rfl) rfl ?_; intro w4 hs4) | (refine wp_rng rfl 43 _ rfl (g + 1 + 1) 0 rfl (sC 0 0 0 gt gb 0 none 0 0 none 0 0 0 0 false none 0 0) (rng_blk hs4 m0) row_S sz_S ?_) | (refine wp_setrow rfl 43 _ _ rfl (g + 1) rfl 43 _ (sC 0 0 0 gt gb 0 none 0 0 none 0 0 0 0 false none 0 0) rfl hs4.pull2 sz_S rfl (sC_one _ _ _ _ _ _ _ _ _ _ _ _ _ _ _ _ _ _) ?_; intro w5 hs5))
  have hz := hs5.tail.tail.drop2
  refine bodyPost_ret (Mm.res_cell rfl _ (g + 1) 43 (sC 0 0 0 gt gb 0 none 0 0 none 0 0 0 0 false none 0 0) (0, 0) rfl hs5 m0 row_S sz_S) rfl ?_
  rw [← hgt.out]
  rw [← hgb.out]
  exact ⟨_, rfl, h', hg', ha', hok', SdQ.plain 0 0 0 gt gb hz⟩
theorem askP_size (w0 w : World) (L : List Chunk) (h : Hp) (hm : Mem w0 w (HpC h :: L)) (hok : Fact h.Ok) (o : HOp) :
    Calls Tryz.prog 38 #[.pointer (some ⟨h.g, 0, none⟩), .int .i64 10, .agg (cHO o).toArray] w fun e w' => ∃ v, e = .returned v ∧ AskQ w0 L h.g (h.abs) (sdV (0, 0) (sizeN h.abs o.v) (sizeT h.abs o.v) false) v w' := by
  go_enter Tryz.func38, Tryz.ntmps38
  go_upto_region 2 with (fail)
  have hm1 := ((hm.alloc (.cells (cHO o).toArray 38)).alloc (.cells (sC 0 0 0 0 false 0 none 0 0 none 0 0 0 0 false none 0 0).toArray 43)).alloc (.cells (sC 0 0 0 0 false 0 none 0 0 none 0 0 0 0 false none 0 0).toArray 43)
  simp only [World.size_alloc] at hm1
  generalize hgb : w.heap.size = g at hm1 ⊢
  generalize hw1 : ((w.alloc (.cells (cHO o).toArray 38)).alloc (.cells (sC 0 0 0 0 false 0 none 0 0 none 0 0 0 0 false none 0 0).toArray 43)).alloc (.cells (sC 0 0 0 0 false 0 none 0 0 none 0 0 0 0 false none 0 0).toArray 43) = w1 at hm1
  try refine wp_world hw1 ?_
  clear hw1 hgb
  replace hm1 := hm1.pull3
  have x2 := hm1.cell m3 2 rfl
  have x3 := hm1.cell m3 3 rfl
  go_wp2_with (first | (refine wp_rng rfl 35 _ rfl g 2 rfl (cV o.v) (rng2 x2 x3) row_V sz_V ?_))
  refine (size_any w0 w1 (Blk (g + 1 + 1) (.cells (sC 0 0 0 0 false 0 none 0 0 none 0 0 0 0 false none 0 0).toArray 43) :: Blk (g + 1) (.cells (sC 0 0 0 0 false 0 none 0 0 none 0 0 0 0 false none 0 0).toArray 43) :: Blk g (.cells (cHO o).toArray 38) :: L) h hm1 hok o.v.1 o.v.2).mono ?_
  rintro e w2 ⟨rfl, hm2⟩
  rw [show ((o.v.1, o.v.2) : V2) = o.v from rfl]
  obtain ⟨gn, hgn⟩ : ∃ z, z = sizeN h.abs o.v := ⟨_, rfl⟩
  rw [← hgn]
  replace hgn := Fact.mk hgn
  obtain ⟨gt, hgt⟩ : ∃ z, z = sizeT h.abs o.v := ⟨_, rfl⟩
  rw [← hgt]
  replace hgt := Fact.mk hgt
  go_wp2_with (first | (refine wp_setat rfl 2 _ _ rfl (g + 1 + 1) 2 rfl 43 _ [.int .i64 gn] (sC 0 0 gn 0 false 0 none 0 0 none 0 0 0 0 false none 0 0) (.int .i64 gn) rfl rfl hm2.swap sz_i64 (by simp [sC, obC]) (one_one rfl) rfl ?_; intro w3 hs3) | (refine wp_setat rfl 3 _ _ rfl (g + 1 + 1) 3 rfl 43 _ [.int .i64 gt] (sC 0 0 gn gt false 0 none 0 0 none 0 0 0 0 false none 0 0) (.int .i64 gt) rfl rfl hs3 sz_int (by simp [sC, obC]) (one_one rfl) rfl ?_; intro w4 hs4) | (refine wp_rng rfl 43 _ rfl (g + 1 + 1) 0 rfl (sC 0 0 gn gt false 0 none 0 0 none 0 0 0 0 false none 0 0) (rng_blk hs4 m0) row_S sz_S ?_) | (refine wp_setrow rfl 43 _ _ rfl (g + 1) rfl 43 _ (sC 0 0 gn gt false 0 none 0 0 none 0 0 0 0 false none 0 0) rfl hs4.pull2 sz_S rfl (sC_one _ _ _ _ _ _ _ _ _ _ _ _ _ _ _ _ _ _) ?_; intro w5 hs5))
  have hz := hs5.tail.tail.drop2
  refine bodyPost_ret (Mm.res_cell rfl _ (g + 1) 43 (sC 0 0 gn gt false 0 none 0 0 none 0 0 0 0 false none 0 0) (0, 0) rfl hs5 m0 row_S sz_S) rfl ?_
  rw [← hgn.out]
  rw [← hgt.out]
  exact ⟨_, rfl, h, rfl, rfl, hok.out, SdQ.plain 0 0 gn gt false hz⟩
end Go.Proofs.YtpibchjkmaghnaaGreat
namespace Go.Proofs.YtpibchjkmaghnaaGreat
open Go.RowKit Go.Mm
set_option maxHeartbeats 4000000
set_option maxRecDepth 100000
set_option linter.unusedSimpArgs false
theorem sendNone_ok (w0 w : World) (L : List Chunk) (h : Hp) (hm : Mem w0 w (HpC h :: L)) (hok : Fact h.Ok) (K N : Int) (X Y : Int) (has : Fact (asK h (K, N) 9 = none)) :
    Calls Tryz.prog 91 #[.pointer (some ⟨h.g, 0, none⟩), .agg #[.int .i64 K, .int .i64 N], .agg #[.int .i64 X, .int .i64 Y]] w fun e w' => e = .returned (.tuple #[.bool false, .int .i64 1]) ∧ Mem w0 w' (HpC h :: L) := by
  go_enter Tryz.func91, Tryz.ntmps91
  go_upto_region 1 with (fail)
  have hm1 := (hm.alloc (.cells [.int .i64 K, .int .i64 N].toArray 35)).alloc (.cells [.int .i64 X, .int .i64 Y].toArray 35)
  simp only [World.size_alloc] at hm1
  generalize hgb : w.heap.size = gb at hm1 ⊢
  generalize hw1 : (w.alloc (.cells [.int .i64 K, .int .i64 N].toArray 35)).alloc (.cells [.int .i64 X, .int .i64 Y].toArray 35) = w1 at hm1
  try refine wp_world hw1 ?_
  clear hw1 hgb
  go_wp2_with (refine wp_rng rfl 35 _ rfl gb 0 rfl (cV (K, N)) (rng_blk hm1 m1) row_V sz_V ?_)
  refine (channel_ok w0 w1 _ h hm1 m2 hok K N).mono ?_
  rintro e w2 ⟨rfl, hg2⟩
  rw [has.out]
  simp only [trapK]
  have hm2 := hm1.gr hg2
  clear hm1
  go_wp2
  go_ret2
  exact ⟨rfl, hm2.tail.tail⟩
theorem shutNone_ok (w0 w : World) (L : List Chunk) (h : Hp) (hm : Mem w0 w (HpC h :: L)) (hok : Fact h.Ok) (K N : Int) (has : Fact (asK h (K, N) 9 = none)) :
    Calls Tryz.prog 93 #[.pointer (some ⟨h.g, 0, none⟩), .agg #[.int .i64 K, .int .i64 N]] w fun e w' => e = .returned (.int .i64 1) ∧ Mem w0 w' (HpC h :: L) := by
  go_enter Tryz.func93, Tryz.ntmps93
  go_upto_region 1 with (fail)
  have hm1 := hm.alloc (.cells [.int .i64 K, .int .i64 N].toArray 35)
  generalize hgb : w.heap.size = gb at hm1 ⊢
  generalize hw1 : w.alloc (.cells [.int .i64 K, .int .i64 N].toArray 35) = w1 at hm1
  try refine wp_world hw1 ?_
  clear hw1 hgb
  go_wp2_with (refine wp_rng rfl 35 _ rfl gb 0 rfl (cV (K, N)) (rng_blk hm1 m0) row_V sz_V ?_)
  refine (channel_ok w0 w1 _ h hm1 m1 hok K N).mono ?_
  rintro e w2 ⟨rfl, hg2⟩
  rw [has.out]
  simp only [trapK]
  have hm2 := hm1.gr hg2
  clear hm1
  go_wp2
  go_ret
  exact ⟨rfl, hm2.tail⟩
theorem recvNone_ok (w0 w : World) (L : List Chunk) (h : Hp) (hm : Mem w0 w (HpC h :: L)) (hok : Fact h.Ok) (K N : Int) (has : Fact (asK h (K, N) 9 = none)) :
    Calls Tryz.prog 92 #[.pointer (some ⟨h.g, 0, none⟩), .agg #[.int .i64 K, .int .i64 N]] w fun e w' => e = .returned (.tuple #[.agg #[.int .i64 0, .int .i64 0], .bool false, .int .i64 1]) ∧ Mem w0 w' (HpC h :: L) := by
  go_enter Tryz.func92, Tryz.ntmps92
  go_upto_region 1 with (fail)
  have hm1 := (hm.alloc (.cells [.int .i64 K, .int .i64 N].toArray 35)).alloc (.cells [.int .i64 0, .int .i64 0].toArray 35)
  simp only [World.size_alloc] at hm1
  generalize hgb : w.heap.size = gb at hm1 ⊢
  generalize hw1 : (w.alloc (.cells [.int .i64 K, .int .i64 N].toArray 35)).alloc (.cells [.int .i64 0, .int .i64 0].toArray 35) = w1 at hm1
  try refine wp_world hw1 ?_
  clear hw1 hgb
  go_wp2_with (refine wp_rng rfl 35 _ rfl gb 0 rfl (cV (K, N)) (rng_blk hm1 m1) row_V sz_V ?_)
  refine (channel_ok w0 w1 _ h hm1 m2 hok K N).mono ?_
  rintro e w2 ⟨rfl, hg2⟩
  rw [has.out]
  simp only [trapK]
  have hm2 := hm1.gr hg2
  clear hm1
  go_wp2_with (refine wp_setrow rfl 35 _ _ rfl (gb + 1) rfl 35 _ [.int .i64 0, .int .i64 0] rfl hm2 sz_V rfl (cV_one (0, 0)) ?_; intro w3 hm3)
  exact bodyPost_ret (Mm.res_cell_tmp2 rfl _ (gb + 1) 35 [.int .i64 0, .int .i64 0] (0, 0) rfl hm3 m0 row_V sz_V) rfl ⟨rfl, hm3.tail.tail⟩
end Go.Proofs.YtpibchjkmaghnaaGreat
namespace Go.Proofs.YtpibchjkmaghnaaGreat
open Go.RowKit Go.Mm
set_option maxHeartbeats 4000000
set_option maxRecDepth 100000
set_option linter.unusedSimpArgs false
/-- Channels have room for few. -/
def Ob.few (o : Ob) : Prop := (o.kind = 9 → o.cap ≤ 64) ∧ (o.kind = 7 → o.keys.length ≤ 256)
def Hs.Few (s : Hs) : Prop := ∀ o, o ∈ s.objs → o.few
def sendT (s : Hs) (v : V2) : Int := match s.obAt v 9 with | none => 1 | some i => if (s.objs.getD i ob0).shut then 7 else 0
def sendB (s : Hs) (v : V2) : Bool := match s.obAt v 9 with | none => false | some i => if (s.objs.getD i ob0).shut then false else decide (((s.objs.getD i ob0).items.length : Int) < (s.objs.getD i ob0).cap)
def sendS (s : Hs) (v x : V2) : Hs := match s.obAt v 9 with | none => s | some i => s.put i { s.objs.getD i ob0 with items := sendO (s.objs.getD i ob0) x }
def recvV (s : Hs) (v : V2) : V2 := match s.obAt v 9 with | none => (0, 0) | some i => (s.objs.getD i ob0).items.getD 0 (0, 0)
def recvB (s : Hs) (v : V2) : Bool := match s.obAt v 9 with | none => false | some i => if (s.objs.getD i ob0).items = [] then (s.objs.getD i ob0).shut else true
def recvT (s : Hs) (v : V2) : Int := match s.obAt v 9 with | none => 1 | some _ => 0
def recvS (s : Hs) (v : V2) : Hs := match s.obAt v 9 with | none => s | some i => s.put i { s.objs.getD i ob0 with items := (s.objs.getD i ob0).items.tail }
def shutT (s : Hs) (v : V2) : Int := match s.obAt v 9 with | none => 1 | some i => shutR (s.objs.getD i ob0)
def shutS (s : Hs) (v : V2) : Hs := match s.obAt v 9 with | none => s | some i => s.put i { s.objs.getD i ob0 with shut := true }
theorem sendR_eq (o : Ob) : sendR o = .tuple #[.bool (if o.shut then false else decide ((o.items.length : Int) < o.cap)), .int .i64 (if o.shut then 7 else 0)] := by
  unfold sendR
  cases o.shut with
  | true => rfl
  | false =>
    by_cases q : (o.items.length : Int) < o.cap
    · simp [q]
    · simp [q]
theorem recvR_eq (o : Ob) : recvR o = .tuple #[.agg #[.int .i64 (o.items.getD 0 (0, 0)).1, .int .i64 (o.items.getD 0 (0, 0)).2], .bool (if o.items = [] then o.shut else true), .int .i64 0] := by
  unfold recvR
  cases o.items with
  | nil => rfl
  | cons x l => rfl
theorem sendO_len (o : Ob) (x : V2) (hl : o.items.length ≤ 1048576) (hc : o.cap ≤ 64) : (sendO o x).length ≤ 1048576 := by
  unfold sendO
  split
  · exact hl
  · split
    · rw [List.length_append]; simp only [List.length_cons, List.length_nil]; omega
    · exact hl
theorem send_any (w0 w : World) (L : List Chunk) (h : Hp) (hm : Mem w0 w (HpC h :: L)) (hok : Fact h.Ok) (hf : h.abs.Few) (K N X Y : Int) :
    Calls Tryz.prog 91 #[.pointer (some ⟨h.g, 0, none⟩), .agg #[.int .i64 K, .int .i64 N], .agg #[.int .i64 X, .int .i64 Y]] w fun e w' => e = .returned (.tuple #[.bool (sendB h.abs (K, N)), .int .i64 (sendT h.abs (K, N))]) ∧ HpQ w0 L h.g (sendS h.abs (K, N) (X, Y)) w' := by
  unfold sendB sendT sendS
  rcases asK_of (h := h) (v := (K, N)) (k := 9) with ⟨has, hob⟩ | ⟨i, hil, hn, hk, hob, has⟩
  · rw [hob]
    exact (sendNone_ok w0 w L h hm hok K N X Y ⟨has⟩).mono fun e w' q => ⟨q.1, HpQ.mk h hok.out q.2⟩
  · obtain ⟨t, ht⟩ : ∃ t, h.ths.getD i th0 = t := ⟨_, rfl⟩
    rw [hob]
    simp only [show h.abs.objs = h.objs from rfl, ob_at hil, ht]
    have htk := th_ok hok.out hil
    rw [ht] at hk htk
    have hcap : t.ob.cap ≤ 64 := (hf t.ob (by rw [← ht, ← ob_at hil]; show h.objs.getD i ob0 ∈ h.objs; rw [List.getD_eq_getElem?_getD, List.getElem?_eq_getElem (by rw [h.abs_len]; exact hil)]; exact List.getElem_mem _)).1 hk
    refine (send_ok w0 w L h hm hok K N X Y i hn t ⟨ht⟩ ⟨hk⟩ htk.size).mono ?_
    rintro e w' ⟨rfl, A, n, c, hm'⟩
    exact ⟨by rw [sendR_eq], h.upd i (t.queue A n c (sendO t.ob (X, Y)) t.ob.shut), rfl, by rw [Hp.upd_abs]; rfl, upd_ok hok.out i _ (queue_ok htk hk A n c _ _ (sendO_len _ _ htk.size hcap)), hm'⟩
theorem recv_any (w0 w : World) (L : List Chunk) (h : Hp) (hm : Mem w0 w (HpC h :: L)) (hok : Fact h.Ok) (K N : Int) :
    Calls Tryz.prog 92 #[.pointer (some ⟨h.g, 0, none⟩), .agg #[.int .i64 K, .int .i64 N]] w fun e w' => e = .returned (.tuple #[.agg #[.int .i64 (recvV h.abs (K, N)).1, .int .i64 (recvV h.abs (K, N)).2], .bool (recvB h.abs (K, N)), .int .i64 (recvT h.abs (K, N))]) ∧ HpQ w0 L h.g (recvS h.abs (K, N)) w' := by
  unfold recvV recvB recvT recvS
  rcases asK_of (h := h) (v := (K, N)) (k := 9) with ⟨has, hob⟩ | ⟨i, hil, hn, hk, hob, has⟩
  · rw [hob]
    exact (recvNone_ok w0 w L h hm hok K N ⟨has⟩).mono fun e w' q => ⟨q.1, HpQ.mk h hok.out q.2⟩
  · obtain ⟨t, ht⟩ : ∃ t, h.ths.getD i th0 = t := ⟨_, rfl⟩
    rw [hob]
    simp only [show h.abs.objs = h.objs from rfl, ob_at hil, ht]
    have htk := th_ok hok.out hil
    rw [ht] at hk htk
    refine (recv_ok w0 w L h hm hok K N i hn t ⟨ht⟩ ⟨hk⟩ htk.size).mono ?_
    rintro e w' ⟨rfl, A, n, c, hm'⟩
    refine ⟨by rw [recvR_eq], h.upd i (t.queue A n c t.ob.items.tail t.ob.shut), rfl, by rw [Hp.upd_abs]; rfl, upd_ok hok.out i _ (queue_ok htk hk A n c _ _ ?_), hm'⟩
    have := htk.size
    rw [List.length_tail]; omega
theorem shut_any (w0 w : World) (L : List Chunk) (h : Hp) (hm : Mem w0 w (HpC h :: L)) (hok : Fact h.Ok) (K N : Int) :
    Calls Tryz.prog 93 #[.pointer (some ⟨h.g, 0, none⟩), .agg #[.int .i64 K, .int .i64 N]] w fun e w' => e = .returned (.int .i64 (shutT h.abs (K, N))) ∧ HpQ w0 L h.g (shutS h.abs (K, N)) w' := by
  unfold shutT shutS
  rcases asK_of (h := h) (v := (K, N)) (k := 9) with ⟨has, hob⟩ | ⟨i, hil, hn, hk, hob, has⟩
  · rw [hob]
    exact (shutNone_ok w0 w L h hm hok K N ⟨has⟩).mono fun e w' q => ⟨q.1, HpQ.mk h hok.out q.2⟩
  · obtain ⟨t, ht⟩ : ∃ t, h.ths.getD i th0 = t := ⟨_, rfl⟩
    rw [hob]
    simp only [show h.abs.objs = h.objs from rfl, ob_at hil, ht]
    have htk := th_ok hok.out hil
    rw [ht] at hk htk
    refine (shut_ok w0 w L h hm hok K N i hn t ⟨ht⟩ ⟨hk⟩).mono ?_
    rintro e w' ⟨rfl, hm'⟩
    exact ⟨rfl, h.upd i (t.queue t.A t.n t.c t.ob.items true), rfl, by rw [Hp.upd_abs]; rfl, upd_ok hok.out i _ (queue_ok htk hk _ _ _ _ _ htk.size), hm'⟩
end Go.Proofs.YtpibchjkmaghnaaGreat
namespace Go.Proofs.YtpibchjkmaghnaaGreat
open Go.RowKit Go.Mm
set_option maxHeartbeats 4000000
set_option maxRecDepth 100000
set_option linter.unusedSimpArgs false
/-- What holds of every object. -/
structure Ob.Good (o : Ob) : Prop where
  kind : o.kind = 6 ∨ o.kind = 7 ∨ o.kind = 8 ∨ o.kind = 9
  size : o.items.length ≤ 1048576
  keys : o.kind = 7 → o.keys.length = o.items.length
  nokeys : o.kind ≠ 7 → o.keys = []
  nodup : o.keys.Nodup
  wf : ∀ k, k ∈ o.keys → (Lit.int .i64 k).wf = true
  fn : o.kind ≠ 8 → o.fn = 0
  cap : o.kind ≠ 9 → o.cap = 0 ∧ o.shut = false
  few : o.few
def Hs.Good (s : Hs) : Prop := ∀ o, o ∈ s.objs → o.Good
theorem Hp.Ok.good {h : Hp} (hok : h.Ok) (hf : h.abs.Few) : h.abs.Good := fun o ho => by
  have ho' := ho
  simp only [Hp.abs, Hp.objs, List.mem_map] at ho'
  obtain ⟨t, ht, rfl⟩ := ho'
  have := hok.each t ht
  exact ⟨this.kind, this.size, this.keys, this.nokeys, this.nodup, this.wf, this.fn, this.cap, hf _ ho⟩
/-- Calls that are alike on both heaps: what they leave, what they answer. -/
structure PlayG (w0 : World) (ks : List Nat) (S : Nat → Hs → HOp → Hs) (R : Nat → Hs → HOp → Sd) : Prop where
  told : ∀ c, c ∈ ks → ∀ (r : Rf) (w : World) (L : List Chunk) (o : HOp), Mem w0 w (RfC r :: L) → r.Ok → r.abs.Good → RdC w0 2 (.slice o.A o.n o.c) (fV o.items) → o.n ≤ 1048576 → (Lit.int .i64 o.I).wf = true → r.xs.length < 8388608 →
    Calls Tryz.prog 11 #[.pointer (some ⟨r.g, 0, none⟩), .int .i64 c, .agg (cHO o).toArray] w fun e w' => ∃ v, e = .returned v ∧ TellQ w0 L r.g (S c r.abs o) (R c r.abs o) v w'
  ask : ∀ c, c ∈ ks → ∀ (h : Hp) (w : World) (L : List Chunk) (o : HOp), Mem w0 w (HpC h :: L) → h.Ok → h.abs.Few → RdC w0 2 (.slice o.A o.n o.c) (fV o.items) → o.n ≤ 1048576 → (Lit.int .i64 o.I).wf = true → h.ths.length < 8388608 →
    Calls Tryz.prog 12 #[.pointer (some ⟨h.g, 0, none⟩), .int .i64 c, .agg (cHO o).toArray] w fun e w' => ∃ v, e = .returned (.tuple #[v, .bool true]) ∧ AskQ w0 L h.g (S c h.abs o) (R c h.abs o) v w'
  grow : ∀ c, c ∈ ks → ∀ (s : Hs) (o : HOp), (S c s o).objs.length ≤ s.objs.length + 1
  few : ∀ c, c ∈ ks → ∀ (s : Hs) (o : HOp), s.Few → (S c s o).Few
  size : ∀ c, c ∈ ks → ∀ (h : Hp) (o : HOp), h.Ok → o.items.length ≤ 1048576 → (R c h.abs o).ob.items.length ≤ 16777216 ∧ (R c h.abs o).ob.keys.length ≤ 16777216 ∧ (R c h.abs o).list.length ≤ 16777216
/-- A script that may be played. -/
def OpsOk (w0 : World) (ops : List HOp) : Prop := ∀ x, x ∈ ops → RdC w0 2 (.slice x.A x.n x.c) (fV x.items) ∧ x.n ≤ 1048576 ∧ (Lit.int .i64 x.I).wf = true
theorem playG_ok (w0 w : World) (L : List Chunk) (ks : List Nat) (S : Nat → Hs → HOp → Hs) (R : Nat → Hs → HOp → Sd) (H : Fact (PlayG w0 ks S R)) (hk0 : 0 < ks.length) (hk1 : ks.length ≤ 20)
    (h0 : Hp) (r0 : Rf) (hm : Mem w0 w (HpC h0 :: RfC r0 :: L)) (hok0 : h0.Ok) (hf0 : h0.abs.Few) (rok0 : r0.Ok) (habs : r0.abs = h0.abs) (hsz0 : h0.ths.length ≤ 2097152) (gk : Nat) (hgk : Fact (Blk gk (.cells (kindsV ks).toArray 3) ∈ L))
    (A : Option Addr) (m c : Nat) (ops : List HOp) (hs : Fact (RdC w0 9 (.slice A m c) (ops.flatMap cHO))) (hit : OpsOk w0 ops) (hmm : m ≤ 1048576) :
    Calls Tryz.prog 9 #[.pointer (some ⟨h0.g, 0, none⟩), .pointer (some ⟨r0.g, 0, none⟩), .slice (some ⟨gk, 0, none⟩) ks.length ks.length, .slice A m c] w fun e w' => e = .returned (.bool true) ∧ Gr w0 w' := by
  have hit := Fact.mk hit
  have hkl := Fact.mk (show (kindsV ks).length = ks.length by simp [kindsV])
  have hpk := fun w k => pickF_ok w k ks.length ks.length rfl (by omega) hk0
  have hpr := fun k => pickF_rng k ks.length hk0
  have hkat : ∀ j, j < ks.length → ∃ cc : Nat, cc ∈ ks ∧ (kindsV ks)[j]? = some (.int .i64 cc) := fun j hj => ⟨ks[j], List.getElem_mem hj, by simp [kindsV, hj]⟩
  generalize hml : ks.length = kl at hkl hpk hpr hkat
  clear hk0 hml
  generalize hg0 : h0.g = hg
  generalize hr0 : r0.g = rg
  replace hpk := Fact.mk hpk
  replace hpr := Fact.mk hpr
  replace hkat := Fact.mk hkat
  have hstart : Fact (∃ (h : Hp) (r : Rf), h.g = hg ∧ r.g = rg ∧ h.Ok ∧ h.abs.Few ∧ r.Ok ∧ r.abs = h.abs ∧ h.ths.length ≤ 2097152 + 0 ∧ Mem w0 w (HpC h :: RfC r :: L)) := ⟨h0, r0, hg0, hr0, hok0, hf0, rok0, habs, hsz0, hm⟩
  clear hm hok0 hf0 rok0 habs hsz0 hg0 hr0
  go_enter Tryz.func9, Tryz.ntmps9
  go_wp2
  go_loopw [9] (fun s9 w' => ∃ (k : Nat), s9 = .int .i64 k ∧ k ≤ m ∧ ∃ (h : Hp) (r : Rf), h.g = hg ∧ r.g = rg ∧ h.Ok ∧ h.abs.Few ∧ r.Ok ∧ r.abs = h.abs ∧ h.ths.length ≤ 2097152 + k ∧ Mem w0 w' (HpC h :: RfC r :: L)) (fun s9 _ => m - (intOf s9).toNat)
  case atStart => exact ⟨0, rfl, by omega, hstart.out⟩
  case round =>
    obtain ⟨k, rfl, hk, h, r, rfl, rfl, hok, hfew, rok, habs, hsz, hmr⟩ := hrel
    clear hstart
    have hok := Fact.mk hok
    have hfew := Fact.mk hfew
    have rok := Fact.mk rok
    have habs := Fact.mk habs
    by_cases hlt : k < m
    · obtain ⟨b, o, rfl, hc, hkm⟩ := rdHO_at hs.out k hlt
      have hxm : ops.getD k hop0 ∈ ops := by rw [List.getD_eq_getElem?_getD, List.getElem?_eq_getElem hkm]; exact List.getElem_mem hkm
      generalize ops.getD k hop0 = x at hc hxm
      obtain ⟨hxr, hxn, hxw⟩ := hit.out x hxm
      have hxw := Fact.mk hxw
      have hxr := Fact.mk hxr
      have hc := Fact.mk hc
      have wrapk : wrap64 ((k : Int) + 1) = (k : Int) + 1 := IntWalk.wrap64_in _ (by omega)
      go_upto_region 5 with (first | (refine wp_rng rfl 38 _ rfl b (o + k * 9) rfl (cHO x) (rng_gr hc.out hmr.below) row_HO sz_HO ?_) | (refine wp_setrow rfl 38 _ _ rfl wr.heap.size rfl 38 _ (cHO x) rfl (hmr.alloc _) sz_HO rfl (cHO_one x) ?_; intro w6 hm6))
      generalize wr.heap.size = g10 at hm6 ⊢
      have y1 := hm6.cell m0 1 rfl
      clear hmr hxm
      go_wp2_with fail
      refine (hpk.out w6 x.kd).mono ?_
      rintro e w7 ⟨rfl, rfl⟩
      have hj := hpr.out x.kd
      obtain ⟨j, hj'⟩ := Int.eq_ofNat_of_zero_le hj.1
      rw [hj'] at hj ⊢
      have hj5 : j < kl := by omega
      clear hj' hj y1
      obtain ⟨cc, hcc, hcell⟩ := hkat.out j hj5
      have z1 := hm6.cell (.tail _ (.tail _ (.tail _ hgk.out))) j hcell
      clear hcell
      replace hcc := Fact.mk hcc
      have hxl := rdV_len hxr.out
      have hRs := H.out.size cc hcc.out h x hok.out (by omega)
      have hfewS := H.out.few cc hcc.out h.abs x hfew.out
      have hgrow := H.out.grow cc hcc.out h.abs x
      have htold := H.out.told cc hcc.out r w7 _ x hm6.pull2 rok.out (by rw [habs.out]; exact hok.out.good hfew.out) hxr.out hxn hxw.out (by have := r.abs_len; rw [habs.out, h.abs_len'] at this; omega)
      have hask := fun (w : World) (L : List Chunk) (hm : Mem w0 w (HpC h :: L)) => H.out.ask cc hcc.out h w L x hm hok.out hfew.out hxr.out hxn hxw.out (by omega)
      rw [habs.out] at htold
      have hSl : (S cc h.abs x).objs.length ≤ 2097152 + (k + 1) := by rw [h.abs_len'] at hgrow; omega
      generalize S cc h.abs x = s1 at htold hask hSl hfewS
      generalize R cc h.abs x = q1 at htold hask hRs
      clear hgrow hxl
      replace htold := Fact.mk htold
      replace hask := Fact.mk hask
      replace hRs := Fact.mk hRs
      replace hfewS := Fact.mk hfewS
      go_wp2_with (refine wp_rng rfl 38 _ rfl g10 0 rfl (cHO x) (rng_blk hm6 m0) row_HO sz_HO ?_)
      refine htold.out.mono ?_
      rintro e w8 ⟨v, rfl, r', hrg', hra', rok', A1, c1, K1, k1, LA1, lc1, rfl, hm8⟩
      clear z1 hm6 htold
      go_wp2_with (first | (refine wp_setrow rfl 43 _ _ rfl w8.heap.size rfl 43 _ (sdC q1 A1 c1 K1 k1 LA1 lc1) rfl (hm8.alloc _) sz_S rfl (sC_one _ _ _ _ _ _ _ _ _ _ _ _ _ _ _ _ _ _) ?_; intro w9 hm9) | (refine wp_rng rfl 38 _ rfl g10 0 rfl (cHO x) (rng_blk hm9 m5) row_HO sz_HO ?_))
      generalize w8.heap.size = g12 at hm9 ⊢
      clear hm8
      refine (hask.out w9 _ hm9.pull6).mono ?_
      rintro e w10 ⟨v, rfl, h', hhg', hha', hok', A2, c2, K2, k2, LA2, lc2, rfl, hm10⟩
      clear hm9 hask
      go_wp2_with (first | (refine wp_setrow rfl 43 _ _ rfl w10.heap.size rfl 43 _ (sdC q1 A2 c2 K2 k2 LA2 lc2) rfl (hm10.alloc _) sz_S rfl (sC_one _ _ _ _ _ _ _ _ _ _ _ _ _ _ _ _ _ _) ?_; intro w11 hm11) | (refine wp_rng rfl 43 _ rfl w10.heap.size 0 rfl (sdC q1 A2 c2 K2 k2 LA2 lc2) (rng_blk hm11 m0) row_S sz_S ?_) | (refine wp_rng rfl 43 _ rfl g12 0 rfl (sdC q1 A1 c1 K1 k1 LA1 lc1) (rng_blk hm11 m5) row_S sz_S ?_))
      generalize w10.heap.size = g13 at hm11 ⊢
      clear hm10
      refine (same_ok w11 q1 _ _ ⟨A2, c2, K2, k2, LA2, lc2, rfl, hm11.rd m1, hm11.rd m2, hm11.rd m3⟩ ⟨A1, c1, K1, k1, LA1, lc1, rfl, hm11.rd m6, hm11.rd m7, hm11.rd m8⟩ hRs.out.1 hRs.out.2.1 hRs.out.2.2).mono ?_
      rintro e w12 ⟨rfl, hg12⟩
      have hz : Mem w0 w12 (HpC h' :: RfC r' :: L) := (hm11.tail.tail.tail.tail.gr hg12).sub (List.Sublist.cons_cons _ (.cons _ (.cons _ (.cons _ (.cons _ (List.Sublist.cons_cons _ (List.sublist_cons_self _ _)))))))
      clear hm11 hg12
      go_wp2_with fail
      go_roundw
      case rel => exact ⟨k + 1, by go_num, by omega, h', r', hhg', hrg', hok', by rw [hha']; exact hfewS.out, rok', by rw [hha', hra'], by rw [← h'.abs_len', hha']; exact hSl, hz⟩
      case measure => first | exact measP_lt hlt | exact measN_lt hlt wrapk
    · obtain rfl : k = m := by omega
      go_wp2_with fail
      refine (alike_ok w0 wr L h r hmr hok rok ⟨by rw [habs.out]⟩ (congrArg Hs.spent habs.out)).mono ?_
      rintro e w8 ⟨rfl, hm8⟩
      go_wp2_with fail
      go_ret
      exact ⟨rfl, hm8.below⟩
end Go.Proofs.YtpibchjkmaghnaaGreat
namespace Go.Proofs.YtpibchjkmaghnaaGreat
open Go.RowKit Go.Mm
set_option maxHeartbeats 4000000
set_option maxRecDepth 100000
set_option linter.unusedSimpArgs false
def Rf.others (r : Rf) (i : Nat) : List Chunk := (r.xs.take i ++ r.xs.drop (i + 1)).map RoC
def Rf.upd (r : Rf) (i : Nat) (y : RO) : Rf := { r with xs := r.xs.set i y }
theorem Rf.upd_abs (r : Rf) (i : Nat) (y : RO) : (r.upd i y).abs = r.abs.put i y.ob := by simp [Rf.abs, Rf.upd, Hs.put, List.map_set]
theorem Rf.upd_ok {r : Rf} (hok : r.Ok) (i : Nat) (y : RO) (hy : y.ob.items.length ≤ 1048576 ∧ y.ob.keys.length ≤ 1048576) : (r.upd i y).Ok := by
  refine ⟨fun u hu => ?_, by simp only [Rf.upd, List.length_set]; exact hok.size, hok.b0, hok.b1, hok.s0, hok.s1⟩
  rcases List.mem_or_eq_of_mem_set hu with hu | rfl
  · exact hok.each u hu
  · exact hy
theorem Rf.opn {w0 w : World} {L : List Chunk} {r : Rf} (hm : Mem w0 w (RfC r :: L)) (i : Nat) (hi : i < r.xs.length) :
    Mem w0 w (Blk r.g (.cells r.cells.toArray 51) :: Own 6 (.slice r.A r.xs.length r.c) (r.xs.flatMap cRO) :: RoC (r.xs.getD i ro0) :: (r.others i ++ L)) := by
  have h1 : Mem w0 w (r.chunks ++ L) := Mem.opn hm
  have hp : (r.xs.map RoC).Perm (RoC (r.xs.getD i ro0) :: r.others i) := by
    have := (perm_pull r.xs i (r.xs.getD i ro0) (by simp [hi])).map RoC
    simpa [Rf.others] using this
  exact h1.perm (List.Perm.append_right L (List.Perm.cons _ (List.Perm.cons _ hp)))
theorem Rf.cls {w0 w : World} {L : List Chunk} {r : Rf} (i : Nat) (hi : i < r.xs.length) (y : RO)
    (hm : Mem w0 w (Blk r.g (.cells r.cells.toArray 51) :: Own 6 (.slice r.A r.xs.length r.c) ((r.xs.set i y).flatMap cRO) :: RoC y :: (r.others i ++ L))) : Mem w0 w (RfC (r.upd i y) :: L) := by
  have hp : (RoC y :: r.others i).Perm ((r.xs.set i y).map RoC) := by
    have := (perm_back r.xs i hi y).map RoC
    simpa [Rf.others] using this
  refine Mem.sht (r.upd i y).chunks (hm.perm ?_)
  have e : (r.upd i y).chunks = Blk r.g (.cells r.cells.toArray 51) :: Own 6 (.slice r.A r.xs.length r.c) ((r.xs.set i y).flatMap cRO) :: (r.xs.set i y).map RoC := by
    simp [Rf.chunks, Rf.cells, Rf.upd]
  rw [e]
  exact List.Perm.append_right L (List.Perm.cons _ (List.Perm.cons _ hp))
/-- Cells of one object written. -/
theorem flat_len (xs : List RO) : (xs.flatMap cRO).length = xs.length * 6 := by
  induction xs with
  | nil => rfl
  | cons x xs ih => rw [List.flatMap_cons, List.length_append, ih, cRO_len, List.length_cons]; omega
theorem flat_set (xs : List RO) (i : Nat) (hi : i < xs.length) (y : RO) (j : Nat) (us : List Value) (hj : j + us.length ≤ 6) (hy : cRO y = (cRO (xs.getD i ro0)).take j ++ us ++ (cRO (xs.getD i ro0)).drop (j + us.length)) :
    (xs.flatMap cRO).take (i * 6 + j) ++ us ++ (xs.flatMap cRO).drop (i * 6 + j + us.length) = (xs.set i y).flatMap cRO := by
  have e : xs = xs.take i ++ xs.getD i ro0 :: xs.drop (i + 1) := by
    conv => lhs; rw [← List.take_append_drop i xs, List.drop_eq_getElem_cons hi]
    simp [hi]
  have l1 : ((xs.take i).flatMap cRO).length = i * 6 := by rw [flat_len, List.length_take]; omega
  have l2 : (cRO (xs.getD i ro0)).length = 6 := rfl
  rw [List.set_eq_take_append_cons_drop, if_pos hi]
  generalize xs.getD i ro0 = x at e hy l2
  have e2 : xs.flatMap cRO = (xs.take i).flatMap cRO ++ (cRO x ++ (xs.drop (i + 1)).flatMap cRO) := by
    conv => lhs; rw [e]
    rw [List.flatMap_append, List.flatMap_cons]
  rw [e2, List.flatMap_append, List.flatMap_cons, hy]
  generalize (xs.take i).flatMap cRO = F at l1
  generalize (xs.drop (i + 1)).flatMap cRO = G
  generalize cRO x = X at l2
  rw [List.take_append, List.take_of_length_le (by omega), List.take_append_of_le_length (l₁ := X) (by omega), List.drop_append, List.drop_of_length_le (l := F) (by omega), List.drop_append_of_le_length (l₁ := X) (by omega)]
  rw [show i * 6 + j - F.length = j by omega, show i * 6 + j + us.length - F.length = j + us.length by omega]
  simp
/-- Which object a value names, among the reference's. -/
theorem Rf.at_abs {r : Rf} {i : Nat} (hi : i < r.xs.length) : r.abs.objs.getD i ob0 = (r.xs.getD i ro0).ob := by simp [Rf.abs, hi]
theorem Hs.obAt_lt {s : Hs} {v : V2} {k : Int} {i : Nat} (h : s.obAt v k = some i) : i < s.objs.length ∧ v.2 = i ∧ v.1 = k ∧ (s.objs.getD i ob0).kind = k := by
  unfold Hs.obAt at h
  cases hn : nm s.objs v with
  | none => rw [hn] at h; cases h
  | some j =>
    rw [hn] at h
    simp only at h
    split at h
    · rename_i hk
      cases h
      unfold nm at hn
      split at hn
      · rename_i q
        cases hn
        obtain ⟨q0, q1, q2⟩ := q
        exact ⟨by omega, by omega, by rw [← q2, hk], hk⟩
      · cases hn
    · cases h
theorem Hs.put_self (s : Hs) (i : Nat) : s.put i (s.objs.getD i ob0) = s := by
  unfold Hs.put
  by_cases hi : i < s.objs.length
  · have : s.objs.getD i ob0 = s.objs[i] := by simp [hi]
    rw [this, List.set_getElem_self]
  · rw [List.set_eq_of_length_le (by omega)]
end Go.Proofs.YtpibchjkmaghnaaGreat
namespace Go.Proofs.YtpibchjkmaghnaaGreat
open Go.RowKit Go.Mm
set_option maxHeartbeats 4000000
set_option maxRecDepth 100000
set_option linter.unusedSimpArgs false
/-- Does a value name an object? -/
def nmB (l : List Ob) (v : V2) : Bool := decide (6 ≤ v.1) && decide (v.1 ≤ 9) && (nm l v).isSome
theorem refNames_ok (w : World) (A : Option Addr) (n c : Nat) (xs : List RO) (hx : Fact (ObsR w A n c xs)) (hn : n ≤ 16777216) (K N : Int) :
    Calls Tryz.prog 56 #[.slice A n c, .agg #[.int .i64 K, .int .i64 N]] w fun e w' => e = .returned (.bool (nmB (xs.map (·.ob)) (K, N))) ∧ Gr w w' := by
  have hl := Fact.mk hx.out.len
  go_enter Tryz.func56, Tryz.ntmps56
  go_upto_region 1 with (fail)
  have hm1 := (Mem.start w).alloc (.cells [.int .i64 K, .int .i64 N].toArray 35)
  generalize hgb : w.heap.size = gb at hm1 ⊢
  generalize hw1 : w.alloc (.cells [.int .i64 K, .int .i64 N].toArray 35) = w1 at hm1
  try refine wp_world hw1 ?_
  have hg1 : Gr w w1 := hm1.below
  clear hw1 hgb
  have d0 := hm1.cell m0 0 rfl
  have d1 := hm1.cell m0 1 rfl
  by_cases q0 : K < 6
  · have q0' : decide (K < 6) = true := decide_eq_true q0
    have hb : Fact (nmB (xs.map (·.ob)) (K, N) = false) := ⟨by unfold nmB; rw [decide_eq_false (show ¬ 6 ≤ (K, N).1 by show ¬ 6 ≤ K; omega)]; rfl⟩
    go_wp2
    go_ret
    exact ⟨by rw [hb.out]; rfl, hg1⟩
  have q0' : decide (K < 6) = false := decide_eq_false q0
  by_cases q1 : 9 < K
  · have q1' : decide (K > 9) = true := decide_eq_true q1
    have hb : Fact (nmB (xs.map (·.ob)) (K, N) = false) := ⟨by unfold nmB; rw [decide_eq_false (show ¬ (K, N).1 ≤ 9 by show ¬ K ≤ 9; omega)]; simp⟩
    go_wp2
    go_ret
    exact ⟨by rw [hb.out]; rfl, hg1⟩
  have q1' : decide (K > 9) = false := decide_eq_false (by omega)
  have hb0 : Fact (nmB (xs.map (·.ob)) (K, N) = (nm (xs.map (·.ob)) (K, N)).isSome) := ⟨by unfold nmB; rw [decide_eq_true (show 6 ≤ (K, N).1 by show 6 ≤ K; omega), decide_eq_true (show (K, N).1 ≤ 9 by show K ≤ 9; omega)]; rfl⟩
  by_cases q2 : N < 0
  · have q2' : decide (N < 0) = true := decide_eq_true q2
    have hb : Fact (nm (xs.map (·.ob)) (K, N) = none) := ⟨by unfold nm; rw [if_neg (by intro q; have := q.1; dsimp only at this; omega)]⟩
    go_wp2
    go_ret
    exact ⟨by rw [hb0.out, hb.out]; rfl, hg1⟩
  have q2' : decide (N < 0) = false := decide_eq_false q2
  by_cases q3 : N < n
  · have q3' : decide (N ≥ (n : Int)) = false := decide_eq_false (by omega)
    obtain ⟨i, rfl⟩ := Int.eq_ofNat_of_zero_le (Int.not_lt.1 q2)
    have hi : i < n := by omega
    obtain ⟨b, o, rfl, hc, hil, hrd⟩ := (hx.out.gr hg1).at i hi
    have hb : Fact ((nm (xs.map (·.ob)) (K, (i : Int))).isSome = ((xs.getD i ro0).ob.kind == K)) := ⟨by
      unfold nm
      have e : ((xs.map (·.ob)).getD i ob0) = (xs.getD i ro0).ob := by simp [hil]
      simp only [Int.toNat_natCast, List.length_map, e]
      by_cases q : (xs.getD i ro0).ob.kind = K
      · rw [if_pos ⟨by omega, by omega, q⟩, q]; simp
      · rw [if_neg (fun z => q z.2.2)]; exact (beq_eq_false_iff_ne.2 q).symm⟩
    have c0 : w1.cell? ⟨b, o + i * 6, none⟩ = some (.int .i64 (xs.getD i ro0).ob.kind) := hc 0 _ rfl
    clear hc hrd
    generalize (xs.getD i ro0).ob.kind = kd at c0 hb
    go_upto_region 3 with (fail)
    go_quiet (fail)
    go_wp2
    go_ret
    exact ⟨by rw [hb0.out, hb.out]; rfl, hg1.drewN _⟩
  · have q3' : decide (N ≥ (n : Int)) = true := decide_eq_true (by omega)
    have hb : Fact (nm (xs.map (·.ob)) (K, N) = none) := ⟨by unfold nm; rw [if_neg (by intro q; have := q.2.1; rw [List.length_map, hl.out] at this; dsimp only at this; omega)]⟩
    go_wp2
    go_ret
    exact ⟨by rw [hb0.out, hb.out]; rfl, hg1⟩
theorem nmB_good {s : Hs} (hg : s.Good) (v : V2) (k : Int) : (decide (v.1 = k) && nmB s.objs v) = (s.obAt v k).isSome := by
  unfold nmB Hs.obAt
  cases hn : nm s.objs v with
  | none => simp
  | some i =>
    unfold nm at hn
    split at hn
    · rename_i q
      cases hn
      obtain ⟨q0, q1, q2⟩ := q
      have hk := (hg (s.objs.getD v.2.toNat ob0) (by rw [List.getD_eq_getElem?_getD, List.getElem?_eq_getElem (by omega)]; exact List.getElem_mem _)).kind
      rw [q2] at hk
      simp only [q2]
      have h6 : 6 ≤ v.1 := by omega
      have h9 : v.1 ≤ 9 := by omega
      by_cases e : v.1 = k
      · simp [e] at *; simp [h6, h9]
      · simp [e]
    · cases hn
theorem refIs_ok (w0 w : World) (L : List Chunk) (r : Rf) (hm : Mem w0 w L) (hh : RfC r ∈ L) (hok : Fact r.Ok) (hg : Fact r.abs.Good) (K N k : Int) :
    Calls Tryz.prog 55 #[.pointer (some ⟨r.g, 0, none⟩), .agg #[.int .i64 K, .int .i64 N], .int .i64 k] w fun e w' => e = .returned (.bool (r.abs.obAt (K, N) k).isSome) ∧ Gr w w' := by
  have hsz := hok.out.size
  have hb := nmB_good hg.out (K, N) k
  go_enter Tryz.func55, Tryz.ntmps55
  go_upto_region 1 with (fail)
  have hm1 := hm.alloc (.cells [.int .i64 K, .int .i64 N].toArray 35)
  generalize hgb : w.heap.size = gb at hm1 ⊢
  generalize hw1 : w.alloc (.cells [.int .i64 K, .int .i64 N].toArray 35) = w1 at hm1
  try refine wp_world hw1 ?_
  have hg1 : Gr w w1 := by rw [← hw1]; exact (Gr.refl w).alloc _
  clear hw1 hgb
  have hm2 := hm1.drew
  have d0 := hm2.cell m0 0 rfl
  have d1 := hm2.cell m0 1 rfl
  obtain ⟨_, _, c2, hobs⟩ := Rf.read hm2 (.tail _ hh)
  have hnm := Fact.mk (refNames_ok w1.drew r.A r.xs.length r.c r.xs ⟨hobs⟩ hsz K N)
  by_cases q : K = k
  · subst q
    have q' : decide (K = K) = true := decide_eq_true rfl
    rw [show (K, N).1 = K from rfl, q', Bool.true_and] at hb
    clear q'
    replace hb := Fact.mk hb
    refine wp_region_still_tail 10 (by kernel_rfl) (by kernel_rfl) ?_
    simp only [List.take_succ_cons, List.take_zero, List.drop_succ_cons, List.drop_zero]
    repeat still_step
    refine wpStill_nil ?_
    go_wp2_with fail
    refine hnm.out.mono ?_
    rintro e w2 ⟨rfl, hg2⟩
    go_wp2_with fail
    go_ret
    exact ⟨by rw [← hb.out]; rfl, (hg1.trans ((Gr.refl w1).drew)).trans hg2⟩
  · have q' : decide (K = k) = false := decide_eq_false q
    rw [show (K, N).1 = K from rfl, q', Bool.false_and] at hb
    replace hb := Fact.mk hb
    refine wp_region_still_tail 10 (by kernel_rfl) (by kernel_rfl) ?_
    simp only [List.take_succ_cons, List.take_zero, List.drop_succ_cons, List.drop_zero]
    repeat still_step
    refine wpStill_nil ?_
    go_wp2_with fail
    go_ret
    exact ⟨by rw [← hb.out]; rfl, hg1.trans ((Gr.refl w1).drew)⟩
end Go.Proofs.YtpibchjkmaghnaaGreat
namespace Go.Proofs.YtpibchjkmaghnaaGreat
open Go.RowKit Go.Mm
set_option maxHeartbeats 4000000
set_option maxRecDepth 100000
set_option linter.unusedSimpArgs false
theorem refGet_ok (w0 w : World) (L : List Chunk) (r : Rf) (hm : Mem w0 w (RfC r :: L)) (hok : Fact r.Ok) (hg : Fact r.abs.Good) (K N j : Int) :
    Calls Tryz.prog 30 #[.pointer (some ⟨r.g, 0, none⟩), .agg #[.int .i64 K, .int .i64 N], .int .i64 j] w fun e w' => e = .returned (.tuple #[.agg #[.int .i64 (getV r.abs (K, N) j).1, .int .i64 (getV r.abs (K, N) j).2], .int .i64 (getT r.abs (K, N) j)]) ∧ Mem w0 w' (RfC r :: L) := by
  have his := fun (w1 : World) (L1 : List Chunk) (hm1 : Mem w0 w1 L1) (hh : RfC r ∈ L1) => refIs_ok w0 w1 L1 r hm1 hh hok hg K N 6
  unfold getV getT
  cases hob : r.abs.obAt (K, N) 6 with
  | none =>
    rw [hob] at his
    simp only [Option.isSome] at his
    replace his := Fact.mk his
    go_enter Tryz.func30, Tryz.ntmps30
    go_upto_region 1 with (fail)
    have hm1 := ((hm.alloc (.cells [.int .i64 K, .int .i64 N].toArray 35)).alloc (.cells [.int .i64 0, .int .i64 0].toArray 35))
    simp only [World.size_alloc] at hm1
    generalize hgb : w.heap.size = gb at hm1 ⊢
    generalize hw1 : ((w.alloc (.cells [.int .i64 K, .int .i64 N].toArray 35)).alloc (.cells [.int .i64 0, .int .i64 0].toArray 35)) = w1 at hm1
    try refine wp_world hw1 ?_
    clear hw1 hgb
    go_wp2_with (refine wp_rng rfl 35 _ rfl gb 0 rfl (cV (K, N)) (rng_blk hm1 m1) row_V sz_V ?_)
    refine (his.out w1 _ hm1 m2).mono ?_
    rintro e w2 ⟨rfl, hg2⟩
    have hm2 := hm1.gr hg2
    clear hm1 hg2
    go_wp2_with (refine wp_setrow rfl 35 _ _ rfl (gb + 1) rfl 35 _ [.int .i64 0, .int .i64 0] rfl hm2 sz_V rfl (cV_one (0, 0)) ?_; intro w3 hm3)
    exact bodyPost_ret (Mm.res_cell_tmp rfl _ (gb + 1) 35 [.int .i64 0, .int .i64 0] (0, 0) rfl hm3 m0 row_V sz_V) rfl ⟨rfl, hm3.tail.tail⟩
  | some i =>
    rw [hob] at his
    simp only [Option.isSome] at his
    replace his := Fact.mk his
    obtain ⟨hi, hN, hK, hkd⟩ := Hs.obAt_lt hob
    rw [r.abs_len] at hi
    simp only at hN hK
    subst hN
    clear hK hkd
    simp only [r.at_abs hi]
    have hsz := hok.out.each (r.xs.getD i ro0) (by rw [List.getD_eq_getElem?_getD, List.getElem?_eq_getElem hi]; exact List.getElem_mem hi)
    obtain ⟨t, ht⟩ : ∃ t, r.xs.getD i ro0 = t := ⟨_, rfl⟩
    rw [ht] at hsz ⊢
    replace ht := Fact.mk ht
    by_cases q0 : j < 0
    · have q0' : decide (j < 0) = true := decide_eq_true q0
      rw [if_neg (by omega), if_neg (by omega)]
      go_enter Tryz.func30, Tryz.ntmps30
      go_upto_region 1 with (fail)
      have hm1 := ((hm.alloc (.cells [.int .i64 K, .int .i64 (i : Int)].toArray 35)).alloc (.cells [.int .i64 0, .int .i64 0].toArray 35))
      simp only [World.size_alloc] at hm1
      generalize hgb : w.heap.size = gb at hm1 ⊢
      generalize hw1 : ((w.alloc (.cells [.int .i64 K, .int .i64 (i : Int)].toArray 35)).alloc (.cells [.int .i64 0, .int .i64 0].toArray 35)) = w1 at hm1
      try refine wp_world hw1 ?_
      clear hw1 hgb
      go_wp2_with (refine wp_rng rfl 35 _ rfl gb 0 rfl (cV (K, (i : Int))) (rng_blk hm1 m1) row_V sz_V ?_)
      refine (his.out w1 _ hm1 m2).mono ?_
      rintro e w2 ⟨rfl, hg2⟩
      have hm2 := hm1.gr hg2
      clear hm1 hg2
      obtain ⟨_, _, c2, hobs⟩ := Rf.read hm2 m2
      obtain ⟨b, o, hA, hc, _, hrd⟩ := hobs.at i hi
      rw [hA] at c2
      have f1 : w2.cell? ⟨b, o + i * 6 + 1, none⟩ = some (.slice (r.xs.getD i ro0).A (r.xs.getD i ro0).ob.items.length (r.xs.getD i ro0).c) := hc 1 _ rfl
      have d1 := hm2.cell m1 1 rfl
      rw [ht.out] at f1
      go_upto_region 3 with (fail)
      go_quiet (fail)
      have hm3 := hm2.drewN nq
      rw [ht.out] at hrd
      have hx3 := hrd.1.gr ((Gr.refl w2).drewN nq)
      clear hm2 hrd c2 d1 hc hobs f1
      generalize w2.drewN nq = w3 at hm3 hx3 ⊢
      go_wp2_with (refine wp_setrow rfl 35 _ _ rfl (gb + 1) rfl 35 _ [.int .i64 0, .int .i64 0] rfl hm3 sz_V rfl (cV_one (0, 0)) ?_; intro w4 hm4)
      exact bodyPost_ret (Mm.res_cell_tmp rfl _ (gb + 1) 35 [.int .i64 0, .int .i64 0] (0, 0) rfl hm4 m0 row_V sz_V) rfl ⟨rfl, hm4.tail.tail⟩
    have q0' : decide (j < 0) = false := decide_eq_false q0
    by_cases q1 : j < t.ob.items.length
    · have q1' : decide (j ≥ t.ob.items.length) = false := decide_eq_false (by omega)
      rw [if_pos (by omega), if_pos (by omega)]
      obtain ⟨k, rfl⟩ := Int.eq_ofNat_of_zero_le (Int.not_lt.1 q0)
      have hkl : k < t.ob.items.length := by omega
      obtain ⟨x, hx⟩ : ∃ x, t.ob.items.getD k (0, 0) = x := ⟨_, rfl⟩
      rw [show ((k : Nat) : Int).toNat = k from rfl, hx]
      replace hx := Fact.mk hx
      go_enter Tryz.func30, Tryz.ntmps30
      go_upto_region 1 with (fail)
      have hm1 := ((hm.alloc (.cells [.int .i64 K, .int .i64 (i : Int)].toArray 35)).alloc (.cells [.int .i64 0, .int .i64 0].toArray 35))
      simp only [World.size_alloc] at hm1
      generalize hgb : w.heap.size = gb at hm1 ⊢
      generalize hw1 : ((w.alloc (.cells [.int .i64 K, .int .i64 (i : Int)].toArray 35)).alloc (.cells [.int .i64 0, .int .i64 0].toArray 35)) = w1 at hm1
      try refine wp_world hw1 ?_
      clear hw1 hgb
      go_wp2_with (refine wp_rng rfl 35 _ rfl gb 0 rfl (cV (K, (i : Int))) (rng_blk hm1 m1) row_V sz_V ?_)
      refine (his.out w1 _ hm1 m2).mono ?_
      rintro e w2 ⟨rfl, hg2⟩
      have hm2 := hm1.gr hg2
      clear hm1 hg2
      obtain ⟨_, _, c2, hobs⟩ := Rf.read hm2 m2
      obtain ⟨b, o, hA, hc, _, hrd⟩ := hobs.at i hi
      rw [hA] at c2
      have f1 : w2.cell? ⟨b, o + i * 6 + 1, none⟩ = some (.slice (r.xs.getD i ro0).A (r.xs.getD i ro0).ob.items.length (r.xs.getD i ro0).c) := hc 1 _ rfl
      have d1 := hm2.cell m1 1 rfl
      rw [ht.out] at f1
      go_upto_region 3 with (fail)
      go_quiet (fail)
      have hm3 := hm2.drewN nq
      rw [ht.out] at hrd
      have hx3 := hrd.1.gr ((Gr.refl w2).drewN nq)
      clear hm2 hrd c2 d1 hc hobs f1
      generalize w2.drewN nq = w3 at hm3 hx3 ⊢
      obtain ⟨b2, o2, hA2, g1, g2, _, _⟩ := rdV_at hx3 k hkl
      rw [hx.out] at g1 g2
      rw [hA2]
      clear hx3 hA2
      go_wp2_with (first | (refine wp_rng rfl 35 _ rfl b2 (o2 + k * 2) rfl (cV x) (rng2 g1 g2) row_V sz_V ?_) | (refine wp_setrow rfl 35 _ _ rfl (gb + 1) rfl 35 _ (cV x) rfl hm3 sz_V rfl (cV_one x) ?_; intro w4 hm4))
      exact bodyPost_ret (Mm.res_cell_tmp rfl _ (gb + 1) 35 (cV x) (0, 0) rfl hm4 m0 row_V sz_V) rfl ⟨rfl, hm4.tail.tail⟩
    · have q1' : decide (j ≥ t.ob.items.length) = true := decide_eq_true (by omega)
      rw [if_neg (by omega), if_neg (by omega)]
      go_enter Tryz.func30, Tryz.ntmps30
      go_upto_region 1 with (fail)
      have hm1 := ((hm.alloc (.cells [.int .i64 K, .int .i64 (i : Int)].toArray 35)).alloc (.cells [.int .i64 0, .int .i64 0].toArray 35))
      simp only [World.size_alloc] at hm1
      generalize hgb : w.heap.size = gb at hm1 ⊢
      generalize hw1 : ((w.alloc (.cells [.int .i64 K, .int .i64 (i : Int)].toArray 35)).alloc (.cells [.int .i64 0, .int .i64 0].toArray 35)) = w1 at hm1
      try refine wp_world hw1 ?_
      clear hw1 hgb
      go_wp2_with (refine wp_rng rfl 35 _ rfl gb 0 rfl (cV (K, (i : Int))) (rng_blk hm1 m1) row_V sz_V ?_)
      refine (his.out w1 _ hm1 m2).mono ?_
      rintro e w2 ⟨rfl, hg2⟩
      have hm2 := hm1.gr hg2
      clear hm1 hg2
      obtain ⟨_, _, c2, hobs⟩ := Rf.read hm2 m2
      obtain ⟨b, o, hA, hc, _, hrd⟩ := hobs.at i hi
      rw [hA] at c2
      have f1 : w2.cell? ⟨b, o + i * 6 + 1, none⟩ = some (.slice (r.xs.getD i ro0).A (r.xs.getD i ro0).ob.items.length (r.xs.getD i ro0).c) := hc 1 _ rfl
      have d1 := hm2.cell m1 1 rfl
      rw [ht.out] at f1
      go_upto_region 3 with (fail)
      go_quiet (fail)
      have hm3 := hm2.drewN nq
      rw [ht.out] at hrd
      have hx3 := hrd.1.gr ((Gr.refl w2).drewN nq)
      clear hm2 hrd c2 d1 hc hobs f1
      generalize w2.drewN nq = w3 at hm3 hx3 ⊢
      go_wp2_with (refine wp_setrow rfl 35 _ _ rfl (gb + 1) rfl 35 _ [.int .i64 0, .int .i64 0] rfl hm3 sz_V rfl (cV_one (0, 0)) ?_; intro w4 hm4)
      exact bodyPost_ret (Mm.res_cell_tmp rfl _ (gb + 1) 35 [.int .i64 0, .int .i64 0] (0, 0) rfl hm4 m0 row_V sz_V) rfl ⟨rfl, hm4.tail.tail⟩
end Go.Proofs.YtpibchjkmaghnaaGreat
namespace Go.Mm
open Go.RowKit
theorem wp_ownat {P : Program} {ops : Array Oper} {rest : List Oper} {o : Oper} {a : Act} {Q : Exit → Act → World → Prop} {w0 w : World} {L : List Chunk} {size g off n c : Nat} {xs : List Value} (hw : Region.wanted o (yielded ops a.tmps) = true) (ty : TypeId) (p x : Operand) (ho : o.op = .store ty p x) (q j : Nat) (hq : q = off + j) (hp : a.eval p = .pointer (some ⟨g, q, none⟩)) (us : List Value) (v : Value) (hx : a.eval x = v) (hv : v.cells = us.toArray)
    (hm : Mem w0 w (Own size (.slice (some ⟨g, off, none⟩) n c) xs :: L)) (hi : (P.info? ty).map (·.size) = some us.length) (hj : j + us.length ≤ xs.length) (h1 : One us)
    (h : ∀ w', Mem w0 w' (Own size (.slice (some ⟨g, off, none⟩) n c) (xs.take j ++ us ++ xs.drop (j + us.length)) :: L) → wpList P ops Q rest (a.put o.dst undef) w') : wpList P ops Q (o :: rest) a w :=
  wpList_want hw fun K hK => by
    subst hq
    obtain ⟨inf, hi1, hi2⟩ : ∃ inf, P.info? ty = some inf ∧ inf.size = us.length := by
      cases h : P.info? ty with
      | none => rw [h] at hi; simp at hi
      | some inf => rw [h] at hi; exact ⟨inf, rfl, by simpa using hi⟩
    obtain ⟨w', hst, hm'⟩ := hm.own_row (P := P) j us hj h1
    unfold Oper.wp execOp
    simp only [ho, hp, hx]
    simp [Instr.storeAt, Instr.sureAddr, storeVar, sizeOf, typeInfo, hi1, hi2, hv, hst]
    exact hK _ _ (h _ hm')
theorem Mem.to_mid {w0 w : World} {A B : List Chunk} {c : Chunk} (h : Mem w0 w (c :: (A ++ B))) : Mem w0 w (A ++ c :: B) := h.perm List.perm_middle.symm
end Go.Mm
namespace Go.Proofs.YtpibchjkmaghnaaGreat
open Go.RowKit Go.Mm
set_option maxHeartbeats 4000000
set_option maxRecDepth 100000
set_option linter.unusedSimpArgs false
/-- The object with other items. -/
def RO.its (x : RO) (A : Option Addr) (c : Nat) (items : List V2) : RO := { x with A := A, c := c, ob := { x.ob with items := items } }
theorem Rf.put_all {w0 w : World} {M : List Chunk} {r : Rf} (i : Nat) (hi : i < r.xs.length) (x y : RO) (C : List Value) (hC : C = (r.xs.set i y).flatMap cRO)
    (hm : Mem w0 w (Own 6 (.slice r.A r.xs.length r.c) C :: Blk r.g (.cells r.cells.toArray 51) :: RoC x :: (r.others i ++ (RoC y :: M)))) : Mem w0 w (RfC (r.upd i y) :: M) := by
  subst hC
  have h1 := hm.swap
  have h2 : Mem w0 w (RoC y :: (Blk r.g (.cells r.cells.toArray 51) :: Own 6 (.slice r.A r.xs.length r.c) ((r.xs.set i y).flatMap cRO) :: RoC x :: r.others i ++ M)) := Mem.mid (A := Blk r.g (.cells r.cells.toArray 51) :: Own 6 (.slice r.A r.xs.length r.c) ((r.xs.set i y).flatMap cRO) :: RoC x :: r.others i) h1
  have h3 : Mem w0 w (Blk r.g (.cells r.cells.toArray 51) :: Own 6 (.slice r.A r.xs.length r.c) ((r.xs.set i y).flatMap cRO) :: RoC x :: RoC y :: (r.others i ++ M)) := h2.perm (((List.Perm.swap _ _ _).trans ((List.Perm.swap _ _ _).cons _)).trans (((List.Perm.swap _ _ _).cons _).cons _))
  exact Rf.cls i hi y (h3.sub (List.Sublist.cons_cons _ (List.Sublist.cons_cons _ (List.sublist_cons_self _ _))))
theorem Rf.put_its {w0 w : World} {M : List Chunk} {r : Rf} (i : Nat) (hi : i < r.xs.length) (x : RO) (A : Option Addr) (c : Nat) (items : List V2) (C : List Value) (hC : C = (r.xs.set i (x.its A c items)).flatMap cRO)
    (hm : Mem w0 w (Own 6 (.slice r.A r.xs.length r.c) C :: Blk r.g (.cells r.cells.toArray 51) :: RoC x :: (r.others i ++ (Own 2 (.slice A items.length c) (fV items) :: M)))) : Mem w0 w (RfC (r.upd i (x.its A c items)) :: M) := by
  have h1 : Mem w0 w (Own 2 (.slice A items.length c) (fV items) :: (Own 6 (.slice r.A r.xs.length r.c) C :: Blk r.g (.cells r.cells.toArray 51) :: RoC x :: r.others i ++ M)) := Mem.mid (A := Own 6 (.slice r.A r.xs.length r.c) C :: Blk r.g (.cells r.cells.toArray 51) :: RoC x :: r.others i) hm
  have h2 : Mem w0 w (RoC x :: Own 2 (.slice A items.length c) (fV items) :: Own 6 (.slice r.A r.xs.length r.c) C :: Blk r.g (.cells r.cells.toArray 51) :: (r.others i ++ M)) := h1.pull3
  have h3 : Mem w0 w (Own 2 (.slice x.A x.ob.items.length x.c) (fV x.ob.items) :: Own 1 (.slice x.KA x.ob.keys.length x.kc) (nums .i64 x.ob.keys) :: Own 2 (.slice A items.length c) (fV items) :: Own 6 (.slice r.A r.xs.length r.c) C :: Blk r.g (.cells r.cells.toArray 51) :: (r.others i ++ M)) := Mem.opn h2
  have h4 : Mem w0 w (RoC (x.its A c items) :: Own 6 (.slice r.A r.xs.length r.c) C :: Blk r.g (.cells r.cells.toArray 51) :: (r.others i ++ M)) := roC_mem (x.its A c items) h3.tail.swap
  subst hC
  exact Rf.cls i hi _ (h4.perm (((List.Perm.swap _ _ _).trans ((List.Perm.swap _ _ _).cons _)).trans ((List.Perm.swap _ _ _))))
theorem its_cells (x : RO) (A : Option Addr) (c : Nat) (items : List V2) : cRO (x.its A c items) = (cRO x).take 1 ++ [.slice A items.length c] ++ (cRO x).drop 2 := rfl
end Go.Proofs.YtpibchjkmaghnaaGreat
namespace Go.Proofs.YtpibchjkmaghnaaGreat
open Go.RowKit Go.Mm
set_option maxHeartbeats 1000000
set_option maxRecDepth 100000
set_option linter.unusedSimpArgs false
theorem refSet_ok (w0 w : World) (L : List Chunk) (r : Rf) (hm : Mem w0 w (RfC r :: L)) (hok : Fact r.Ok) (hg : Fact r.abs.Good) (K N j X Y : Int) :
    Calls Tryz.prog 31 #[.pointer (some ⟨r.g, 0, none⟩), .agg #[.int .i64 K, .int .i64 N], .int .i64 j, .agg #[.int .i64 X, .int .i64 Y]] w fun e w' => e = .returned (.int .i64 (getT r.abs (K, N) j)) ∧ RfQ w0 L r.g (setS r.abs (K, N) j (X, Y)) w' := by
  have hget := fun (w1 : World) (L1 : List Chunk) (hm1 : Mem w0 w1 (RfC r :: L1)) => refGet_ok w0 w1 L1 r hm1 hok hg K N j
  obtain ⟨gv, hgv⟩ : ∃ z, z = getV r.abs (K, N) j := ⟨_, rfl⟩
  rw [← hgv] at hget
  clear hgv
  by_cases hT : getT r.abs (K, N) j = 0
  · have hq : ∃ i k : Nat, i < r.xs.length ∧ N = i ∧ j = k ∧ k < (r.xs.getD i ro0).ob.items.length ∧ setS r.abs (K, N) j (X, Y) = r.abs.put i { (r.xs.getD i ro0).ob with items := (r.xs.getD i ro0).ob.items.set k (X, Y) } := by
      unfold getT at hT
      unfold setS
      cases hob : r.abs.obAt (K, N) 6 with
      | none => rw [hob] at hT; cases hT
      | some i =>
        obtain ⟨hi, hN, hK, hkd⟩ := Hs.obAt_lt hob
        rw [hob] at hT
        rw [r.abs_len] at hi
        simp only [r.at_abs hi] at hT ⊢
        split at hT
        · rename_i q
          rw [if_pos q]
          obtain ⟨k, rfl⟩ := Int.eq_ofNat_of_zero_le q.1
          exact ⟨i, k, hi, hN, rfl, by omega, rfl⟩
        · cases hT
    obtain ⟨i, k, hi, hN, hj, hkl, hS⟩ := hq
    rw [hT] at hget
    rw [hT, hS]
    subst hN hj
    have hsz := hok.out.each (r.xs.getD i ro0) (by rw [List.getD_eq_getElem?_getD, List.getElem?_eq_getElem hi]; exact List.getElem_mem hi)
    clear hT hS
    obtain ⟨t, ht⟩ : ∃ t, r.xs.getD i ro0 = t := ⟨_, rfl⟩
    rw [ht] at hkl hsz ⊢
    replace ht := Fact.mk ht
    obtain ⟨its, hits⟩ : ∃ its, t.ob.items.set k (X, Y) = its := ⟨_, rfl⟩
    have hil := Fact.mk (show its.length = t.ob.items.length by rw [← hits, List.length_set])
    rw [hits]
    replace hits := Fact.mk hits
    replace hget := Fact.mk hget
    go_enter Tryz.func31, Tryz.ntmps31
    go_upto_region 1 with (fail)
    have hm1 := ((hm.alloc (.cells [.int .i64 K, .int .i64 (i : Int)].toArray 35)).alloc (.cells [.int .i64 X, .int .i64 Y].toArray 35))
    simp only [World.size_alloc] at hm1
    generalize hgb : w.heap.size = gb at hm1 ⊢
    generalize hw1 : ((w.alloc (.cells [.int .i64 K, .int .i64 (i : Int)].toArray 35)).alloc (.cells [.int .i64 X, .int .i64 Y].toArray 35)) = w1 at hm1
    try refine wp_world hw1 ?_
    clear hw1 hgb
    go_wp2_with (refine wp_rng rfl 35 _ rfl gb 0 rfl (cV (K, (i : Int))) (rng_blk hm1 m1) row_V sz_V ?_)
    refine (hget.out w1 _ hm1.pull2).mono ?_
    rintro e w2 ⟨rfl, hm2⟩
    clear hm1
    go_upto_region 2 with (refine wp_setrow rfl 35 _ _ rfl w2.heap.size rfl 35 _ (cV gv) rfl (hm2.alloc _) sz_V rfl (cV_one gv) ?_; intro w3 hm3)
    replace hm3 := hm3.tail
    clear hm2
    go_upto_region 4 with (fail)
    obtain ⟨_, _, c2, hobs⟩ := Rf.read hm3.drew m0
    obtain ⟨b, o, hA, hc, _, hrd⟩ := hobs.at i hi
    rw [hA] at c2
    have f1 : w3.drew.cell? ⟨b, o + i * 6 + 1, none⟩ = some (.slice (r.xs.getD i ro0).A (r.xs.getD i ro0).ob.items.length (r.xs.getD i ro0).c) := hc 1 _ rfl
    rw [ht.out] at f1 hrd
    have d1 := hm3.drew.cell m2 1 rfl
    refine wp_region_still_tail 9 (by kernel_rfl) (by kernel_rfl) ?_
    simp only [List.take_succ_cons, List.take_zero, List.drop_succ_cons, List.drop_zero]
    repeat still_step
    refine wpStill_nil ?_
    go_wp2_with fail
    refine (copyValues_ok w3.drew t.A t.ob.items.length t.c t.ob.items ⟨hrd.1⟩ (by omega)).mono ?_
    rintro e w4 ⟨A4, c4, rfl, hn4⟩
    have hm4 := hm3.drew.new hn4
    clear c2 f1 d1 hrd hc hobs hn4 hm3
    obtain ⟨b4, o4, hA4⟩ := OwnAt.addr (hm4.ok _ m0) (by have := OwnAt.cap (hm4.ok _ m0); omega)
    subst hA4
    have e5 : (fV t.ob.items).take (k * 2) ++ [.int .i64 X, .int .i64 Y] ++ (fV t.ob.items).drop (k * 2 + 2) = fV its := by rw [← hits.out]; exact fV_set t.ob.items k (X, Y) hkl
    have x0 := hm4.cell m2 0 rfl
    have x1 := hm4.cell m2 1 rfl
    replace e5 := Fact.mk e5
    go_upto_region 6 with (first | (refine wp_rng rfl 35 _ rfl (gb + 1) 0 rfl (cV (X, Y)) (rng_blk hm4 m2) row_V sz_V ?_) | (refine wp_ownrow rfl 35 _ _ rfl (o4 + k * 2) (k * 2) rfl rfl [.int .i64 X, .int .i64 Y] rfl hm4 sz_V (by rw [fV_len]; simp; omega) (cV_one (X, Y)) ?_; intro w5 hm5))
    clear hm4 x0 x1
    replace hm5 : Mem w0 w5 (Own 2 (.slice (some ⟨b4, o4, none⟩) its.length c4) (fV its) :: RfC r :: Blk (gb + 1) (.cells [.int .i64 X, .int .i64 Y].toArray 35) :: Blk gb (.cells [.int .i64 K, .int .i64 (i : Int)].toArray 35) :: L) := by rw [hil.out, ← e5.out]; exact hm5
    clear e5
    rw [← hil.out] at hkl hsz ⊢
    go_upto_region 6 with (fail)
    have hm8 := Rf.opn (hm5.swap.drew) i hi
    rw [ht.out] at hm8
    clear hm5
    have hA8 := OwnAt.addr (hm8.ok _ m1) (by have := OwnAt.cap (hm8.ok _ m1); omega)
    obtain ⟨b8, o8, hA8⟩ := hA8
    have c2 := hm8.cell m0 2 rfl
    rw [hA8] at c2
    have d1 := hm8.cell (.tail _ (.tail _ (.tail _ (List.mem_append_right _ (.tail _ (.tail _ (.head _))))))) 1 rfl
    refine wp_region_still_tail 7 (by kernel_rfl) (by kernel_rfl) ?_
    simp only [List.take_succ_cons, List.take_zero, List.drop_succ_cons, List.drop_zero]
    repeat still_step
    refine wpStill_nil ?_
    have hm9 := hm8.swap
    rw [hA8] at hm9
    clear hm8 c2 d1
    have hfs := flat_set r.xs i hi (t.its (some ⟨b4, o4, none⟩) c4 its) 1 [.slice (some ⟨b4, o4, none⟩) its.length c4] (by simp) (by rw [ht.out]; exact its_cells _ _ _ _)
    replace hfs := Fact.mk hfs
    go_upto_region 7 with (refine wp_ownat rfl 36 _ _ rfl (o8 + i * 6 + 1) (i * 6 + 1) (by omega) rfl [.slice (some ⟨b4, o4, none⟩) its.length c4] _ rfl rfl hm9 sz_Vs (by rw [flat_len]; simp; omega) (one_one rfl) ?_; intro w9 hm10)
    rw [← hA8] at hm10
    have hz := Rf.put_its i hi t (some ⟨b4, o4, none⟩) c4 its _ hfs.out hm10
    go_wp2
    go_ret
    refine ⟨rfl, r.upd i (t.its (some ⟨b4, o4, none⟩) c4 its), rfl, by rw [Rf.upd_abs]; rfl, Rf.upd_ok hok.out i _ hsz, hz.drop2.drop2⟩
  · have hS : setS r.abs (K, N) j (X, Y) = r.abs := by
      unfold getT at hT
      unfold setS
      cases hob : r.abs.obAt (K, N) 6 with
      | none => rfl
      | some i =>
        rw [hob] at hT
        simp only at hT ⊢
        split at hT
        · exact absurd rfl hT
        · rename_i q; rw [if_neg q]
    rw [hS]
    clear hS
    generalize getT r.abs (K, N) j = tr at hT hget
    replace hget := Fact.mk hget
    go_enter Tryz.func31, Tryz.ntmps31
    go_upto_region 1 with (fail)
    have hm1 := ((hm.alloc (.cells [.int .i64 K, .int .i64 N].toArray 35)).alloc (.cells [.int .i64 X, .int .i64 Y].toArray 35))
    simp only [World.size_alloc] at hm1
    generalize hgb : w.heap.size = gb at hm1 ⊢
    generalize hw1 : ((w.alloc (.cells [.int .i64 K, .int .i64 N].toArray 35)).alloc (.cells [.int .i64 X, .int .i64 Y].toArray 35)) = w1 at hm1
    try refine wp_world hw1 ?_
    clear hw1 hgb
    go_wp2_with (refine wp_rng rfl 35 _ rfl gb 0 rfl (cV (K, N)) (rng_blk hm1 m1) row_V sz_V ?_)
    refine (hget.out w1 _ hm1.pull2).mono ?_
    rintro e w2 ⟨rfl, hm2⟩
    clear hm1
    go_upto_region 2 with (refine wp_setrow rfl 35 _ _ rfl w2.heap.size rfl 35 _ (cV gv) rfl (hm2.alloc _) sz_V rfl (cV_one gv) ?_; intro w3 hm3)
    replace hm3 := hm3.tail
    clear hm2
    go_wp2
    go_ret
    exact ⟨rfl, r, rfl, rfl, hok.out, hm3.drop2.drop2⟩
theorem refPush_ok (w0 w : World) (L : List Chunk) (r : Rf) (hm : Mem w0 w (RfC r :: L)) (hok : Fact r.Ok) (hg : Fact r.abs.Good) (K N X Y : Int) :
    Calls Tryz.prog 32 #[.pointer (some ⟨r.g, 0, none⟩), .agg #[.int .i64 K, .int .i64 N], .agg #[.int .i64 X, .int .i64 Y]] w fun e w' => e = .returned (.tuple #[.int .i64 (pushT r.abs (K, N)), .bool (pushB r.abs (K, N))]) ∧ RfQ w0 L r.g (pushS r.abs (K, N) (X, Y)) w' := by
  obtain ⟨iV, hiV, hz0, hz1, hz2⟩ := info_parts inf_V
  have his := fun (w1 : World) (L1 : List Chunk) (hm1 : Mem w0 w1 L1) (hh : RfC r ∈ L1) => refIs_ok w0 w1 L1 r hm1 hh hok hg K N 6
  unfold pushT pushB pushS
  cases hob : r.abs.obAt (K, N) 6 with
  | none =>
    rw [hob] at his
    simp only [Option.isSome] at his
    replace his := Fact.mk his
    go_enter Tryz.func32, Tryz.ntmps32
    go_upto_region 1 with (fail)
    have hm1 := ((hm.alloc (.cells [.int .i64 K, .int .i64 N].toArray 35)).alloc (.cells [.int .i64 X, .int .i64 Y].toArray 35))
    simp only [World.size_alloc] at hm1
    generalize hgb : w.heap.size = gb at hm1 ⊢
    generalize hw1 : ((w.alloc (.cells [.int .i64 K, .int .i64 N].toArray 35)).alloc (.cells [.int .i64 X, .int .i64 Y].toArray 35)) = w1 at hm1
    try refine wp_world hw1 ?_
    clear hw1 hgb
    go_wp2_with (refine wp_rng rfl 35 _ rfl gb 0 rfl (cV (K, N)) (rng_blk hm1 m1) row_V sz_V ?_)
    refine (his.out w1 _ hm1 m2).mono ?_
    rintro e w2 ⟨rfl, hg2⟩
    have hm2 := hm1.gr hg2
    clear hm1 hg2
    go_wp2
    go_ret2
    exact ⟨rfl, r, rfl, rfl, hok.out, hm2.tail.tail⟩
  | some i =>
    rw [hob] at his
    simp only [Option.isSome] at his
    replace his := Fact.mk his
    obtain ⟨hi, hN, hK, hkd⟩ := Hs.obAt_lt hob
    rw [r.abs_len] at hi
    simp only at hN hK
    subst hN
    clear hK hkd
    simp only [r.at_abs hi]
    have hsz := hok.out.each (r.xs.getD i ro0) (by rw [List.getD_eq_getElem?_getD, List.getElem?_eq_getElem hi]; exact List.getElem_mem hi)
    have hspend := fun (w1 : World) (L1 : List Chunk) (hm1 : Mem w0 w1 (RfC r :: L1)) => refSpend_ok w0 w1 L1 r hm1 hok 1
    obtain ⟨t, ht⟩ : ∃ t, r.xs.getD i ro0 = t := ⟨_, rfl⟩
    rw [ht] at hsz ⊢
    have hto : r.abs.objs.getD i ob0 = t.ob := by rw [r.at_abs hi, ht]
    have hri : i < r.abs.objs.length := by rw [r.abs_len]; exact hi
    replace ht := Fact.mk ht
    by_cases q0 : 4096 ≤ t.ob.items.length
    · have q0' : decide ((t.ob.items.length : Int) ≥ 4096) = true := decide_eq_true (by omega)
      rw [if_pos q0, if_pos q0, if_pos q0]
      go_enter Tryz.func32, Tryz.ntmps32
      go_upto_region 1 with (fail)
      have hm1 := ((hm.alloc (.cells [.int .i64 K, .int .i64 (i : Int)].toArray 35)).alloc (.cells [.int .i64 X, .int .i64 Y].toArray 35))
      simp only [World.size_alloc] at hm1
      generalize hgb : w.heap.size = gb at hm1 ⊢
      generalize hw1 : ((w.alloc (.cells [.int .i64 K, .int .i64 (i : Int)].toArray 35)).alloc (.cells [.int .i64 X, .int .i64 Y].toArray 35)) = w1 at hm1
      try refine wp_world hw1 ?_
      clear hw1 hgb
      go_wp2_with (refine wp_rng rfl 35 _ rfl gb 0 rfl (cV (K, (i : Int))) (rng_blk hm1 m1) row_V sz_V ?_)
      refine (his.out w1 _ hm1 m2).mono ?_
      rintro e w2 ⟨rfl, hg2⟩
      have hm2 := hm1.gr hg2
      clear hm1 hg2
      go_upto_region 3 with (fail)
      obtain ⟨_, _, c2, hobs⟩ := Rf.read hm2.drew m2
      obtain ⟨b, o, hA, hc, _, hrd⟩ := hobs.at i hi
      rw [hA] at c2
      have f1 : w2.drew.cell? ⟨b, o + i * 6 + 1, none⟩ = some (.slice (r.xs.getD i ro0).A (r.xs.getD i ro0).ob.items.length (r.xs.getD i ro0).c) := hc 1 _ rfl
      rw [ht.out] at f1 hrd
      have d1 := hm2.drew.cell m1 1 rfl
      refine wp_region_still_tail 9 (by kernel_rfl) (by kernel_rfl) ?_
      simp only [List.take_succ_cons, List.take_zero, List.drop_succ_cons, List.drop_zero]
      repeat still_step
      refine wpStill_nil ?_
      go_wp2_with fail
      refine (copyValues_ok w2.drew t.A t.ob.items.length t.c t.ob.items ⟨hrd.1⟩ (by omega)).mono ?_
      rintro e w4 ⟨A4, c4, rfl, hn4⟩
      have hm4 := hm2.drew.new hn4
      clear c2 f1 d1 hrd hc hobs hn4 hm2
      go_wp2
      go_ret2
      exact ⟨rfl, r, rfl, rfl, hok.out, hm4.tail.tail.tail⟩
    have q0' : decide ((t.ob.items.length : Int) ≥ 4096) = false := decide_eq_false (by omega)
    rw [if_neg q0, if_neg q0, if_neg q0]
    unfold Hs.spend at hspend
    cases hroom : r.abs.room 1 with
    | false =>
      rw [hroom] at hspend
      simp only at hspend
      replace hspend := Fact.mk hspend
      go_enter Tryz.func32, Tryz.ntmps32
      go_upto_region 1 with (fail)
      have hm1 := ((hm.alloc (.cells [.int .i64 K, .int .i64 (i : Int)].toArray 35)).alloc (.cells [.int .i64 X, .int .i64 Y].toArray 35))
      simp only [World.size_alloc] at hm1
      generalize hgb : w.heap.size = gb at hm1 ⊢
      generalize hw1 : ((w.alloc (.cells [.int .i64 K, .int .i64 (i : Int)].toArray 35)).alloc (.cells [.int .i64 X, .int .i64 Y].toArray 35)) = w1 at hm1
      try refine wp_world hw1 ?_
      clear hw1 hgb
      go_wp2_with (refine wp_rng rfl 35 _ rfl gb 0 rfl (cV (K, (i : Int))) (rng_blk hm1 m1) row_V sz_V ?_)
      refine (his.out w1 _ hm1 m2).mono ?_
      rintro e w2 ⟨rfl, hg2⟩
      have hm2 := hm1.gr hg2
      clear hm1 hg2
      go_upto_region 3 with (fail)
      obtain ⟨_, _, c2, hobs⟩ := Rf.read hm2.drew m2
      obtain ⟨b, o, hA, hc, _, hrd⟩ := hobs.at i hi
      rw [hA] at c2
      have f1 : w2.drew.cell? ⟨b, o + i * 6 + 1, none⟩ = some (.slice (r.xs.getD i ro0).A (r.xs.getD i ro0).ob.items.length (r.xs.getD i ro0).c) := hc 1 _ rfl
      rw [ht.out] at f1 hrd
      have d1 := hm2.drew.cell m1 1 rfl
      refine wp_region_still_tail 9 (by kernel_rfl) (by kernel_rfl) ?_
      simp only [List.take_succ_cons, List.take_zero, List.drop_succ_cons, List.drop_zero]
      repeat still_step
      refine wpStill_nil ?_
      go_wp2_with fail
      refine (copyValues_ok w2.drew t.A t.ob.items.length t.c t.ob.items ⟨hrd.1⟩ (by omega)).mono ?_
      rintro e w4 ⟨A4, c4, rfl, hn4⟩
      have hm4 := hm2.drew.new hn4
      clear c2 f1 d1 hrd hc hobs hn4 hm2
      go_wp2_with fail
      refine (hspend.out w4 _ hm4.pull3).mono ?_
      rintro e w5 ⟨rfl, r', hr1, hr2, hr3, hm5⟩
      clear hm4
      go_wp2
      go_ret2
      exact ⟨rfl, r', hr1, hr2, hr3, hm5.drop2.drop2.drop2⟩
    | true =>
      rw [hroom] at hspend
      simp only at hspend
      have hpl : (t.ob.items ++ [(X, Y)]).length = t.ob.items.length + 1 := by simp
      have hpf : fV (t.ob.items ++ [(X, Y)]) = fV t.ob.items ++ [.int .i64 X, .int .i64 Y] := by rw [fV_app]; rfl
      have hpo : Hs.put (r.abs.spend 1) i { t.ob with items := t.ob.items ++ [(X, Y)] } = Hs.put (r.abs.spend 1) i { t.ob with items := t.ob.items ++ [(X, Y)] } := rfl
      obtain ⟨its, hits⟩ : ∃ its, t.ob.items ++ [(X, Y)] = its := ⟨_, rfl⟩
      rw [hits] at hpl hpf ⊢
      replace hpl := Fact.mk hpl
      replace hpf := Fact.mk hpf
      replace hto := Fact.mk hto
      replace hspend := Fact.mk hspend
      replace hroom := Fact.mk hroom
      clear hpo hits
      go_enter Tryz.func32, Tryz.ntmps32
      go_upto_region 1 with (fail)
      have hm1 := ((hm.alloc (.cells [.int .i64 K, .int .i64 (i : Int)].toArray 35)).alloc (.cells [.int .i64 X, .int .i64 Y].toArray 35))
      simp only [World.size_alloc] at hm1
      generalize hgb : w.heap.size = gb at hm1 ⊢
      generalize hw1 : ((w.alloc (.cells [.int .i64 K, .int .i64 (i : Int)].toArray 35)).alloc (.cells [.int .i64 X, .int .i64 Y].toArray 35)) = w1 at hm1
      try refine wp_world hw1 ?_
      clear hw1 hgb
      go_wp2_with (refine wp_rng rfl 35 _ rfl gb 0 rfl (cV (K, (i : Int))) (rng_blk hm1 m1) row_V sz_V ?_)
      refine (his.out w1 _ hm1 m2).mono ?_
      rintro e w2 ⟨rfl, hg2⟩
      have hm2 := hm1.gr hg2
      clear hm1 hg2
      go_upto_region 3 with (fail)
      obtain ⟨_, _, c2, hobs⟩ := Rf.read hm2.drew m2
      obtain ⟨b, o, hA, hc, _, hrd⟩ := hobs.at i hi
      rw [hA] at c2
      have f1 : w2.drew.cell? ⟨b, o + i * 6 + 1, none⟩ = some (.slice (r.xs.getD i ro0).A (r.xs.getD i ro0).ob.items.length (r.xs.getD i ro0).c) := hc 1 _ rfl
      rw [ht.out] at f1 hrd
      have d1 := hm2.drew.cell m1 1 rfl
      refine wp_region_still_tail 9 (by kernel_rfl) (by kernel_rfl) ?_
      simp only [List.take_succ_cons, List.take_zero, List.drop_succ_cons, List.drop_zero]
      repeat still_step
      refine wpStill_nil ?_
      go_wp2_with fail
      refine (copyValues_ok w2.drew t.A t.ob.items.length t.c t.ob.items ⟨hrd.1⟩ (by omega)).mono ?_
      rintro e w4 ⟨A4, c4, rfl, hn4⟩
      have hm4 := hm2.drew.new hn4
      clear c2 f1 d1 hrd hc hobs hn4 hm2
      go_wp2_with fail
      refine (hspend.out w4 _ hm4.pull3).mono ?_
      rintro e w5 ⟨rfl, r', hr1, hr2, hr3, hm5⟩
      clear hm4
      have hi' : i < r'.xs.length := by rw [← r'.abs_len, hr2]; exact hri
      obtain ⟨t', ht'⟩ : ∃ t', r'.xs.getD i ro0 = t' := ⟨_, rfl⟩
      have hto' : t'.ob = t.ob := by rw [← ht', ← r'.at_abs hi', hr2]; exact hto.out
      replace hr1 := Fact.mk hr1
      replace hr2 := Fact.mk hr2
      replace hr3 := Fact.mk hr3
      replace ht' := Fact.mk ht'
      replace hto' := Fact.mk hto'
      have x0 := hm5.cell m2 0 rfl
      have x1 := hm5.cell m2 1 rfl
      replace hm5 := hm5.swap
      go_upto_region 9 with (first | (refine wp_rng rfl 35 _ rfl (gb + 1) 0 rfl [.int .i64 X, .int .i64 Y] (rng_blk hm5 m2) row_V sz_V ?_) | (at_builtin; refine wp_app rfl _ _ _ rfl 35 iV _ 2 16 ty_Vs hiV hz0 hz1 hz2 rfl A4 t.ob.items.length c4 _ rfl (hm5.alloc _).swap _ 1 1 [.int .i64 X, .int .i64 Y] rfl (RdC.lit _ _ _ _ _ rfl (by simp [maxLen]) (cV_one (X, Y))) (by unfold maxLen; omega) (by omega) ?_; intro A6 c6 w6 HM6))
      replace hm5 : Mem w0 w6 (Own 2 (.slice A6 its.length c6) (fV its) :: RfC r' :: Blk (gb + 1) (.cells [.int .i64 X, .int .i64 Y].toArray 35) :: Blk gb (.cells [.int .i64 K, .int .i64 (i : Int)].toArray 35) :: L) := by rw [hpl.out, hpf.out]; exact HM6.drop2
      clear HM6 x0 x1
      rw [← hpl.out]
      go_upto_region 9 with (fail)
      have hm8 := Rf.opn (hm5.swap.drew) i hi'
      rw [ht'.out] at hm8
      clear hm5
      have hA8 := OwnAt.addr (hm8.ok _ m1) (by have := OwnAt.cap (hm8.ok _ m1); omega)
      obtain ⟨b8, o8, hA8⟩ := hA8
      have c2 := hm8.cell m0 2 rfl
      rw [hA8] at c2
      rw [hr1.out] at c2
      have d1 := hm8.cell (.tail _ (.tail _ (.tail _ (List.mem_append_right _ (.tail _ (.tail _ (.head _))))))) 1 rfl
      refine wp_region_still_tail 7 (by kernel_rfl) (by kernel_rfl) ?_
      simp only [List.take_succ_cons, List.take_zero, List.drop_succ_cons, List.drop_zero]
      repeat still_step
      refine wpStill_nil ?_
      have hm9 := hm8.swap
      rw [hA8] at hm9
      clear hm8 c2 d1
      have hfs := flat_set r'.xs i hi' (t'.its A6 c6 its) 1 [.slice A6 its.length c6] (by simp) (by rw [ht'.out]; exact its_cells _ _ _ _)
      replace hfs := Fact.mk hfs
      go_upto_region 10 with (refine wp_ownat rfl 36 _ _ rfl (o8 + i * 6 + 1) (i * 6 + 1) (by omega) rfl [.slice A6 its.length c6] _ rfl rfl hm9 sz_Vs (by rw [flat_len]; simp; omega) (one_one rfl) ?_; intro w9 hm10)
      rw [← hA8] at hm10
      have hz := Rf.put_its i hi' t' A6 c6 its _ hfs.out hm10
      go_wp2
      go_ret2
      refine ⟨rfl, r'.upd i (t'.its A6 c6 its), hr1.out, by rw [Rf.upd_abs, hr2.out]; show Hs.put _ i { t'.ob with items := its } = _; rw [hto'.out]; unfold Hs.spend; rw [hroom.out], Rf.upd_ok hr3.out i _ (by show its.length ≤ _ ∧ t'.ob.keys.length ≤ _; rw [hto'.out, hpl.out]; omega), hz.drop2.drop2⟩
end Go.Proofs.YtpibchjkmaghnaaGreat
namespace Go.Mm
open Go.RowKit
/-- What lies behind the first n of a slice. -/
theorem slice_behind {P : Program} (T e : TypeId) (size : Nat) (hT : P.underlying T = some (.slice e)) (hs : (P.info? e).map (·.size) = some size) (b o r c n : Nat) (hn : n ≤ r) (hc : r ≤ c) :
    ∃ A2, (∀ W, (Instr.slice T (.slice (some ⟨b, o, none⟩) r c) (some (.int .i64 n)) none none).run P W = .ok (.slice A2 (r - n) (c - n)) W) ∧ ∀ W cs, RdC W size (.slice (some ⟨b, o, none⟩) r c) cs → RdC W size (.slice A2 (r - n) (c - n)) (cs.drop (n * size)) := by
  obtain ⟨inf, hi1, hi2⟩ : ∃ inf, P.info? e = some inf ∧ inf.size = size := by
    cases h : P.info? e with
    | none => rw [h] at hs; simp at hs
    | some inf => rw [h] at hs; exact ⟨inf, rfl, by simpa using hs⟩
  have hb : ∀ W k, (Instr.sliceBound (.int .i64 (n : Int)) r k).run P W = .ok n W := fun W k => by
    simp [run_sliceBound, (by omega : (n : Int) ≤ r)]
  by_cases hcn : c = n
  · refine ⟨some ⟨b, o, none⟩, fun W => ?_, fun W cs h => ?_⟩
    · simp [Instr.slice, run_underlying hT, Instr.sliceBounds, hb, sizeOf, typeInfo, hi1, hi2, hcn]
    · have hl := h.len
      have hrn : r = n := by omega
      subst hrn
      rw [List.drop_eq_nil_of_le (by omega), Nat.sub_self]
      exact RdC.empty _ _ _ _ (by obtain ⟨_, _, _, e, _, _, h3, _⟩ := h; cases e; omega)
  · refine ⟨some ⟨b, o + n * size, none⟩, fun W => ?_, fun W cs h => ?_⟩
    · simp [Instr.slice, run_underlying hT, Instr.sliceBounds, hb, sizeOf, typeInfo, hi1, hi2, hcn, Addr.add]
    · exact h.behind n hn
end Go.Mm
namespace Go.Proofs.YtpibchjkmaghnaaGreat
open Go.RowKit Go.Mm
set_option maxHeartbeats 4000000
set_option maxRecDepth 100000
set_option linter.unusedSimpArgs false
theorem Rf.readX {w0 W : World} {L : List Chunk} {r : Rf} {i : Nat} {t : RO} {b o : Nat} (hm : Mem w0 W L) (hh : RfC r ∈ L) (hi : i < r.xs.length) (ht : r.xs.getD i ro0 = t) (hA : r.A = some ⟨b, o, none⟩) :
    W.cell? ⟨r.g, 2, none⟩ = some (.slice (some ⟨b, o, none⟩) r.xs.length r.c) ∧ W.rangeAt b (o + i * 6) (cRO t) ∧ t.reads W := by
  obtain ⟨_, _, c2, hobs⟩ := Rf.read hm hh
  obtain ⟨b2, o2, hA2, hc, _, hrd⟩ := hobs.at i hi
  rw [hA] at hA2
  cases hA2
  rw [hA] at c2
  rw [ht] at hc hrd
  exact ⟨c2, hc, hrd⟩
theorem nm_good {s : Hs} (hg : s.Good) {v : V2} {i : Nat} (h : nm s.objs v = some i) : nmB s.objs v = true ∧ i < s.objs.length ∧ v.2 = i ∧ (s.objs.getD i ob0).kind = v.1 := by
  unfold nmB
  rw [h]
  unfold nm at h
  split at h
  · rename_i q
    cases h
    obtain ⟨q0, q1, q2⟩ := q
    have hk := (hg (s.objs.getD v.2.toNat ob0) (by rw [List.getD_eq_getElem?_getD, List.getElem?_eq_getElem (by omega)]; exact List.getElem_mem _)).kind
    rw [q2] at hk
    refine ⟨?_, by omega, by omega, q2⟩
    rw [decide_eq_true (by omega), decide_eq_true (by omega)]
    rfl
  · cases h
theorem refSize_ok (w0 w : World) (L : List Chunk) (r : Rf) (hm : Mem w0 w (RfC r :: L)) (hok : Fact r.Ok) (hg : Fact r.abs.Good) (K N : Int) :
    Calls Tryz.prog 33 #[.pointer (some ⟨r.g, 0, none⟩), .agg #[.int .i64 K, .int .i64 N]] w fun e w' => e = .returned (.tuple #[.int .i64 (sizeN r.abs (K, N)), .int .i64 (sizeT r.abs (K, N))]) ∧ Mem w0 w' (RfC r :: L) := by
  have hxl := hok.out.size
  by_cases q8 : K = 8
  · have hz : sizeN r.abs (K, N) = 0 ∧ sizeT r.abs (K, N) = 1 := by
      unfold sizeN sizeT
      cases hn : nm r.abs.objs (K, N) with
      | none => exact ⟨rfl, rfl⟩
      | some i =>
        have := (nm_good hg.out hn).2.2.2
        simp only
        rw [if_pos (by rw [this]; exact q8), if_pos (by rw [this]; exact q8)]
        exact ⟨rfl, rfl⟩
    rw [hz.1, hz.2]
    subst q8
    clear hz
    go_enter Tryz.func33, Tryz.ntmps33
    go_upto_region 1 with (fail)
    have hm1 := (hm.alloc (.cells [.int .i64 8, .int .i64 N].toArray 35))
    generalize hgb : w.heap.size = gb at hm1 ⊢
    generalize hw1 : (w.alloc (.cells [.int .i64 8, .int .i64 N].toArray 35)) = w1 at hm1
    try refine wp_world hw1 ?_
    clear hw1 hgb
    have d0 := hm1.drew.cell m0 0 rfl
    have d1 := hm1.drew.cell m0 1 rfl
    refine wp_region_still_tail 9 (by kernel_rfl) (by kernel_rfl) ?_
    simp only [List.take_succ_cons, List.take_zero, List.drop_succ_cons, List.drop_zero]
    repeat still_step
    refine wpStill_nil ?_
    go_wp2
    go_ret2
    exact ⟨rfl, hm1.drew.tail⟩
  have q8' : decide (K = 8) = false := decide_eq_false q8
  unfold sizeN sizeT
  cases hn : nm r.abs.objs (K, N) with
  | none =>
    have hb : nmB r.abs.objs (K, N) = false := by unfold nmB; rw [hn]; simp
    have hnames := fun (w1 : World) (L1 : List Chunk) (hm1 : Mem w0 w1 L1) (hh : RfC r ∈ L1) => refNames_ok w1 r.A r.xs.length r.c r.xs ⟨(Rf.read hm1 hh).2.2.2⟩ hxl K N
    rw [show r.xs.map (·.ob) = r.abs.objs from rfl, hb] at hnames
    replace hnames := Fact.mk hnames
    clear hb hn
    go_enter Tryz.func33, Tryz.ntmps33
    go_upto_region 1 with (fail)
    have hm1 := (hm.alloc (.cells [.int .i64 K, .int .i64 N].toArray 35))
    generalize hgb : w.heap.size = gb at hm1 ⊢
    generalize hw1 : (w.alloc (.cells [.int .i64 K, .int .i64 N].toArray 35)) = w1 at hm1
    try refine wp_world hw1 ?_
    clear hw1 hgb
    have hm2 := hm1.drew
    clear hm1
    have d0 := hm2.cell m0 0 rfl
    have d1 := hm2.cell m0 1 rfl
    obtain ⟨_, _, c2, _⟩ := Rf.read hm2 m1
    refine wp_region_still_tail 9 (by kernel_rfl) (by kernel_rfl) ?_
    simp only [List.take_succ_cons, List.take_zero, List.drop_succ_cons, List.drop_zero]
    repeat still_step
    refine wpStill_nil ?_
    go_wp2_with fail
    refine (hnames.out _ _ hm2 m1).mono ?_
    rintro e w3 ⟨rfl, hg3⟩
    have hm3 := hm2.gr hg3
    clear c2 d0 d1 hm2
    go_wp2
    go_ret2
    exact ⟨rfl, hm3.tail⟩
  | some i =>
    obtain ⟨hb, hi, hN, hkd⟩ := nm_good hg.out hn
    have hnames := fun (w1 : World) (L1 : List Chunk) (hm1 : Mem w0 w1 L1) (hh : RfC r ∈ L1) => refNames_ok w1 r.A r.xs.length r.c r.xs ⟨(Rf.read hm1 hh).2.2.2⟩ hxl K N
    rw [show r.xs.map (·.ob) = r.abs.objs from rfl, hb] at hnames
    simp only
    rw [if_neg (by rw [hkd]; exact q8), if_neg (by rw [hkd]; exact q8)]
    rw [r.abs_len] at hi
    simp only at hN
    subst hN
    rw [r.at_abs hi]
    clear hb hn hkd
    obtain ⟨t, ht⟩ : ∃ t, r.xs.getD i ro0 = t := ⟨_, rfl⟩
    rw [ht]
    replace ht := Fact.mk ht
    replace hnames := Fact.mk hnames
    go_enter Tryz.func33, Tryz.ntmps33
    go_upto_region 1 with (fail)
    have hm1 := (hm.alloc (.cells [.int .i64 K, .int .i64 (i : Int)].toArray 35))
    generalize hgb : w.heap.size = gb at hm1 ⊢
    generalize hw1 : (w.alloc (.cells [.int .i64 K, .int .i64 (i : Int)].toArray 35)) = w1 at hm1
    try refine wp_world hw1 ?_
    clear hw1 hgb
    have hm2 := hm1.drew
    clear hm1
    have d0 := hm2.cell m0 0 rfl
    have d1 := hm2.cell m0 1 rfl
    obtain ⟨_, _, c2, _⟩ := Rf.read hm2 m1
    refine wp_region_still_tail 9 (by kernel_rfl) (by kernel_rfl) ?_
    simp only [List.take_succ_cons, List.take_zero, List.drop_succ_cons, List.drop_zero]
    repeat still_step
    refine wpStill_nil ?_
    go_wp2_with fail
    refine (hnames.out _ _ hm2 m1).mono ?_
    rintro e w3 ⟨rfl, hg3⟩
    have hm3 := hm2.gr hg3
    clear c2 d0 d1 hm2
    go_upto_region 3 with (fail)
    obtain ⟨_, _, c2, hobs⟩ := Rf.read hm3 m1
    obtain ⟨b, o, hA, hc, _, hrd⟩ := hobs.at i hi
    rw [hA] at c2
    have f1 : w3.cell? ⟨b, o + i * 6 + 1, none⟩ = some (.slice (r.xs.getD i ro0).A (r.xs.getD i ro0).ob.items.length (r.xs.getD i ro0).c) := hc 1 _ rfl
    rw [ht.out] at f1
    have d1 := hm3.cell m0 1 rfl
    clear hc hobs hrd
    go_quiet (fail)
    have hm4 := hm3.drewN nq
    clear c2 f1 d1 hm3
    generalize w3.drewN nq = w4 at hm4 ⊢
    go_wp2
    go_ret2
    exact ⟨rfl, hm4.tail⟩
theorem refShut_ok (w0 w : World) (L : List Chunk) (r : Rf) (hm : Mem w0 w (RfC r :: L)) (hok : Fact r.Ok) (hg : Fact r.abs.Good) (K N : Int) :
    Calls Tryz.prog 64 #[.pointer (some ⟨r.g, 0, none⟩), .agg #[.int .i64 K, .int .i64 N]] w fun e w' => e = .returned (.int .i64 (shutT r.abs (K, N))) ∧ RfQ w0 L r.g (shutS r.abs (K, N)) w' := by
  have his := fun (w1 : World) (L1 : List Chunk) (hm1 : Mem w0 w1 L1) (hh : RfC r ∈ L1) => refIs_ok w0 w1 L1 r hm1 hh hok hg K N 9
  unfold shutT shutS
  cases hob : r.abs.obAt (K, N) 9 with
  | none =>
    rw [hob] at his
    simp only [Option.isSome] at his
    replace his := Fact.mk his
    go_enter Tryz.func64, Tryz.ntmps64
    go_upto_region 1 with (fail)
    have hm1 := (hm.alloc (.cells [.int .i64 K, .int .i64 N].toArray 35))
    generalize hgb : w.heap.size = gb at hm1 ⊢
    generalize hw1 : (w.alloc (.cells [.int .i64 K, .int .i64 N].toArray 35)) = w1 at hm1
    try refine wp_world hw1 ?_
    clear hw1 hgb
    go_wp2_with (refine wp_rng rfl 35 _ rfl gb 0 rfl (cV (K, N)) (rng_blk hm1 m0) row_V sz_V ?_)
    refine (his.out w1 _ hm1 m1).mono ?_
    rintro e w2 ⟨rfl, hg2⟩
    have hm2 := hm1.gr hg2
    clear hm1 hg2
    go_wp2
    go_ret
    exact ⟨rfl, r, rfl, rfl, hok.out, hm2.tail⟩
  | some i =>
    rw [hob] at his
    simp only [Option.isSome] at his
    replace his := Fact.mk his
    have hkd9 := (Hs.obAt_lt hob).2.2.2
    obtain ⟨hi, hN, hK, hkd⟩ := Hs.obAt_lt hob
    rw [r.abs_len] at hi
    simp only at hN hK
    subst hN
    clear hK hkd
    simp only [r.at_abs hi]
    have hsz := hok.out.each (r.xs.getD i ro0) (by rw [List.getD_eq_getElem?_getD, List.getElem?_eq_getElem hi]; exact List.getElem_mem hi)
    obtain ⟨t, ht⟩ : ∃ t, r.xs.getD i ro0 = t := ⟨_, rfl⟩
    have hto : r.abs.objs.getD i ob0 = t.ob := by rw [r.at_abs hi, ht]
    rw [ht] at hsz ⊢
    replace ht := Fact.mk ht
    replace hto := Fact.mk hto
    unfold shutR
    cases hsh : t.ob.shut with
    | true =>
      have hp : r.abs.put i { t.ob with shut := true } = r.abs := by
        have e : ({ t.ob with shut := true } : Ob) = t.ob := by rw [← hsh]
        rw [e, ← hto.out]
        exact Hs.put_self _ _
      rw [hp]
      clear hp
      go_enter Tryz.func64, Tryz.ntmps64
      go_upto_region 1 with (fail)
      have hm1 := (hm.alloc (.cells [.int .i64 K, .int .i64 (i : Int)].toArray 35))
      generalize hgb : w.heap.size = gb at hm1 ⊢
      generalize hw1 : (w.alloc (.cells [.int .i64 K, .int .i64 (i : Int)].toArray 35)) = w1 at hm1
      try refine wp_world hw1 ?_
      clear hw1 hgb
      go_wp2_with (refine wp_rng rfl 35 _ rfl gb 0 rfl (cV (K, (i : Int))) (rng_blk hm1 m0) row_V sz_V ?_)
      refine (his.out w1 _ hm1 m1).mono ?_
      rintro e w2 ⟨rfl, hg2⟩
      have hm2 := hm1.gr hg2
      clear hm1 hg2
      go_upto_region 3 with (fail)
      obtain ⟨_, _, c2, hobs⟩ := Rf.read hm2 m1
      obtain ⟨b, o, hA, hc, _, hrd⟩ := hobs.at i hi
      rw [hA] at c2
      have f5 : w2.cell? ⟨b, o + i * 6 + 5, none⟩ = some (.bool (r.xs.getD i ro0).ob.shut) := hc 5 _ rfl
      rw [ht.out] at f5
      have d1 := hm2.cell m0 1 rfl
      clear hc hobs hrd
      rw [hsh] at f5
      go_quiet (fail)
      have hm4 := hm2.drewN nq
      clear c2 f5 d1 hm2
      generalize w2.drewN nq = w4 at hm4 ⊢
      go_wp2
      go_ret
      exact ⟨rfl, r, rfl, rfl, hok.out, hm4.tail⟩
    | false =>
      obtain ⟨t', ht'⟩ : ∃ t' : RO, t' = { t with ob := { t.ob with shut := true } } := ⟨_, rfl⟩
      have hRo : RoC t = RoC t' := by rw [ht']; rfl
      have hcells : cRO t' = (cRO t).take 5 ++ [.bool true] ++ (cRO t).drop 6 := by rw [ht']; rfl
      have hto' : t'.ob = { t.ob with shut := true } := by rw [ht']
      rw [← hto']
      have hsz' : t'.ob.items.length ≤ 1048576 ∧ t'.ob.keys.length ≤ 1048576 := by rw [hto']; exact hsz
      replace hRo := Fact.mk hRo
      replace hcells := Fact.mk hcells
      clear ht' hto'
      go_enter Tryz.func64, Tryz.ntmps64
      go_upto_region 1 with (fail)
      have hm1 := (hm.alloc (.cells [.int .i64 K, .int .i64 (i : Int)].toArray 35))
      generalize hgb : w.heap.size = gb at hm1 ⊢
      generalize hw1 : (w.alloc (.cells [.int .i64 K, .int .i64 (i : Int)].toArray 35)) = w1 at hm1
      try refine wp_world hw1 ?_
      clear hw1 hgb
      go_wp2_with (refine wp_rng rfl 35 _ rfl gb 0 rfl (cV (K, (i : Int))) (rng_blk hm1 m0) row_V sz_V ?_)
      refine (his.out w1 _ hm1 m1).mono ?_
      rintro e w2 ⟨rfl, hg2⟩
      have hm2 := hm1.gr hg2
      clear hm1 hg2
      go_upto_region 3 with (fail)
      obtain ⟨_, _, c2, hobs⟩ := Rf.read hm2 m1
      obtain ⟨b, o, hA, hc, _, hrd⟩ := hobs.at i hi
      rw [hA] at c2
      have f5 : w2.cell? ⟨b, o + i * 6 + 5, none⟩ = some (.bool (r.xs.getD i ro0).ob.shut) := hc 5 _ rfl
      rw [ht.out] at f5
      have d1 := hm2.cell m0 1 rfl
      clear hc hobs hrd
      rw [hsh] at f5
      go_quiet (fail)
      have hm4 := hm2.drewN nq
      clear c2 f5 d1 hm2
      generalize w2.drewN nq = w4 at hm4 ⊢
      go_upto_region 5 with (fail)
      have hm8 := Rf.opn (hm4.swap.drew) i hi
      rw [ht.out] at hm8
      clear hm4
      obtain ⟨b8, o8, hA8⟩ := OwnAt.addr (hm8.ok _ m1) (by have := OwnAt.cap (hm8.ok _ m1); omega)
      have c2 := hm8.cell m0 2 rfl
      rw [hA8] at c2
      have d1 := hm8.cell (.tail _ (.tail _ (.tail _ (List.mem_append_right _ (.head _))))) 1 rfl
      refine wp_region_still_tail 6 (by kernel_rfl) (by kernel_rfl) ?_
      simp only [List.take_succ_cons, List.take_zero, List.drop_succ_cons, List.drop_zero]
      repeat still_step
      refine wpStill_nil ?_
      have hm9 := hm8.swap
      rw [hA8] at hm9
      clear hm8 c2 d1
      have hfs := flat_set r.xs i hi t' 5 [.bool true] (by simp) (by rw [ht.out]; exact hcells.out)
      replace hfs := Fact.mk hfs
      go_upto_region 6 with (refine wp_ownat rfl 4 _ _ rfl (o8 + i * 6 + 5) (i * 6 + 5) (by omega) rfl [.bool true] _ rfl rfl hm9 sz_bool (by rw [flat_len]; simp; omega) (one_one rfl) ?_; intro w9 hm10)
      rw [← hA8] at hm10
      replace hm10 := hm10.swap
      simp only [List.length_singleton] at hm10
      rw [show ([.bool true] : List Value).length = 1 from rfl] at hfs
      rw [hfs.out, hRo.out] at hm10
      have hz := Rf.cls i hi t' hm10
      go_wp2
      go_ret
      exact ⟨rfl, r.upd i t', rfl, by rw [Rf.upd_abs], Rf.upd_ok hok.out i t' hsz', hz.drop2⟩
theorem refSend_ok (w0 w : World) (L : List Chunk) (r : Rf) (hm : Mem w0 w (RfC r :: L)) (hok : Fact r.Ok) (hg : Fact r.abs.Good) (K N X Y : Int) :
    Calls Tryz.prog 62 #[.pointer (some ⟨r.g, 0, none⟩), .agg #[.int .i64 K, .int .i64 N], .agg #[.int .i64 X, .int .i64 Y]] w fun e w' => e = .returned (.tuple #[.bool (sendB r.abs (K, N)), .int .i64 (sendT r.abs (K, N))]) ∧ RfQ w0 L r.g (sendS r.abs (K, N) (X, Y)) w' := by
  obtain ⟨iV, hiV, hz0, hz1, hz2⟩ := info_parts inf_V
  have his := fun (w1 : World) (L1 : List Chunk) (hm1 : Mem w0 w1 L1) (hh : RfC r ∈ L1) => refIs_ok w0 w1 L1 r hm1 hh hok hg K N 9
  unfold sendB sendT sendS
  cases hob : r.abs.obAt (K, N) 9 with
  | none =>
    rw [hob] at his
    simp only [Option.isSome] at his
    replace his := Fact.mk his
    go_enter Tryz.func62, Tryz.ntmps62
    go_upto_region 1 with (fail)
    have hm1 := ((hm.alloc (.cells [.int .i64 K, .int .i64 N].toArray 35)).alloc (.cells [.int .i64 X, .int .i64 Y].toArray 35))
    simp only [World.size_alloc] at hm1
    generalize hgb : w.heap.size = gb at hm1 ⊢
    generalize hw1 : ((w.alloc (.cells [.int .i64 K, .int .i64 N].toArray 35)).alloc (.cells [.int .i64 X, .int .i64 Y].toArray 35)) = w1 at hm1
    try refine wp_world hw1 ?_
    clear hw1 hgb
    go_wp2_with (refine wp_rng rfl 35 _ rfl gb 0 rfl (cV (K, N)) (rng_blk hm1 m1) row_V sz_V ?_)
    refine (his.out w1 _ hm1 m2).mono ?_
    rintro e w2 ⟨rfl, hg2⟩
    have hm2 := hm1.gr hg2
    clear hm1 hg2
    go_wp2
    go_ret2
    exact ⟨rfl, r, rfl, rfl, hok.out, hm2.tail.tail⟩
  | some i =>
    rw [hob] at his
    simp only [Option.isSome] at his
    replace his := Fact.mk his
    have hkd9 := (Hs.obAt_lt hob).2.2.2
    obtain ⟨hi, hN, hK, hkd⟩ := Hs.obAt_lt hob
    rw [r.abs_len] at hi
    simp only at hN hK
    subst hN
    clear hK hkd
    simp only [r.at_abs hi]
    have hsz := hok.out.each (r.xs.getD i ro0) (by rw [List.getD_eq_getElem?_getD, List.getElem?_eq_getElem hi]; exact List.getElem_mem hi)
    obtain ⟨t, ht⟩ : ∃ t, r.xs.getD i ro0 = t := ⟨_, rfl⟩
    have hto : r.abs.objs.getD i ob0 = t.ob := by rw [r.at_abs hi, ht]
    rw [ht] at hsz ⊢
    replace ht := Fact.mk ht
    replace hto := Fact.mk hto
    have hself : r.abs.put i { t.ob with items := t.ob.items } = r.abs := by
      rw [← hto.out]
      exact Hs.put_self _ _
    by_cases hsh : t.ob.shut = true
    · have hsO : sendO t.ob (X, Y) = t.ob.items := by unfold sendO; rw [hsh]; rfl
      rw [hsO, hself, if_pos hsh, if_pos hsh]
      clear hself hsO
      replace hsh := Fact.mk hsh
      go_enter Tryz.func62, Tryz.ntmps62
      go_upto_region 1 with (fail)
      have hm1 := ((hm.alloc (.cells [.int .i64 K, .int .i64 (i : Int)].toArray 35)).alloc (.cells [.int .i64 X, .int .i64 Y].toArray 35))
      simp only [World.size_alloc] at hm1
      generalize hgb : w.heap.size = gb at hm1 ⊢
      generalize hw1 : ((w.alloc (.cells [.int .i64 K, .int .i64 (i : Int)].toArray 35)).alloc (.cells [.int .i64 X, .int .i64 Y].toArray 35)) = w1 at hm1
      try refine wp_world hw1 ?_
      clear hw1 hgb
      go_wp2_with (refine wp_rng rfl 35 _ rfl gb 0 rfl (cV (K, (i : Int))) (rng_blk hm1 m1) row_V sz_V ?_)
      refine (his.out w1 _ hm1 m2).mono ?_
      rintro e w2 ⟨rfl, hg2⟩
      have hm2 := hm1.gr hg2
      clear hm1 hg2
      go_upto_region 3 with (fail)
      obtain ⟨b, o, hA⟩ : ∃ b o, r.A = some ⟨b, o, none⟩ := by
        obtain ⟨_, _, _, hobs⟩ := Rf.read hm2 m2
        obtain ⟨b, o, hA, _⟩ := hobs.at i hi
        exact ⟨b, o, hA⟩
      go_cut [8] (fun s8 W => ∃ (g8 : Nat) (y : RO), s8 = .pointer (some ⟨g8, 0, none⟩) ∧ y.ob = t.ob ∧ Mem w0 W (Blk g8 (.cells (cRO y).toArray 41) :: RoC y :: Blk (gb + 1) (.cells [.int .i64 X, .int .i64 Y].toArray 35) :: Blk gb (.cells [.int .i64 K, .int .i64 (i : Int)].toArray 35) :: RfC r :: L))
      case first =>
        have hm3 := hm2.drew
        have hS : w2.drew.cell? ⟨r.g, 2, none⟩ = some (.slice (some ⟨b, o, none⟩) r.xs.length r.c) ∧ w2.drew.cell? ⟨gb, 1, none⟩ = some (.int .i64 (i : Int)) ∧ w2.drew.rangeAt b (o + i * 6) (cRO t) := ⟨(Rf.readX hm3 m2 hi ht.out hA).1, hm3.cell m1 1 rfl, (Rf.readX hm3 m2 hi ht.out hA).2.1⟩
        refine wp_region_until (S := fun W => W.cell? ⟨r.g, 2, none⟩ = some (.slice (some ⟨b, o, none⟩) r.xs.length r.c) ∧ W.cell? ⟨gb, 1, none⟩ = some (.int .i64 (i : Int)) ∧ W.rangeAt b (o + i * 6) (cRO t)) 10 (by kernel_rfl) ?_
        generalize w2.drew = w3 at hm3 hS ⊢
        refine wpAnyU_take 0 (v := ?vsa1x0) rfl (by kernel_rfl) (by kernel_rfl) (fun _ _ _ h => h) hS (Or.inl ⟨rfl, ?ysa1x0⟩) ?rsa1x0
        case ysa1x0 =>
          intro W hW
          obtain ⟨hW0, hW1, hW2⟩ := hW
          go_simp
          try with_reducible rfl
        try simp only [Act.put, List.getElem_toArray, List.getElem_cons_succ, List.getElem_cons_zero, List.setIfInBounds_toArray, List.set_cons_zero, List.set_cons_succ]
        refine wpAnyU_take 1 (v := ?vsa1x1) rfl (by kernel_rfl) (by kernel_rfl) (fun _ _ _ h => h) hS (Or.inl ⟨rfl, ?ysa1x1⟩) ?rsa1x1
        case ysa1x1 =>
          intro W hW
          obtain ⟨hW0, hW1, hW2⟩ := hW
          go_simp
          try with_reducible rfl
        try simp only [Act.put, List.getElem_toArray, List.getElem_cons_succ, List.getElem_cons_zero, List.setIfInBounds_toArray, List.set_cons_zero, List.set_cons_succ]
        refine wpAnyU_take 2 (v := ?vsa1x2) rfl (by kernel_rfl) (by kernel_rfl) (fun _ _ _ h => h) hS (Or.inl ⟨rfl, ?ysa1x2⟩) ?rsa1x2
        case ysa1x2 =>
          intro W hW
          obtain ⟨hW0, hW1, hW2⟩ := hW
          go_simp
          try with_reducible rfl
        try simp only [Act.put, List.getElem_toArray, List.getElem_cons_succ, List.getElem_cons_zero, List.setIfInBounds_toArray, List.set_cons_zero, List.set_cons_succ]
        refine wpAnyU_take 3 (v := ?vsa1x3) rfl (by kernel_rfl) (by kernel_rfl) (fun _ _ _ h => h) hS (Or.inl ⟨rfl, ?ysa1x3⟩) ?rsa1x3
        case ysa1x3 =>
          intro W hW
          obtain ⟨hW0, hW1, hW2⟩ := hW
          go_simp
          try with_reducible rfl
        try simp only [Act.put, List.getElem_toArray, List.getElem_cons_succ, List.getElem_cons_zero, List.setIfInBounds_toArray, List.set_cons_zero, List.set_cons_succ]
        refine wpAnyU_take 4 (v := ?vsa1x4) rfl (by kernel_rfl) (by kernel_rfl) (fun _ _ _ h => h) hS (Or.inl ⟨rfl, ?ysa1x4⟩) ?rsa1x4
        case ysa1x4 =>
          intro W hW
          obtain ⟨hW0, hW1, hW2⟩ := hW
          go_simp
          try with_reducible rfl
        try simp only [Act.put, List.getElem_toArray, List.getElem_cons_succ, List.getElem_cons_zero, List.setIfInBounds_toArray, List.set_cons_zero, List.set_cons_succ]
        refine wpAnyU_take 5 (v := ?vsa1x5) rfl (by kernel_rfl) (by kernel_rfl) (fun _ _ _ h => h) hS (Or.inl ⟨rfl, ?ysa1x5⟩) ?rsa1x5
        case ysa1x5 =>
          intro W hW
          obtain ⟨hW0, hW1, hW2⟩ := hW
          go_simp
          try with_reducible rfl
        try simp only [Act.put, List.getElem_toArray, List.getElem_cons_succ, List.getElem_cons_zero, List.setIfInBounds_toArray, List.set_cons_zero, List.set_cons_succ]
        refine wpAnyU_take 6 (v := ?vsa1x6) rfl (by kernel_rfl) (by kernel_rfl) (fun _ _ _ h => h) hS (Or.inl ⟨rfl, ?ysa1x6⟩) ?rsa1x6
        case ysa1x6 =>
          intro W hW
          obtain ⟨hW0, hW1, hW2⟩ := hW
          go_simp
          try with_reducible rfl
        try simp only [Act.put, List.getElem_toArray, List.getElem_cons_succ, List.getElem_cons_zero, List.setIfInBounds_toArray, List.set_cons_zero, List.set_cons_succ]
        refine wpAnyU_take 7 (v := .agg (cRO t).toArray) rfl (by kernel_rfl) (by kernel_rfl) (fun _ _ _ h => h) hS (Or.inl ⟨rfl, ?ysa1xz⟩) ?rsa1xz
        case ysa1xz =>
          intro W hW
          exact run_rng 41 _ rfl b (o + i * 6) rfl (cRO t) hW.2.2 row_O sz_O
        try simp only [Act.put, List.getElem_toArray, List.getElem_cons_succ, List.getElem_cons_zero, List.setIfInBounds_toArray, List.set_cons_zero, List.set_cons_succ]
        refine wpAnyU_two 8 9 (by kernel_rfl) rfl rfl (fun K hK => ?_) (fun K hK => ?_)
        · refine step_call rfl 44 Tryz.f44 Tryz.func44 (by kernel_rfl) (by kernel_rfl) _ _ rfl #[.agg (cRO t).toArray] (by simp [Act.eval]) ?_
          refine (copyObject_ok w0 _ _ hm3 t ⟨(Rf.readX hm3 m2 hi ht.out hA).2.2⟩ (by omega) (by omega)).mono ?_
          rintro e wk ⟨y, rfl, hy, hm4⟩
          refine ⟨_, rfl, ?_⟩
          replace hy := Fact.mk hy
          refine hK _ _ (fun _ => ⟨(Rf.readX hm4 m3 hi ht.out hA).1, hm4.cell m2 1 rfl, (Rf.readX hm4 m3 hi ht.out hA).2.1⟩) ?_
          clear hK K
          try simp only [Act.put, List.getElem_toArray, List.getElem_cons_succ, List.getElem_cons_zero, List.setIfInBounds_toArray, List.set_cons_zero, List.set_cons_succ]
          refine wpAnyU_one 9 (by kernel_rfl) rfl (fun K hK => ?_)
          go_simp
          have hm5 := hm4.alloc (.cells (obC 0 none 0 0 none 0 0 0 0 false).toArray 41)
          refine hK _ _ (fun _ => ⟨(Rf.readX hm5 m4 hi ht.out hA).1, hm5.cell m3 1 rfl, (Rf.readX hm5 m4 hi ht.out hA).2.1⟩) ?_
          clear hK K
          try simp only [Act.put, List.getElem_toArray, List.getElem_cons_succ, List.getElem_cons_zero, List.setIfInBounds_toArray, List.set_cons_zero, List.set_cons_succ]
          refine wpAnyU_one 10 (by kernel_rfl) rfl (fun K hK => ?_)
          refine step_setrow rfl 41 _ _ rfl _ rfl 41 _ (cRO y) rfl hm5 sz_O rfl (cRO_one y) ?_
          intro w9 hm9
          refine hK _ _ (fun h => absurd h (by decide)) ?_
          clear hK K
          try simp only [Act.put, List.getElem_toArray, List.getElem_cons_succ, List.getElem_cons_zero, List.setIfInBounds_toArray, List.set_cons_zero, List.set_cons_succ]
          refine wpAnyU_done (by kernel_rfl) ?_ _
          go_wp2
          try simp only [Act.put, List.getElem_toArray, List.getElem_cons_succ, List.getElem_cons_zero, List.setIfInBounds_toArray, List.set_cons_succ, List.set_cons_zero]
          go_meet
          case rel => exact ⟨_, y, rfl, hy.out, hm9⟩
        · go_simp
          have hm4 := hm3.alloc (.cells (obC 0 none 0 0 none 0 0 0 0 false).toArray 41)
          refine hK _ _ (fun _ => ⟨(Rf.readX hm4 m3 hi ht.out hA).1, hm4.cell m2 1 rfl, (Rf.readX hm4 m3 hi ht.out hA).2.1⟩) ?_
          clear hK K
          try simp only [Act.put, List.getElem_toArray, List.getElem_cons_succ, List.getElem_cons_zero, List.setIfInBounds_toArray, List.set_cons_zero, List.set_cons_succ]
          refine wpAnyU_one 8 (by kernel_rfl) rfl (fun K hK => ?_)
          refine step_call rfl 44 Tryz.f44 Tryz.func44 (by kernel_rfl) (by kernel_rfl) _ _ rfl #[.agg (cRO t).toArray] (by simp [Act.eval]) ?_
          refine (copyObject_ok w0 _ _ hm4 t ⟨(Rf.readX hm4 m3 hi ht.out hA).2.2⟩ (by omega) (by omega)).mono ?_
          rintro e wk ⟨y, rfl, hy, hm5⟩
          refine ⟨_, rfl, ?_⟩
          replace hy := Fact.mk hy
          refine hK _ _ (fun _ => ⟨(Rf.readX hm5 m4 hi ht.out hA).1, hm5.cell m3 1 rfl, (Rf.readX hm5 m4 hi ht.out hA).2.1⟩) ?_
          clear hK K
          try simp only [Act.put, List.getElem_toArray, List.getElem_cons_succ, List.getElem_cons_zero, List.setIfInBounds_toArray, List.set_cons_zero, List.set_cons_succ]
          refine wpAnyU_one 10 (by kernel_rfl) rfl (fun K hK => ?_)
          refine step_setrow rfl 41 _ _ rfl _ rfl 41 _ (cRO y) rfl hm5.swap sz_O rfl (cRO_one y) ?_
          intro w9 hm9
          refine hK _ _ (fun h => absurd h (by decide)) ?_
          clear hK K
          try simp only [Act.put, List.getElem_toArray, List.getElem_cons_succ, List.getElem_cons_zero, List.setIfInBounds_toArray, List.set_cons_zero, List.set_cons_succ]
          refine wpAnyU_done (by kernel_rfl) ?_ _
          go_wp2
          try simp only [Act.put, List.getElem_toArray, List.getElem_cons_succ, List.getElem_cons_zero, List.setIfInBounds_toArray, List.set_cons_succ, List.set_cons_zero]
          go_meet
          case rel => exact ⟨_, y, rfl, hy.out, hm9⟩
      case rest =>
        obtain ⟨g8, ⟨yA, yc, yK, ykc, yo⟩, rfl, hy, hmc⟩ := hcut
        obtain rfl : yo = t.ob := hy
        clear hm2 hA
        have s5 := hmc.cell m0 5 rfl
        simp only [hsh.out] at s5
        go_wp2
        go_ret2
        exact ⟨rfl, r, rfl, rfl, hok.out, hmc.tail.tail.tail.tail⟩
    · rw [if_neg hsh, if_neg hsh]
      replace hsh := Fact.mk (show t.ob.shut = false by simpa using hsh)
      by_cases q : (t.ob.items.length : Int) < t.ob.cap
      · have q' : decide ((t.ob.items.length : Int) ≥ t.ob.cap) = false := decide_eq_false (by omega)
        have hsO : sendO t.ob (X, Y) = t.ob.items ++ [(X, Y)] := by unfold sendO; rw [hsh.out, if_neg (by simp), if_pos q]
        have hcap := (hg.out t.ob (by rw [← hto.out, List.getD_eq_getElem?_getD, List.getElem?_eq_getElem (by rw [r.abs_len]; exact hi)]; exact List.getElem_mem _)).few.1 (by rw [← hto.out]; exact hkd9)
        rw [hsO, decide_eq_true q]
        have hpl : (t.ob.items ++ [(X, Y)]).length = t.ob.items.length + 1 := by simp
        have hpf : fV (t.ob.items ++ [(X, Y)]) = fV t.ob.items ++ [.int .i64 X, .int .i64 Y] := by rw [fV_app]; rfl
        obtain ⟨its, hits⟩ : ∃ its, t.ob.items ++ [(X, Y)] = its := ⟨_, rfl⟩
        rw [hits] at hpl hpf ⊢
        replace hpl := Fact.mk hpl
        replace hpf := Fact.mk hpf
        clear hself hsO hits
        go_enter Tryz.func62, Tryz.ntmps62
        go_upto_region 1 with (fail)
        have hm1 := ((hm.alloc (.cells [.int .i64 K, .int .i64 (i : Int)].toArray 35)).alloc (.cells [.int .i64 X, .int .i64 Y].toArray 35))
        simp only [World.size_alloc] at hm1
        generalize hgb : w.heap.size = gb at hm1 ⊢
        generalize hw1 : ((w.alloc (.cells [.int .i64 K, .int .i64 (i : Int)].toArray 35)).alloc (.cells [.int .i64 X, .int .i64 Y].toArray 35)) = w1 at hm1
        try refine wp_world hw1 ?_
        clear hw1 hgb
        go_wp2_with (refine wp_rng rfl 35 _ rfl gb 0 rfl (cV (K, (i : Int))) (rng_blk hm1 m1) row_V sz_V ?_)
        refine (his.out w1 _ hm1 m2).mono ?_
        rintro e w2 ⟨rfl, hg2⟩
        have hm2 := hm1.gr hg2
        clear hm1 hg2
        go_upto_region 3 with (fail)
        obtain ⟨b, o, hA⟩ : ∃ b o, r.A = some ⟨b, o, none⟩ := by
          obtain ⟨_, _, _, hobs⟩ := Rf.read hm2 m2
          obtain ⟨b, o, hA, _⟩ := hobs.at i hi
          exact ⟨b, o, hA⟩
        go_cut [8] (fun s8 W => ∃ (g8 : Nat) (y : RO), s8 = .pointer (some ⟨g8, 0, none⟩) ∧ y.ob = t.ob ∧ Mem w0 W (Blk g8 (.cells (cRO y).toArray 41) :: RoC y :: Blk (gb + 1) (.cells [.int .i64 X, .int .i64 Y].toArray 35) :: Blk gb (.cells [.int .i64 K, .int .i64 (i : Int)].toArray 35) :: RfC r :: L))
        case first =>
          have hm3 := hm2.drew
          have hS : w2.drew.cell? ⟨r.g, 2, none⟩ = some (.slice (some ⟨b, o, none⟩) r.xs.length r.c) ∧ w2.drew.cell? ⟨gb, 1, none⟩ = some (.int .i64 (i : Int)) ∧ w2.drew.rangeAt b (o + i * 6) (cRO t) := ⟨(Rf.readX hm3 m2 hi ht.out hA).1, hm3.cell m1 1 rfl, (Rf.readX hm3 m2 hi ht.out hA).2.1⟩
          refine wp_region_until (S := fun W => W.cell? ⟨r.g, 2, none⟩ = some (.slice (some ⟨b, o, none⟩) r.xs.length r.c) ∧ W.cell? ⟨gb, 1, none⟩ = some (.int .i64 (i : Int)) ∧ W.rangeAt b (o + i * 6) (cRO t)) 10 (by kernel_rfl) ?_
          generalize w2.drew = w3 at hm3 hS ⊢
          refine wpAnyU_take 0 (v := ?vsa2x0) rfl (by kernel_rfl) (by kernel_rfl) (fun _ _ _ h => h) hS (Or.inl ⟨rfl, ?ysa2x0⟩) ?rsa2x0
          case ysa2x0 =>
            intro W hW
            obtain ⟨hW0, hW1, hW2⟩ := hW
            go_simp
            try with_reducible rfl
          try simp only [Act.put, List.getElem_toArray, List.getElem_cons_succ, List.getElem_cons_zero, List.setIfInBounds_toArray, List.set_cons_zero, List.set_cons_succ]
          refine wpAnyU_take 1 (v := ?vsa2x1) rfl (by kernel_rfl) (by kernel_rfl) (fun _ _ _ h => h) hS (Or.inl ⟨rfl, ?ysa2x1⟩) ?rsa2x1
          case ysa2x1 =>
            intro W hW
            obtain ⟨hW0, hW1, hW2⟩ := hW
            go_simp
            try with_reducible rfl
          try simp only [Act.put, List.getElem_toArray, List.getElem_cons_succ, List.getElem_cons_zero, List.setIfInBounds_toArray, List.set_cons_zero, List.set_cons_succ]
          refine wpAnyU_take 2 (v := ?vsa2x2) rfl (by kernel_rfl) (by kernel_rfl) (fun _ _ _ h => h) hS (Or.inl ⟨rfl, ?ysa2x2⟩) ?rsa2x2
          case ysa2x2 =>
            intro W hW
            obtain ⟨hW0, hW1, hW2⟩ := hW
            go_simp
            try with_reducible rfl
          try simp only [Act.put, List.getElem_toArray, List.getElem_cons_succ, List.getElem_cons_zero, List.setIfInBounds_toArray, List.set_cons_zero, List.set_cons_succ]
          refine wpAnyU_take 3 (v := ?vsa2x3) rfl (by kernel_rfl) (by kernel_rfl) (fun _ _ _ h => h) hS (Or.inl ⟨rfl, ?ysa2x3⟩) ?rsa2x3
          case ysa2x3 =>
            intro W hW
            obtain ⟨hW0, hW1, hW2⟩ := hW
            go_simp
            try with_reducible rfl
          try simp only [Act.put, List.getElem_toArray, List.getElem_cons_succ, List.getElem_cons_zero, List.setIfInBounds_toArray, List.set_cons_zero, List.set_cons_succ]
          refine wpAnyU_take 4 (v := ?vsa2x4) rfl (by kernel_rfl) (by kernel_rfl) (fun _ _ _ h => h) hS (Or.inl ⟨rfl, ?ysa2x4⟩) ?rsa2x4
          case ysa2x4 =>
            intro W hW
            obtain ⟨hW0, hW1, hW2⟩ := hW
            go_simp
            try with_reducible rfl
          try simp only [Act.put, List.getElem_toArray, List.getElem_cons_succ, List.getElem_cons_zero, List.setIfInBounds_toArray, List.set_cons_zero, List.set_cons_succ]
          refine wpAnyU_take 5 (v := ?vsa2x5) rfl (by kernel_rfl) (by kernel_rfl) (fun _ _ _ h => h) hS (Or.inl ⟨rfl, ?ysa2x5⟩) ?rsa2x5
          case ysa2x5 =>
            intro W hW
            obtain ⟨hW0, hW1, hW2⟩ := hW
            go_simp
            try with_reducible rfl
          try simp only [Act.put, List.getElem_toArray, List.getElem_cons_succ, List.getElem_cons_zero, List.setIfInBounds_toArray, List.set_cons_zero, List.set_cons_succ]
          refine wpAnyU_take 6 (v := ?vsa2x6) rfl (by kernel_rfl) (by kernel_rfl) (fun _ _ _ h => h) hS (Or.inl ⟨rfl, ?ysa2x6⟩) ?rsa2x6
          case ysa2x6 =>
            intro W hW
            obtain ⟨hW0, hW1, hW2⟩ := hW
            go_simp
            try with_reducible rfl
          try simp only [Act.put, List.getElem_toArray, List.getElem_cons_succ, List.getElem_cons_zero, List.setIfInBounds_toArray, List.set_cons_zero, List.set_cons_succ]
          refine wpAnyU_take 7 (v := .agg (cRO t).toArray) rfl (by kernel_rfl) (by kernel_rfl) (fun _ _ _ h => h) hS (Or.inl ⟨rfl, ?ysa2xz⟩) ?rsa2xz
          case ysa2xz =>
            intro W hW
            exact run_rng 41 _ rfl b (o + i * 6) rfl (cRO t) hW.2.2 row_O sz_O
          try simp only [Act.put, List.getElem_toArray, List.getElem_cons_succ, List.getElem_cons_zero, List.setIfInBounds_toArray, List.set_cons_zero, List.set_cons_succ]
          refine wpAnyU_two 8 9 (by kernel_rfl) rfl rfl (fun K hK => ?_) (fun K hK => ?_)
          · refine step_call rfl 44 Tryz.f44 Tryz.func44 (by kernel_rfl) (by kernel_rfl) _ _ rfl #[.agg (cRO t).toArray] (by simp [Act.eval]) ?_
            refine (copyObject_ok w0 _ _ hm3 t ⟨(Rf.readX hm3 m2 hi ht.out hA).2.2⟩ (by omega) (by omega)).mono ?_
            rintro e wk ⟨y, rfl, hy, hm4⟩
            refine ⟨_, rfl, ?_⟩
            replace hy := Fact.mk hy
            refine hK _ _ (fun _ => ⟨(Rf.readX hm4 m3 hi ht.out hA).1, hm4.cell m2 1 rfl, (Rf.readX hm4 m3 hi ht.out hA).2.1⟩) ?_
            clear hK K
            try simp only [Act.put, List.getElem_toArray, List.getElem_cons_succ, List.getElem_cons_zero, List.setIfInBounds_toArray, List.set_cons_zero, List.set_cons_succ]
            refine wpAnyU_one 9 (by kernel_rfl) rfl (fun K hK => ?_)
            go_simp
            have hm5 := hm4.alloc (.cells (obC 0 none 0 0 none 0 0 0 0 false).toArray 41)
            refine hK _ _ (fun _ => ⟨(Rf.readX hm5 m4 hi ht.out hA).1, hm5.cell m3 1 rfl, (Rf.readX hm5 m4 hi ht.out hA).2.1⟩) ?_
            clear hK K
            try simp only [Act.put, List.getElem_toArray, List.getElem_cons_succ, List.getElem_cons_zero, List.setIfInBounds_toArray, List.set_cons_zero, List.set_cons_succ]
            refine wpAnyU_one 10 (by kernel_rfl) rfl (fun K hK => ?_)
            refine step_setrow rfl 41 _ _ rfl _ rfl 41 _ (cRO y) rfl hm5 sz_O rfl (cRO_one y) ?_
            intro w9 hm9
            refine hK _ _ (fun h => absurd h (by decide)) ?_
            clear hK K
            try simp only [Act.put, List.getElem_toArray, List.getElem_cons_succ, List.getElem_cons_zero, List.setIfInBounds_toArray, List.set_cons_zero, List.set_cons_succ]
            refine wpAnyU_done (by kernel_rfl) ?_ _
            go_wp2
            try simp only [Act.put, List.getElem_toArray, List.getElem_cons_succ, List.getElem_cons_zero, List.setIfInBounds_toArray, List.set_cons_succ, List.set_cons_zero]
            go_meet
            case rel => exact ⟨_, y, rfl, hy.out, hm9⟩
          · go_simp
            have hm4 := hm3.alloc (.cells (obC 0 none 0 0 none 0 0 0 0 false).toArray 41)
            refine hK _ _ (fun _ => ⟨(Rf.readX hm4 m3 hi ht.out hA).1, hm4.cell m2 1 rfl, (Rf.readX hm4 m3 hi ht.out hA).2.1⟩) ?_
            clear hK K
            try simp only [Act.put, List.getElem_toArray, List.getElem_cons_succ, List.getElem_cons_zero, List.setIfInBounds_toArray, List.set_cons_zero, List.set_cons_succ]
            refine wpAnyU_one 8 (by kernel_rfl) rfl (fun K hK => ?_)
            refine step_call rfl 44 Tryz.f44 Tryz.func44 (by kernel_rfl) (by kernel_rfl) _ _ rfl #[.agg (cRO t).toArray] (by simp [Act.eval]) ?_
            refine (copyObject_ok w0 _ _ hm4 t ⟨(Rf.readX hm4 m3 hi ht.out hA).2.2⟩ (by omega) (by omega)).mono ?_
            rintro e wk ⟨y, rfl, hy, hm5⟩
            refine ⟨_, rfl, ?_⟩
            replace hy := Fact.mk hy
            refine hK _ _ (fun _ => ⟨(Rf.readX hm5 m4 hi ht.out hA).1, hm5.cell m3 1 rfl, (Rf.readX hm5 m4 hi ht.out hA).2.1⟩) ?_
            clear hK K
            try simp only [Act.put, List.getElem_toArray, List.getElem_cons_succ, List.getElem_cons_zero, List.setIfInBounds_toArray, List.set_cons_zero, List.set_cons_succ]
            refine wpAnyU_one 10 (by kernel_rfl) rfl (fun K hK => ?_)
            refine step_setrow rfl 41 _ _ rfl _ rfl 41 _ (cRO y) rfl hm5.swap sz_O rfl (cRO_one y) ?_
            intro w9 hm9
            refine hK _ _ (fun h => absurd h (by decide)) ?_
            clear hK K
            try simp only [Act.put, List.getElem_toArray, List.getElem_cons_succ, List.getElem_cons_zero, List.setIfInBounds_toArray, List.set_cons_zero, List.set_cons_succ]
            refine wpAnyU_done (by kernel_rfl) ?_ _
            go_wp2
            try simp only [Act.put, List.getElem_toArray, List.getElem_cons_succ, List.getElem_cons_zero, List.setIfInBounds_toArray, List.set_cons_succ, List.set_cons_zero]
            go_meet
            case rel => exact ⟨_, y, rfl, hy.out, hm9⟩
        case rest =>
          obtain ⟨g8, ⟨yA, yc, yK, ykc, yo⟩, rfl, hy, hmc⟩ := hcut
          obtain rfl : yo = t.ob := hy
          clear hm2 hA
          have s5 := hmc.cell m0 5 rfl
          simp only [hsh.out] at s5
          have s4 := hmc.cell m0 4 rfl
          have s1 := hmc.cell m0 1 rfl
          simp only at s4 s1
          go_upto_region 8 with (fail)
          clear s4 s5 s1
          have hmo : Mem w0 wc (Own 2 (.slice yA t.ob.items.length yc) (fV t.ob.items) :: Own 1 (.slice yK t.ob.keys.length ykc) (nums .i64 t.ob.keys) :: Blk g8 (.cells (obC t.ob.kind yA t.ob.items.length yc yK t.ob.keys.length ykc t.ob.fn t.ob.cap t.ob.shut).toArray 41) :: Blk (gb + 1) (.cells [.int .i64 X, .int .i64 Y].toArray 35) :: Blk gb (.cells [.int .i64 K, .int .i64 (i : Int)].toArray 35) :: RfC r :: L) := Mem.opn hmc.swap
          clear hmc
          have s1 := hmo.cell m2 1 rfl
          go_upto_region 9 with (first | (refine wp_rng rfl 35 _ rfl (gb + 1) 0 rfl [.int .i64 X, .int .i64 Y] (rng_blk hmo m3) row_V sz_V ?_) | (at_builtin; refine wp_app rfl _ _ _ rfl 35 iV _ 2 16 ty_Vs hiV hz0 hz1 hz2 rfl yA t.ob.items.length yc _ rfl (hmo.alloc _).swap _ 1 1 [.int .i64 X, .int .i64 Y] rfl (RdC.lit _ _ _ _ _ rfl (by simp [maxLen]) (cV_one (X, Y))) (by unfold maxLen; omega) (by omega) ?_; intro A6 c6 w6 HM6) | (refine wp_setat rfl 36 _ _ rfl g8 1 rfl 41 _ [.slice A6 (t.ob.items.length + 1) c6] (obC t.ob.kind A6 (t.ob.items.length + 1) c6 yK t.ob.keys.length ykc t.ob.fn t.ob.cap t.ob.shut) (.slice A6 (t.ob.items.length + 1) c6) rfl rfl HM6.drop2.pull2 sz_Vs (by simp [obC]) (one_one rfl) rfl ?_; intro w7 hm7))
          obtain ⟨y', hy'⟩ : ∃ y' : RO, y' = ⟨A6, c6, yK, ykc, { t.ob with items := its }⟩ := ⟨_, rfl⟩
          have hm7' : Mem w0 w7 (RfC r :: RoC y' :: Blk g8 (.cells (cRO y').toArray 41) :: Blk (gb + 1) (.cells [.int .i64 X, .int .i64 Y].toArray 35) :: Blk gb (.cells [.int .i64 K, .int .i64 (i : Int)].toArray 35) :: L) := by
            have h1 : Mem w0 w7 (Own 2 (.slice A6 its.length c6) (fV its) :: Own 1 (.slice yK t.ob.keys.length ykc) (nums .i64 t.ob.keys) :: Blk g8 (.cells (obC t.ob.kind A6 its.length c6 yK t.ob.keys.length ykc t.ob.fn t.ob.cap t.ob.shut).toArray 41) :: Blk (gb + 1) (.cells [.int .i64 X, .int .i64 Y].toArray 35) :: Blk gb (.cells [.int .i64 K, .int .i64 (i : Int)].toArray 35) :: RfC r :: L) := by rw [hpl.out, hpf.out]; exact hm7.back2
            have h2 := roC_mem ⟨A6, c6, yK, ykc, { t.ob with items := its }⟩ h1
            rw [← hy'] at h2
            rw [show obC t.ob.kind A6 its.length c6 yK t.ob.keys.length ykc t.ob.fn t.ob.cap t.ob.shut = cRO y' by rw [hy']; rfl] at h2
            exact h2.pull4
          have hyo : y'.ob = { t.ob with items := its } := by rw [hy']
          have hysz : y'.ob.items.length ≤ 1048576 ∧ y'.ob.keys.length ≤ 1048576 := by rw [hyo]; simp only [hpl.out]; omega
          replace hyo := Fact.mk hyo
          clear hm7 HM6 hmo hy' s1
          go_upto_region 9 with (fail)
          have hm8 := Rf.opn (hm7'.drew) i hi
          clear hm7'
          obtain ⟨b8, o8, hA8⟩ := OwnAt.addr (hm8.ok _ m1) (by have := OwnAt.cap (hm8.ok _ m1); omega)
          have c2 := hm8.cell m0 2 rfl
          rw [hA8] at c2
          have d1 := hm8.cell (.tail _ (.tail _ (.tail _ (List.mem_append_right _ (.tail _ (.tail _ (.tail _ (.head _)))))))) 1 rfl
          have ry := rng_blk hm8 (.tail _ (.tail _ (.tail _ (List.mem_append_right _ (.tail _ (.head _))))))
          refine wp_region_still_tail 7 (by kernel_rfl) (by kernel_rfl) ?_
          simp only [List.take_succ_cons, List.take_zero, List.drop_succ_cons, List.drop_zero]
          repeat (first | still_step | (refine still_rng rfl 41 _ rfl g8 0 rfl (cRO y') ry row_O sz_O ?_))
          refine wpStill_nil ?_
          have hm9 := hm8.swap
          rw [hA8] at hm9
          clear hm8 c2 d1 ry
          have hfs := flat_set r.xs i hi y' 0 (cRO y') (by rw [cRO_len]; omega) (by rw [cRO_len]; simp [cRO, obC])
          replace hfs := Fact.mk hfs
          go_upto_region 10 with (refine wp_ownat rfl 41 _ _ rfl (o8 + i * 6) (i * 6 + 0) (by omega) rfl (cRO y') _ rfl rfl hm9 sz_O (by rw [flat_len, cRO_len]; omega) (cRO_one y') ?_; intro w9 hm10)
          rw [← hA8] at hm10
          have hz := Rf.put_all i hi _ y' _ hfs.out hm10
          go_wp2
          go_ret2
          exact ⟨rfl, r.upd i y', rfl, by rw [Rf.upd_abs, hyo.out], Rf.upd_ok hok.out i y' hysz, hz.drop2.drop2.drop2⟩
      · have q' : decide ((t.ob.items.length : Int) ≥ t.ob.cap) = true := decide_eq_true (by omega)
        have hsO : sendO t.ob (X, Y) = t.ob.items := by unfold sendO; rw [hsh.out, if_neg (by simp), if_neg q]
        rw [hsO, hself, decide_eq_false q]
        clear hself hsO
        go_enter Tryz.func62, Tryz.ntmps62
        go_upto_region 1 with (fail)
        have hm1 := ((hm.alloc (.cells [.int .i64 K, .int .i64 (i : Int)].toArray 35)).alloc (.cells [.int .i64 X, .int .i64 Y].toArray 35))
        simp only [World.size_alloc] at hm1
        generalize hgb : w.heap.size = gb at hm1 ⊢
        generalize hw1 : ((w.alloc (.cells [.int .i64 K, .int .i64 (i : Int)].toArray 35)).alloc (.cells [.int .i64 X, .int .i64 Y].toArray 35)) = w1 at hm1
        try refine wp_world hw1 ?_
        clear hw1 hgb
        go_wp2_with (refine wp_rng rfl 35 _ rfl gb 0 rfl (cV (K, (i : Int))) (rng_blk hm1 m1) row_V sz_V ?_)
        refine (his.out w1 _ hm1 m2).mono ?_
        rintro e w2 ⟨rfl, hg2⟩
        have hm2 := hm1.gr hg2
        clear hm1 hg2
        go_upto_region 3 with (fail)
        obtain ⟨b, o, hA⟩ : ∃ b o, r.A = some ⟨b, o, none⟩ := by
          obtain ⟨_, _, _, hobs⟩ := Rf.read hm2 m2
          obtain ⟨b, o, hA, _⟩ := hobs.at i hi
          exact ⟨b, o, hA⟩
        go_cut [8] (fun s8 W => ∃ (g8 : Nat) (y : RO), s8 = .pointer (some ⟨g8, 0, none⟩) ∧ y.ob = t.ob ∧ Mem w0 W (Blk g8 (.cells (cRO y).toArray 41) :: RoC y :: Blk (gb + 1) (.cells [.int .i64 X, .int .i64 Y].toArray 35) :: Blk gb (.cells [.int .i64 K, .int .i64 (i : Int)].toArray 35) :: RfC r :: L))
        case first =>
          have hm3 := hm2.drew
          have hS : w2.drew.cell? ⟨r.g, 2, none⟩ = some (.slice (some ⟨b, o, none⟩) r.xs.length r.c) ∧ w2.drew.cell? ⟨gb, 1, none⟩ = some (.int .i64 (i : Int)) ∧ w2.drew.rangeAt b (o + i * 6) (cRO t) := ⟨(Rf.readX hm3 m2 hi ht.out hA).1, hm3.cell m1 1 rfl, (Rf.readX hm3 m2 hi ht.out hA).2.1⟩
          refine wp_region_until (S := fun W => W.cell? ⟨r.g, 2, none⟩ = some (.slice (some ⟨b, o, none⟩) r.xs.length r.c) ∧ W.cell? ⟨gb, 1, none⟩ = some (.int .i64 (i : Int)) ∧ W.rangeAt b (o + i * 6) (cRO t)) 10 (by kernel_rfl) ?_
          generalize w2.drew = w3 at hm3 hS ⊢
          refine wpAnyU_take 0 (v := ?vsa3x0) rfl (by kernel_rfl) (by kernel_rfl) (fun _ _ _ h => h) hS (Or.inl ⟨rfl, ?ysa3x0⟩) ?rsa3x0
          case ysa3x0 =>
            intro W hW
            obtain ⟨hW0, hW1, hW2⟩ := hW
            go_simp
            try with_reducible rfl
          try simp only [Act.put, List.getElem_toArray, List.getElem_cons_succ, List.getElem_cons_zero, List.setIfInBounds_toArray, List.set_cons_zero, List.set_cons_succ]
          refine wpAnyU_take 1 (v := ?vsa3x1) rfl (by kernel_rfl) (by kernel_rfl) (fun _ _ _ h => h) hS (Or.inl ⟨rfl, ?ysa3x1⟩) ?rsa3x1
          case ysa3x1 =>
            intro W hW
            obtain ⟨hW0, hW1, hW2⟩ := hW
            go_simp
            try with_reducible rfl
          try simp only [Act.put, List.getElem_toArray, List.getElem_cons_succ, List.getElem_cons_zero, List.setIfInBounds_toArray, List.set_cons_zero, List.set_cons_succ]
          refine wpAnyU_take 2 (v := ?vsa3x2) rfl (by kernel_rfl) (by kernel_rfl) (fun _ _ _ h => h) hS (Or.inl ⟨rfl, ?ysa3x2⟩) ?rsa3x2
          case ysa3x2 =>
            intro W hW
            obtain ⟨hW0, hW1, hW2⟩ := hW
            go_simp
            try with_reducible rfl
          try simp only [Act.put, List.getElem_toArray, List.getElem_cons_succ, List.getElem_cons_zero, List.setIfInBounds_toArray, List.set_cons_zero, List.set_cons_succ]
          refine wpAnyU_take 3 (v := ?vsa3x3) rfl (by kernel_rfl) (by kernel_rfl) (fun _ _ _ h => h) hS (Or.inl ⟨rfl, ?ysa3x3⟩) ?rsa3x3
          case ysa3x3 =>
            intro W hW
            obtain ⟨hW0, hW1, hW2⟩ := hW
            go_simp
            try with_reducible rfl
          try simp only [Act.put, List.getElem_toArray, List.getElem_cons_succ, List.getElem_cons_zero, List.setIfInBounds_toArray, List.set_cons_zero, List.set_cons_succ]
          refine wpAnyU_take 4 (v := ?vsa3x4) rfl (by kernel_rfl) (by kernel_rfl) (fun _ _ _ h => h) hS (Or.inl ⟨rfl, ?ysa3x4⟩) ?rsa3x4
          case ysa3x4 =>
            intro W hW
            obtain ⟨hW0, hW1, hW2⟩ := hW
            go_simp
            try with_reducible rfl
          try simp only [Act.put, List.getElem_toArray, List.getElem_cons_succ, List.getElem_cons_zero, List.setIfInBounds_toArray, List.set_cons_zero, List.set_cons_succ]
          refine wpAnyU_take 5 (v := ?vsa3x5) rfl (by kernel_rfl) (by kernel_rfl) (fun _ _ _ h => h) hS (Or.inl ⟨rfl, ?ysa3x5⟩) ?rsa3x5
          case ysa3x5 =>
            intro W hW
            obtain ⟨hW0, hW1, hW2⟩ := hW
            go_simp
            try with_reducible rfl
          try simp only [Act.put, List.getElem_toArray, List.getElem_cons_succ, List.getElem_cons_zero, List.setIfInBounds_toArray, List.set_cons_zero, List.set_cons_succ]
          refine wpAnyU_take 6 (v := ?vsa3x6) rfl (by kernel_rfl) (by kernel_rfl) (fun _ _ _ h => h) hS (Or.inl ⟨rfl, ?ysa3x6⟩) ?rsa3x6
          case ysa3x6 =>
            intro W hW
            obtain ⟨hW0, hW1, hW2⟩ := hW
            go_simp
            try with_reducible rfl
          try simp only [Act.put, List.getElem_toArray, List.getElem_cons_succ, List.getElem_cons_zero, List.setIfInBounds_toArray, List.set_cons_zero, List.set_cons_succ]
          refine wpAnyU_take 7 (v := .agg (cRO t).toArray) rfl (by kernel_rfl) (by kernel_rfl) (fun _ _ _ h => h) hS (Or.inl ⟨rfl, ?ysa3xz⟩) ?rsa3xz
          case ysa3xz =>
            intro W hW
            exact run_rng 41 _ rfl b (o + i * 6) rfl (cRO t) hW.2.2 row_O sz_O
          try simp only [Act.put, List.getElem_toArray, List.getElem_cons_succ, List.getElem_cons_zero, List.setIfInBounds_toArray, List.set_cons_zero, List.set_cons_succ]
          refine wpAnyU_two 8 9 (by kernel_rfl) rfl rfl (fun K hK => ?_) (fun K hK => ?_)
          · refine step_call rfl 44 Tryz.f44 Tryz.func44 (by kernel_rfl) (by kernel_rfl) _ _ rfl #[.agg (cRO t).toArray] (by simp [Act.eval]) ?_
            refine (copyObject_ok w0 _ _ hm3 t ⟨(Rf.readX hm3 m2 hi ht.out hA).2.2⟩ (by omega) (by omega)).mono ?_
            rintro e wk ⟨y, rfl, hy, hm4⟩
            refine ⟨_, rfl, ?_⟩
            replace hy := Fact.mk hy
            refine hK _ _ (fun _ => ⟨(Rf.readX hm4 m3 hi ht.out hA).1, hm4.cell m2 1 rfl, (Rf.readX hm4 m3 hi ht.out hA).2.1⟩) ?_
            clear hK K
            try simp only [Act.put, List.getElem_toArray, List.getElem_cons_succ, List.getElem_cons_zero, List.setIfInBounds_toArray, List.set_cons_zero, List.set_cons_succ]
            refine wpAnyU_one 9 (by kernel_rfl) rfl (fun K hK => ?_)
            go_simp
            have hm5 := hm4.alloc (.cells (obC 0 none 0 0 none 0 0 0 0 false).toArray 41)
            refine hK _ _ (fun _ => ⟨(Rf.readX hm5 m4 hi ht.out hA).1, hm5.cell m3 1 rfl, (Rf.readX hm5 m4 hi ht.out hA).2.1⟩) ?_
            clear hK K
            try simp only [Act.put, List.getElem_toArray, List.getElem_cons_succ, List.getElem_cons_zero, List.setIfInBounds_toArray, List.set_cons_zero, List.set_cons_succ]
            refine wpAnyU_one 10 (by kernel_rfl) rfl (fun K hK => ?_)
            refine step_setrow rfl 41 _ _ rfl _ rfl 41 _ (cRO y) rfl hm5 sz_O rfl (cRO_one y) ?_
            intro w9 hm9
            refine hK _ _ (fun h => absurd h (by decide)) ?_
            clear hK K
            try simp only [Act.put, List.getElem_toArray, List.getElem_cons_succ, List.getElem_cons_zero, List.setIfInBounds_toArray, List.set_cons_zero, List.set_cons_succ]
            refine wpAnyU_done (by kernel_rfl) ?_ _
            go_wp2
            try simp only [Act.put, List.getElem_toArray, List.getElem_cons_succ, List.getElem_cons_zero, List.setIfInBounds_toArray, List.set_cons_succ, List.set_cons_zero]
            go_meet
            case rel => exact ⟨_, y, rfl, hy.out, hm9⟩
          · go_simp
            have hm4 := hm3.alloc (.cells (obC 0 none 0 0 none 0 0 0 0 false).toArray 41)
            refine hK _ _ (fun _ => ⟨(Rf.readX hm4 m3 hi ht.out hA).1, hm4.cell m2 1 rfl, (Rf.readX hm4 m3 hi ht.out hA).2.1⟩) ?_
            clear hK K
            try simp only [Act.put, List.getElem_toArray, List.getElem_cons_succ, List.getElem_cons_zero, List.setIfInBounds_toArray, List.set_cons_zero, List.set_cons_succ]
            refine wpAnyU_one 8 (by kernel_rfl) rfl (fun K hK => ?_)
            refine step_call rfl 44 Tryz.f44 Tryz.func44 (by kernel_rfl) (by kernel_rfl) _ _ rfl #[.agg (cRO t).toArray] (by simp [Act.eval]) ?_
            refine (copyObject_ok w0 _ _ hm4 t ⟨(Rf.readX hm4 m3 hi ht.out hA).2.2⟩ (by omega) (by omega)).mono ?_
            rintro e wk ⟨y, rfl, hy, hm5⟩
            refine ⟨_, rfl, ?_⟩
            replace hy := Fact.mk hy
            refine hK _ _ (fun _ => ⟨(Rf.readX hm5 m4 hi ht.out hA).1, hm5.cell m3 1 rfl, (Rf.readX hm5 m4 hi ht.out hA).2.1⟩) ?_
            clear hK K
            try simp only [Act.put, List.getElem_toArray, List.getElem_cons_succ, List.getElem_cons_zero, List.setIfInBounds_toArray, List.set_cons_zero, List.set_cons_succ]
            refine wpAnyU_one 10 (by kernel_rfl) rfl (fun K hK => ?_)
            refine step_setrow rfl 41 _ _ rfl _ rfl 41 _ (cRO y) rfl hm5.swap sz_O rfl (cRO_one y) ?_
            intro w9 hm9
            refine hK _ _ (fun h => absurd h (by decide)) ?_
            clear hK K
            try simp only [Act.put, List.getElem_toArray, List.getElem_cons_succ, List.getElem_cons_zero, List.setIfInBounds_toArray, List.set_cons_zero, List.set_cons_succ]
            refine wpAnyU_done (by kernel_rfl) ?_ _
            go_wp2
            try simp only [Act.put, List.getElem_toArray, List.getElem_cons_succ, List.getElem_cons_zero, List.setIfInBounds_toArray, List.set_cons_succ, List.set_cons_zero]
            go_meet
            case rel => exact ⟨_, y, rfl, hy.out, hm9⟩
        case rest =>
          obtain ⟨g8, ⟨yA, yc, yK, ykc, yo⟩, rfl, hy, hmc⟩ := hcut
          obtain rfl : yo = t.ob := hy
          clear hm2 hA
          have s5 := hmc.cell m0 5 rfl
          simp only [hsh.out] at s5
          have s4 := hmc.cell m0 4 rfl
          have s1 := hmc.cell m0 1 rfl
          simp only at s4 s1
          go_wp2
          go_ret2
          exact ⟨rfl, r, rfl, rfl, hok.out, hmc.tail.tail.tail.tail⟩
end Go.Proofs.YtpibchjkmaghnaaGreat
