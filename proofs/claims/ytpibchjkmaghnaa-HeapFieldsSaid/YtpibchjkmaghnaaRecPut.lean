/- A record's put: a field more, unless there is one of that key. -/
import Derived.Test.YtpibchjkmaghnaaMapF
import Derived.Test.YtpibchjkmaghnaaHpRecv
import Derived.Test.YtpibchjkmaghnaaSetM
import Derived.Carry
namespace Go.Proofs.Ytpibchjkmaghnaa
open Go.RowKit Go.Mm
set_option maxHeartbeats 4000000
set_option maxRecDepth 100000
set_option linter.unusedSimpArgs false
theorem sz_Is' : (Try.prog.info? 50).map (·.size) = some 1 := by kernel_rfl
theorem sz_Vs' : (Try.prog.info? 30).map (·.size) = some 1 := by kernel_rfl
theorem sz_mp : (Try.prog.info? 108).map (·.size) = some 1 := by kernel_rfl
/-- A record's cells. -/
def recC (A : Option Addr) (n c : Nat) (KA : Option Addr) (kn kc : Nat) (mp : Option Nat) : List Value := [.slice KA kn kc, .slice A n c, .map mp]
theorem idx_app {ks ls : List Int} (k : Int) : (ks ++ ls).idxOf? k = match ks.idxOf? k with | some i => some i | none => (ls.idxOf? k).map (· + ks.length) := by
  induction ks with
  | nil => simp
  | cons a ks ih =>
    rw [List.cons_append, List.idxOf?_cons, List.idxOf?_cons, ih]
    split
    · rfl
    · cases ks.idxOf? k with
      | some i => rfl
      | none => cases ls.idxOf? k <;> simp [Nat.add_assoc, Nat.add_comm]
theorem idx_snoc {ks : List Int} {key : Int} (h : ks.idxOf? key = none) (k : Int) : updF (fun k => ks.idxOf? k) key ks.length k = (ks ++ [key]).idxOf? k := by
  unfold updF
  rw [idx_app]
  by_cases q : k = key
  · subst q
    rw [if_pos rfl, h]
    simp [List.idxOf?_cons]
  · rw [if_neg q]
    have e : ([key] : List Int).idxOf? k = none := by
      rw [List.idxOf?_cons, if_neg (by simp; exact fun h => q h.symm)]
      rfl
    rw [e]
    show ks.idxOf? k = _
    cases ks.idxOf? k <;> rfl
theorem perm_o4 {a b c d e : Chunk} (L : List Chunk) : (a :: b :: c :: d :: e :: L).Perm (d :: a :: b :: c :: e :: L) := perm_front (a :: b :: c :: d :: e :: L) 3 (by simp)
theorem rputNo_ok (w0 w : World) (L : List Chunk) (g : Nat) (A : Option Addr) (n c : Nat) (KA : Option Addr) (kn kc : Nat) (mp : Option Nat) (ks : List Int) (hm : Mem w0 w (MapC mp ks :: Blk g (.cells (recC A n c KA kn kc mp).toArray 110) :: L)) (key : Int) (hw : (Lit.int .i64 key).wf = true) (hf : (ks.idxOf? key).isSome = true) (X Y : Int) :
    Calls Try.prog 62 #[.pointer (some ⟨g, 0, none⟩), .int .i64 key, .agg #[.int .i64 X, .int .i64 Y]] w fun e w' => e = .returned (.bool false) ∧ Mem w0 w' (MapC mp ks :: Blk g (.cells (recC A n c KA kn kc mp).toArray 110) :: L) := by
  go_enter Try.func62, Try.ntmps62
  go_upto_region 1 with (fail)
  have hm1 := hm.alloc (.cells [.int .i64 X, .int .i64 Y].toArray 27)
  generalize hgb : w.heap.size = gb at hm1 ⊢
  generalize hw1 : w.alloc (.cells [.int .i64 X, .int .i64 Y].toArray 27) = w1 at hm1
  try refine wp_world hw1 ?_
  clear hw1 hgb
  have c2 := hm1.cell m2 2 rfl
  have hlook := mapOk_look (hm1.ok _ m1) key hw
  rw [hf] at hlook
  go_wp2
  go_ret
  exact ⟨rfl, hm1.tail⟩
theorem rputYes_ok (w0 w : World) (L : List Chunk) (g : Nat) (A : Option Addr) (c : Nat) (KA : Option Addr) (kc : Nat) (mp : Option Nat) (ks : List Int) (items : List V2) (hm : Mem w0 w (Blk g (.cells (recC A items.length c KA ks.length kc mp).toArray 110) :: Own 2 (.slice A items.length c) (fV items) :: Own 1 (.slice KA ks.length kc) (nums .i64 ks) :: MapC mp ks :: L)) (key : Int) (hw : (Lit.int .i64 key).wf = true) (hf : Fact (ks.idxOf? key = none)) (X Y : Int) (hkn : ks.length ≤ 1048576) (hin : items.length ≤ 1048576) :
    Calls Try.prog 62 #[.pointer (some ⟨g, 0, none⟩), .int .i64 key, .agg #[.int .i64 X, .int .i64 Y]] w fun e w' => e = .returned (.bool true) ∧ ∃ A' c' KA' kc' mp', Mem w0 w' (Blk g (.cells (recC A' (items.length + 1) c' KA' (ks.length + 1) kc' mp').toArray 110) :: Own 2 (.slice A' (items.length + 1) c') (fV (items ++ [(X, Y)])) :: Own 1 (.slice KA' (ks.length + 1) kc') (nums .i64 (ks ++ [key])) :: MapC mp' (ks ++ [key]) :: L) := by
  obtain ⟨iV, hiV, hz0, hz1, hz2⟩ := info_parts inf_V
  obtain ⟨iI, hiI, yz0, yz1, yz2⟩ := info_parts inf_I
  have hw := Fact.mk hw
  have q22 : ∀ (w : World) (r : Option Nat), (binOp .eql 108 (.map r) (.map none)).run Try.prog w = .ok (.bool r.isNone) w := fun w r => run_eql_map_nil w _ _ _ r ty_mp
  go_enter Try.func62, Try.ntmps62
  go_upto_region 1 with (fail)
  have hm1 := hm.alloc (.cells [.int .i64 X, .int .i64 Y].toArray 27)
  generalize hgb : w.heap.size = gb at hm1 ⊢
  generalize hw1 : w.alloc (.cells [.int .i64 X, .int .i64 Y].toArray 27) = w1 at hm1
  try refine wp_world hw1 ?_
  clear hw1 hgb hm
  have c2 := hm1.cell m1 2 rfl
  have hlook := mapOk_look (hm1.ok _ m4) key hw.out
  rw [hf.out] at hlook
  simp only [Option.isSome_none, Option.getD_none] at hlook
  cases mp with
  | none =>
    obtain rfl : ks = [] := hm1.ok _ m4
    have hmk : (Instr.makeMap 108 none).run Try.prog w1 = .ok (.map (some w1.heap.size)) (w1.alloc (.map #[] 0)) := by first | exact run_makeMap _ _ _ _ ty_mp | exact run_makeMap _ _ | kernel_rfl
    have hmm := (Mem.mapmade hm1).pull2
    go_upto_region 6 with (first | (refine wp_setat rfl 108 _ _ rfl g 2 rfl 110 _ [.map (some w1.heap.size)] (recC A items.length c KA 0 kc (some w1.heap.size)) (.map (some w1.heap.size)) rfl rfl hmm sz_mp (by simp [recC]) (one_one rfl) rfl ?_; intro w2 hm2))
    generalize w1.heap.size = b at hm2 ⊢
    clear hlook c2
    clear hmm hmk hm1
    have hm1 := (hm2.sub (List.Sublist.cons_cons _ (List.Sublist.cons_cons _ (List.Sublist.cons_cons _ (List.Sublist.cons_cons _ (List.Sublist.cons_cons _ (List.sublist_cons_self _ _))))))).pull2.perm ((((List.Perm.swap _ _ _).trans ((List.Perm.swap _ _ _).cons _)).cons _).cons _)
    clear hm2
    have hm2 := hm1.drew
    clear hm1
    have c0 := hm2.cell m1 0 rfl
    have c2 := hm2.cell m1 2 rfl
    refine wp_region_still_tail 10 (by kernel_rfl) (by kernel_rfl) ?_
    simp only [List.take_succ_cons, List.take_zero, List.drop_succ_cons, List.drop_zero]
    repeat still_step
    refine wpStill_nil ?_
    have hF := Mem.toF hm2.pull4
    have hidx : (if (([] : List Int).idxOf? key).isSome = true then 0 else 0 + 1) ≤ (([] : List Int) ++ [key]).length := by rw [hf.out]; simp
    have hidy : ∀ k, (Lit.int .i64 k).wf = true → updF (fun k => ([] : List Int).idxOf? k) key 0 k = (([] : List Int) ++ [key]).idxOf? k := fun k _ => idx_snoc hf.out k
    replace hidx := Fact.mk hidx
    replace hidy := Fact.mk hidy
    go_upto_region 8 with (first | (refine wp_mapput rfl _ _ _ rfl b 0 (fun k => ([] : List Int).idxOf? k) rfl hF (by unfold maxLen; omega) key rfl hw.out 0 rfl (by omega) ?_; intro w3 hm3; have hm4 := (Mem.toC hm3 hidx.out hidy.out).pull4; have d0 := hm4.cell m3 0 rfl) | (at_builtin; refine wp_app rfl _ _ _ rfl 2 iI _ 1 8 ty_Is hiI yz0 yz1 yz2 rfl KA 0 kc _ rfl (hm4.alloc _).swap _ 1 1 [.int .i64 key] rfl (RdC.lit _ _ _ _ _ rfl (by simp [maxLen]) (One.nums .i64 [key])) (by unfold maxLen; omega) (by omega) ?_; intro KA5 kc5 w5 HM5; have hm5 := HM5.drop2.pull3) | (refine wp_setat rfl 50 _ _ rfl g 0 rfl 110 _ [.slice KA5 (0 + 1) kc5] (recC A items.length c KA5 (0 + 1) kc5 (some b)) (.slice KA5 (0 + 1) kc5) rfl rfl hm5 sz_Is' (by simp [recC]) (one_one rfl) rfl ?_; intro w6 hm6))
    have hm7 := hm6.pull4.swap.drew
    clear hm6
    have hS := And.intro (hm7.cell m0 1 rfl) (And.intro (hm7.cell m4 0 rfl) (hm7.cell m4 1 rfl))
    refine wp_region_until (S := fun W => W.cell? ⟨g, 1, none⟩ = some (.slice A items.length c) ∧ W.cell? ⟨gb, 0, none⟩ = some (.int .i64 X) ∧ W.cell? ⟨gb, 1, none⟩ = some (.int .i64 Y)) 8 (by kernel_rfl) ?_
    generalize w6.drew = w7 at hm7 hS ⊢
    refine wpAnyU_take 0 (v := ?vsa0) rfl (by kernel_rfl) (by kernel_rfl) (fun _ _ _ h => h) hS (Or.inl ⟨rfl, ?ysa0⟩) ?rsa0
    case ysa0 =>
      intro W hW
      obtain ⟨hW0, hW1, hW2⟩ := hW
      go_simp
      try with_reducible rfl
    try simp only [Act.put, List.getElem_toArray, List.getElem_cons_succ, List.getElem_cons_zero, List.setIfInBounds_toArray, List.set_cons_zero, List.set_cons_succ]
    refine wpAnyU_take 1 (v := ?vsa1) rfl (by kernel_rfl) (by kernel_rfl) (fun _ _ _ h => h) hS (Or.inl ⟨rfl, ?ysa1⟩) ?rsa1
    case ysa1 =>
      intro W hW
      obtain ⟨hW0, hW1, hW2⟩ := hW
      go_simp
      try with_reducible rfl
    try simp only [Act.put, List.getElem_toArray, List.getElem_cons_succ, List.getElem_cons_zero, List.setIfInBounds_toArray, List.set_cons_zero, List.set_cons_succ]
    refine wpAnyU_take 2 (v := ?vsa2) rfl (by kernel_rfl) (by kernel_rfl) (fun _ _ _ h => h) hS (Or.inl ⟨rfl, ?ysa2⟩) ?rsa2
    case ysa2 =>
      intro W hW
      obtain ⟨hW0, hW1, hW2⟩ := hW
      go_simp
      try with_reducible rfl
    try simp only [Act.put, List.getElem_toArray, List.getElem_cons_succ, List.getElem_cons_zero, List.setIfInBounds_toArray, List.set_cons_zero, List.set_cons_succ]
    refine wpAnyU_take 3 (v := ?vsa3) rfl (by kernel_rfl) (by kernel_rfl) (fun _ _ _ h => h) hS (Or.inl ⟨rfl, ?ysa3⟩) ?rsa3
    case ysa3 =>
      intro W hW
      obtain ⟨hW0, hW1, hW2⟩ := hW
      go_simp
      try with_reducible rfl
    try simp only [Act.put, List.getElem_toArray, List.getElem_cons_succ, List.getElem_cons_zero, List.setIfInBounds_toArray, List.set_cons_zero, List.set_cons_succ]
    refine wpAnyU_take 4 (v := ?vsa4) rfl (by kernel_rfl) (by kernel_rfl) (fun _ _ _ h => h) hS (Or.inl ⟨rfl, ?ysa4⟩) ?rsa4
    case ysa4 =>
      intro W hW
      obtain ⟨hW0, hW1, hW2⟩ := hW
      go_simp
      try with_reducible rfl
    try simp only [Act.put, List.getElem_toArray, List.getElem_cons_succ, List.getElem_cons_zero, List.setIfInBounds_toArray, List.set_cons_zero, List.set_cons_succ]
    refine wpAnyU_take 5 (v := ?vsa5) rfl (by kernel_rfl) (by kernel_rfl) (fun _ _ _ h => h) hS (Or.inl ⟨rfl, ?ysa5⟩) ?rsa5
    case ysa5 =>
      intro W hW
      obtain ⟨hW0, hW1, hW2⟩ := hW
      go_simp
      try with_reducible rfl
    try simp only [Act.put, List.getElem_toArray, List.getElem_cons_succ, List.getElem_cons_zero, List.setIfInBounds_toArray, List.set_cons_zero, List.set_cons_succ]
    refine wpAnyU_one 6 (by kernel_rfl) rfl (fun K hK => ?_)
    go_simp
    have hm8 := hm7.alloc (.cells [.int .i64 X, .int .i64 Y].toArray 27)
    refine hK _ _ (fun _ => ⟨hm8.cell m1 1 rfl, hm8.cell m5 0 rfl, hm8.cell m5 1 rfl⟩) ?_
    clear hK K
    try simp only [Act.put, List.getElem_toArray, List.getElem_cons_succ, List.getElem_cons_zero, List.setIfInBounds_toArray, List.set_cons_zero, List.set_cons_succ]
    refine wpAnyU_one 7 (by kernel_rfl) rfl (fun K hK => ?_)
    refine step_app rfl _ _ _ rfl 27 iV _ 2 16 ty_Vs hiV hz0 hz1 hz2 rfl A items.length c _ rfl hm8.pull2 _ 1 1 [.int .i64 X, .int .i64 Y] rfl (RdC.lit _ _ _ _ _ rfl (by simp [maxLen]) (cV_one (X, Y))) (by unfold maxLen; omega) (by omega) ?_
    intro A9 c9 w9 HM9
    have hm9 := HM9.back2.tail
    clear HM9 hm8
    refine hK _ _ (fun _ => ⟨hm9.cell m0 1 rfl, hm9.cell m4 0 rfl, hm9.cell m4 1 rfl⟩) ?_
    clear hK K
    try simp only [Act.put, List.getElem_toArray, List.getElem_cons_succ, List.getElem_cons_zero, List.setIfInBounds_toArray, List.set_cons_zero, List.set_cons_succ]
    refine wpAnyU_one 8 (by kernel_rfl) rfl (fun K hK => ?_)
    go_simp
    refine hK _ _ (fun h => absurd h (by decide)) ?_
    clear hK K
    try simp only [Act.put, List.getElem_toArray, List.getElem_cons_succ, List.getElem_cons_zero, List.setIfInBounds_toArray, List.set_cons_zero, List.set_cons_succ]
    refine wpAnyU_one 9 (by kernel_rfl) rfl (fun K hK => ?_)
    go_simp
    refine hK _ _ (fun h => absurd h (by decide)) ?_
    clear hK K
    try simp only [Act.put, List.getElem_toArray, List.getElem_cons_succ, List.getElem_cons_zero, List.setIfInBounds_toArray, List.set_cons_zero, List.set_cons_succ]
    refine wpAnyU_one 10 (by kernel_rfl) rfl (fun K hK => ?_)
    refine step_setat rfl 30 _ _ rfl g 1 rfl 110 _ [.slice A9 (items.length + 1) c9] (recC A9 (items.length + 1) c9 KA5 (0 + 1) kc5 (some b)) (.slice A9 (items.length + 1) c9) rfl rfl hm9 sz_Vs' (by simp [recC]) (one_one rfl) rfl ?_
    intro w10 hm10
    refine hK _ _ (fun h => absurd h (by decide)) ?_
    clear hK K hS hm7 hm9
    try simp only [Act.put, List.getElem_toArray, List.getElem_cons_succ, List.getElem_cons_zero, List.setIfInBounds_toArray, List.set_cons_zero, List.set_cons_succ]
    refine wpAnyU_done (by kernel_rfl) ?_ _
    go_wp2
    go_ret
    refine ⟨rfl, A9, c9, KA5, kc5, some b, ?_⟩
    have hz := hm10.sub (List.Sublist.cons_cons _ (List.Sublist.cons_cons _ (List.Sublist.cons_cons _ (List.Sublist.cons_cons _ (List.sublist_cons_self _ _)))))
    have e1 : fV (items ++ [(X, Y)]) = fV items ++ [.int .i64 X, .int .i64 Y] := by rw [fV_app]; rfl
    rw [e1, nums_append]
    exact hz
  | some b =>
    go_upto_region 6 with (fail)
    clear hlook c2
    have hm2 := hm1.drew
    clear hm1
    have c0 := hm2.cell m1 0 rfl
    have c2 := hm2.cell m1 2 rfl
    refine wp_region_still_tail 10 (by kernel_rfl) (by kernel_rfl) ?_
    simp only [List.take_succ_cons, List.take_zero, List.drop_succ_cons, List.drop_zero]
    repeat still_step
    refine wpStill_nil ?_
    have hF := Mem.toF hm2.pull4
    have hidx : (if (ks.idxOf? key).isSome = true then ks.length else ks.length + 1) ≤ (ks ++ [key]).length := by rw [hf.out]; simp
    have hidy : ∀ k, (Lit.int .i64 k).wf = true → updF (fun k => ks.idxOf? k) key ks.length k = (ks ++ [key]).idxOf? k := fun k _ => idx_snoc hf.out k
    replace hidx := Fact.mk hidx
    replace hidy := Fact.mk hidy
    go_upto_region 8 with (first | (refine wp_mapput rfl _ _ _ rfl b ks.length (fun k => ks.idxOf? k) rfl hF (by unfold maxLen; omega) key rfl hw.out ks.length rfl (by omega) ?_; intro w3 hm3; have hm4 := (Mem.toC hm3 hidx.out hidy.out).pull4; have d0 := hm4.cell m3 0 rfl) | (at_builtin; refine wp_app rfl _ _ _ rfl 2 iI _ 1 8 ty_Is hiI yz0 yz1 yz2 rfl KA ks.length kc _ rfl (hm4.alloc _).swap _ 1 1 [.int .i64 key] rfl (RdC.lit _ _ _ _ _ rfl (by simp [maxLen]) (One.nums .i64 [key])) (by unfold maxLen; omega) (by omega) ?_; intro KA5 kc5 w5 HM5; have hm5 := HM5.drop2.pull3) | (refine wp_setat rfl 50 _ _ rfl g 0 rfl 110 _ [.slice KA5 (ks.length + 1) kc5] (recC A items.length c KA5 (ks.length + 1) kc5 (some b)) (.slice KA5 (ks.length + 1) kc5) rfl rfl hm5 sz_Is' (by simp [recC]) (one_one rfl) rfl ?_; intro w6 hm6))
    have hm7 := hm6.pull4.swap.drew
    clear hm6
    have hS := And.intro (hm7.cell m0 1 rfl) (And.intro (hm7.cell m4 0 rfl) (hm7.cell m4 1 rfl))
    refine wp_region_until (S := fun W => W.cell? ⟨g, 1, none⟩ = some (.slice A items.length c) ∧ W.cell? ⟨gb, 0, none⟩ = some (.int .i64 X) ∧ W.cell? ⟨gb, 1, none⟩ = some (.int .i64 Y)) 8 (by kernel_rfl) ?_
    generalize w6.drew = w7 at hm7 hS ⊢
    refine wpAnyU_take 0 (v := ?vsb0) rfl (by kernel_rfl) (by kernel_rfl) (fun _ _ _ h => h) hS (Or.inl ⟨rfl, ?ysb0⟩) ?rsb0
    case ysb0 =>
      intro W hW
      obtain ⟨hW0, hW1, hW2⟩ := hW
      go_simp
      try with_reducible rfl
    try simp only [Act.put, List.getElem_toArray, List.getElem_cons_succ, List.getElem_cons_zero, List.setIfInBounds_toArray, List.set_cons_zero, List.set_cons_succ]
    refine wpAnyU_take 1 (v := ?vsb1) rfl (by kernel_rfl) (by kernel_rfl) (fun _ _ _ h => h) hS (Or.inl ⟨rfl, ?ysb1⟩) ?rsb1
    case ysb1 =>
      intro W hW
      obtain ⟨hW0, hW1, hW2⟩ := hW
      go_simp
      try with_reducible rfl
    try simp only [Act.put, List.getElem_toArray, List.getElem_cons_succ, List.getElem_cons_zero, List.setIfInBounds_toArray, List.set_cons_zero, List.set_cons_succ]
    refine wpAnyU_take 2 (v := ?vsb2) rfl (by kernel_rfl) (by kernel_rfl) (fun _ _ _ h => h) hS (Or.inl ⟨rfl, ?ysb2⟩) ?rsb2
    case ysb2 =>
      intro W hW
      obtain ⟨hW0, hW1, hW2⟩ := hW
      go_simp
      try with_reducible rfl
    try simp only [Act.put, List.getElem_toArray, List.getElem_cons_succ, List.getElem_cons_zero, List.setIfInBounds_toArray, List.set_cons_zero, List.set_cons_succ]
    refine wpAnyU_take 3 (v := ?vsb3) rfl (by kernel_rfl) (by kernel_rfl) (fun _ _ _ h => h) hS (Or.inl ⟨rfl, ?ysb3⟩) ?rsb3
    case ysb3 =>
      intro W hW
      obtain ⟨hW0, hW1, hW2⟩ := hW
      go_simp
      try with_reducible rfl
    try simp only [Act.put, List.getElem_toArray, List.getElem_cons_succ, List.getElem_cons_zero, List.setIfInBounds_toArray, List.set_cons_zero, List.set_cons_succ]
    refine wpAnyU_take 4 (v := ?vsb4) rfl (by kernel_rfl) (by kernel_rfl) (fun _ _ _ h => h) hS (Or.inl ⟨rfl, ?ysb4⟩) ?rsb4
    case ysb4 =>
      intro W hW
      obtain ⟨hW0, hW1, hW2⟩ := hW
      go_simp
      try with_reducible rfl
    try simp only [Act.put, List.getElem_toArray, List.getElem_cons_succ, List.getElem_cons_zero, List.setIfInBounds_toArray, List.set_cons_zero, List.set_cons_succ]
    refine wpAnyU_take 5 (v := ?vsb5) rfl (by kernel_rfl) (by kernel_rfl) (fun _ _ _ h => h) hS (Or.inl ⟨rfl, ?ysb5⟩) ?rsb5
    case ysb5 =>
      intro W hW
      obtain ⟨hW0, hW1, hW2⟩ := hW
      go_simp
      try with_reducible rfl
    try simp only [Act.put, List.getElem_toArray, List.getElem_cons_succ, List.getElem_cons_zero, List.setIfInBounds_toArray, List.set_cons_zero, List.set_cons_succ]
    refine wpAnyU_one 6 (by kernel_rfl) rfl (fun K hK => ?_)
    go_simp
    have hm8 := hm7.alloc (.cells [.int .i64 X, .int .i64 Y].toArray 27)
    refine hK _ _ (fun _ => ⟨hm8.cell m1 1 rfl, hm8.cell m5 0 rfl, hm8.cell m5 1 rfl⟩) ?_
    clear hK K
    try simp only [Act.put, List.getElem_toArray, List.getElem_cons_succ, List.getElem_cons_zero, List.setIfInBounds_toArray, List.set_cons_zero, List.set_cons_succ]
    refine wpAnyU_one 7 (by kernel_rfl) rfl (fun K hK => ?_)
    refine step_app rfl _ _ _ rfl 27 iV _ 2 16 ty_Vs hiV hz0 hz1 hz2 rfl A items.length c _ rfl hm8.pull2 _ 1 1 [.int .i64 X, .int .i64 Y] rfl (RdC.lit _ _ _ _ _ rfl (by simp [maxLen]) (cV_one (X, Y))) (by unfold maxLen; omega) (by omega) ?_
    intro A9 c9 w9 HM9
    have hm9 := HM9.back2.tail
    clear HM9 hm8
    refine hK _ _ (fun _ => ⟨hm9.cell m0 1 rfl, hm9.cell m4 0 rfl, hm9.cell m4 1 rfl⟩) ?_
    clear hK K
    try simp only [Act.put, List.getElem_toArray, List.getElem_cons_succ, List.getElem_cons_zero, List.setIfInBounds_toArray, List.set_cons_zero, List.set_cons_succ]
    refine wpAnyU_one 8 (by kernel_rfl) rfl (fun K hK => ?_)
    go_simp
    refine hK _ _ (fun h => absurd h (by decide)) ?_
    clear hK K
    try simp only [Act.put, List.getElem_toArray, List.getElem_cons_succ, List.getElem_cons_zero, List.setIfInBounds_toArray, List.set_cons_zero, List.set_cons_succ]
    refine wpAnyU_one 9 (by kernel_rfl) rfl (fun K hK => ?_)
    go_simp
    refine hK _ _ (fun h => absurd h (by decide)) ?_
    clear hK K
    try simp only [Act.put, List.getElem_toArray, List.getElem_cons_succ, List.getElem_cons_zero, List.setIfInBounds_toArray, List.set_cons_zero, List.set_cons_succ]
    refine wpAnyU_one 10 (by kernel_rfl) rfl (fun K hK => ?_)
    refine step_setat rfl 30 _ _ rfl g 1 rfl 110 _ [.slice A9 (items.length + 1) c9] (recC A9 (items.length + 1) c9 KA5 (ks.length + 1) kc5 (some b)) (.slice A9 (items.length + 1) c9) rfl rfl hm9 sz_Vs' (by simp [recC]) (one_one rfl) rfl ?_
    intro w10 hm10
    refine hK _ _ (fun h => absurd h (by decide)) ?_
    clear hK K hS hm7 hm9
    try simp only [Act.put, List.getElem_toArray, List.getElem_cons_succ, List.getElem_cons_zero, List.setIfInBounds_toArray, List.set_cons_zero, List.set_cons_succ]
    refine wpAnyU_done (by kernel_rfl) ?_ _
    go_wp2
    go_ret
    refine ⟨rfl, A9, c9, KA5, kc5, some b, ?_⟩
    have hz := hm10.sub (List.Sublist.cons_cons _ (List.Sublist.cons_cons _ (List.Sublist.cons_cons _ (List.Sublist.cons_cons _ (List.sublist_cons_self _ _)))))
    have e1 : fV (items ++ [(X, Y)]) = fV items ++ [.int .i64 X, .int .i64 Y] := by rw [fV_app]; rfl
    rw [e1, nums_append]
    exact hz
end Go.Proofs.Ytpibchjkmaghnaa
