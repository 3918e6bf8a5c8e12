/- An object handed out: what is in a thing, copied. -/
import Derived.Test.YtpibchjkmaghnaaHpMake
import Derived.Test.YtpibchjkmaghnaaHpRecv
namespace Go.Proofs.Ytpibchjkmaghnaa
open Go.RowKit Go.Mm
set_option maxHeartbeats 4000000
set_option maxRecDepth 100000
set_option linter.unusedSimpArgs false
/-- An object's cells. -/
def obC (k : Int) (A : Option Addr) (n c : Nat) (KA : Option Addr) (kn kc : Nat) (fn cap : Int) (sh : Bool) : List Value := [.int .i64 k, .slice A n c, .slice KA kn kc, .int .i64 fn, .int .i64 cap, .bool sh]
theorem obC_one (k : Int) (A : Option Addr) (n c : Nat) (KA : Option Addr) (kn kc : Nat) (fn cap : Int) (sh : Bool) : One (obC k A n c KA kn kc fn cap sh) := fun u hu => by simp [obC] at hu; rcases hu with rfl | rfl | rfl | rfl | rfl | rfl <;> rfl
theorem sz_O : (Try.prog.info? 71).map (·.size) = some 6 := by kernel_rfl
theorem row_O : (Try.prog.underlying 71).map (·.isRow) = some true := by kernel_rfl
theorem objA_ok (w0 w : World) (L : List Chunk) (hm : Mem w0 w L) (g : Nat) (A : Option Addr) (n c : Nat) (xs : List V2) (hx : Fact (RdC w 2 (.slice A n c) (fV xs))) (hn : n ≤ 16777216)
    (c0 : w.cell? ⟨g, 0, none⟩ = some (.slice A n c)) :
    Calls Try.prog 139 #[.pointer (some ⟨g, 0, none⟩)] w fun e w' => ∃ A' c', e = .returned (.agg (obC 6 A' n c' none 0 0 0 0 false).toArray) ∧ Mem w0 w' (Own 2 (.slice A' n c') (fV xs) :: L) := by
  go_enter Try.func139, Try.ntmps139
  go_upto_region 1 with (fail)
  have hm1 := hm.alloc (.cells [.int .i64 0, .slice none 0 0, .slice none 0 0, .int .i64 0, .int .i64 0, .bool false].toArray 71)
  have hg1 := (Gr.refl w).alloc (.cells [.int .i64 0, .slice none 0 0, .slice none 0 0, .int .i64 0, .int .i64 0, .bool false].toArray 71)
  generalize hgb : w.heap.size = gb at hm1 ⊢
  generalize hw1 : w.alloc (.cells [.int .i64 0, .slice none 0 0, .slice none 0 0, .int .i64 0, .int .i64 0, .bool false].toArray 71) = w1 at hm1 hg1
  try refine wp_world hw1 ?_
  clear hw1 hgb
  replace c0 := hg1.cell c0
  go_wp2_with fail
  refine (clone_ok w1 w1 [] (Mem.start w1) A n c xs ⟨hx.out.gr hg1⟩ hn).mono ?_
  rintro e w2 ⟨A2, c2, rfl, hM2⟩
  have hm2 := hm1.join hM2
  go_wp2_with (refine wp_setrow rfl 71 _ _ rfl gb rfl 71 _ (obC 6 A2 n c2 none 0 0 0 0 false) rfl hm2.swap sz_O rfl (obC_one _ _ _ _ _ _ _ _ _ _) ?_; intro w3 hm3)
  exact bodyPost_ret (Mm.res_cell rfl _ gb 71 (obC 6 A2 n c2 none 0 0 0 0 false) (0, 0) rfl hm3 m0 row_O sz_O) rfl ⟨A2, c2, rfl, hm3.tail⟩
theorem objB_ok (w0 w : World) (L : List Chunk) (hm : Mem w0 w L) (g : Nat) (fn : Int) (A : Option Addr) (n c : Nat) (xs : List V2) (hx : Fact (RdC w 2 (.slice A n c) (fV xs))) (hn : n ≤ 16777216)
    (c0 : w.cell? ⟨g, 0, none⟩ = some (.int .i64 fn)) (c1 : w.cell? ⟨g, 1, none⟩ = some (.slice A n c)) :
    Calls Try.prog 148 #[.pointer (some ⟨g, 0, none⟩)] w fun e w' => ∃ A' c', e = .returned (.agg (obC 8 A' n c' none 0 0 fn 0 false).toArray) ∧ Mem w0 w' (Own 2 (.slice A' n c') (fV xs) :: L) := by
  go_enter Try.func148, Try.ntmps148
  go_upto_region 1 with (fail)
  have hm1 := hm.alloc (.cells [.int .i64 0, .slice none 0 0, .slice none 0 0, .int .i64 0, .int .i64 0, .bool false].toArray 71)
  have hg1 := (Gr.refl w).alloc (.cells [.int .i64 0, .slice none 0 0, .slice none 0 0, .int .i64 0, .int .i64 0, .bool false].toArray 71)
  generalize hgb : w.heap.size = gb at hm1 ⊢
  generalize hw1 : w.alloc (.cells [.int .i64 0, .slice none 0 0, .slice none 0 0, .int .i64 0, .int .i64 0, .bool false].toArray 71) = w1 at hm1 hg1
  try refine wp_world hw1 ?_
  clear hw1 hgb
  have hm2 := hm1.drew
  have hx2 := hx.out.gr hg1.drew
  have hS := And.intro (hg1.drew.cell c0) (hg1.drew.cell c1)
  refine wp_region_until (S := fun W => W.cell? ⟨g, 0, none⟩ = some (.int .i64 fn) ∧ W.cell? ⟨g, 1, none⟩ = some (.slice A n c)) 10 (by kernel_rfl) ?_
  generalize w1.drew = w2 at hS hm2 hx2 ⊢
  refine wpAnyU_take 0 (v := ?vsa0) rfl (by kernel_rfl) (by kernel_rfl) (fun _ _ _ h => h) hS (Or.inl ⟨rfl, ?ysa0⟩) ?rsa0
  case ysa0 =>
    intro W hW
    obtain ⟨hW0, hW1⟩ := hW
    go_simp
    try with_reducible rfl
  try simp only [Act.put, List.getElem_toArray, List.getElem_cons_succ, List.getElem_cons_zero, List.setIfInBounds_toArray, List.set_cons_zero, List.set_cons_succ]
  refine wpAnyU_take 1 (v := ?vsa1) rfl (by kernel_rfl) (by kernel_rfl) (fun _ _ _ h => h) hS (Or.inl ⟨rfl, ?ysa1⟩) ?rsa1
  case ysa1 =>
    intro W hW
    obtain ⟨hW0, hW1⟩ := hW
    go_simp
    try with_reducible rfl
  try simp only [Act.put, List.getElem_toArray, List.getElem_cons_succ, List.getElem_cons_zero, List.setIfInBounds_toArray, List.set_cons_zero, List.set_cons_succ]
  refine wpAnyU_take 2 (v := ?vsa2) rfl (by kernel_rfl) (by kernel_rfl) (fun _ _ _ h => h) hS (Or.inl ⟨rfl, ?ysa2⟩) ?rsa2
  case ysa2 =>
    intro W hW
    obtain ⟨hW0, hW1⟩ := hW
    go_simp
    try with_reducible rfl
  try simp only [Act.put, List.getElem_toArray, List.getElem_cons_succ, List.getElem_cons_zero, List.setIfInBounds_toArray, List.set_cons_zero, List.set_cons_succ]
  refine wpAnyU_take 3 (v := ?vsa3) rfl (by kernel_rfl) (by kernel_rfl) (fun _ _ _ h => h) hS (Or.inl ⟨rfl, ?ysa3⟩) ?rsa3
  case ysa3 =>
    intro W hW
    obtain ⟨hW0, hW1⟩ := hW
    go_simp
    try with_reducible rfl
  try simp only [Act.put, List.getElem_toArray, List.getElem_cons_succ, List.getElem_cons_zero, List.setIfInBounds_toArray, List.set_cons_zero, List.set_cons_succ]
  refine wpAnyU_take 4 (v := ?vsa4) rfl (by kernel_rfl) (by kernel_rfl) (fun _ _ _ h => h) hS (Or.inl ⟨rfl, ?ysa4⟩) ?rsa4
  case ysa4 =>
    intro W hW
    obtain ⟨hW0, hW1⟩ := hW
    go_simp
    try with_reducible rfl
  try simp only [Act.put, List.getElem_toArray, List.getElem_cons_succ, List.getElem_cons_zero, List.setIfInBounds_toArray, List.set_cons_zero, List.set_cons_succ]
  refine wpAnyU_take 5 (v := ?vsa5) rfl (by kernel_rfl) (by kernel_rfl) (fun _ _ _ h => h) hS (Or.inl ⟨rfl, ?ysa5⟩) ?rsa5
  case ysa5 =>
    intro W hW
    obtain ⟨hW0, hW1⟩ := hW
    go_simp
    try with_reducible rfl
  try simp only [Act.put, List.getElem_toArray, List.getElem_cons_succ, List.getElem_cons_zero, List.setIfInBounds_toArray, List.set_cons_zero, List.set_cons_succ]
  refine wpAnyU_take 6 (v := ?vsa6) rfl (by kernel_rfl) (by kernel_rfl) (fun _ _ _ h => h) hS (Or.inl ⟨rfl, ?ysa6⟩) ?rsa6
  case ysa6 =>
    intro W hW
    obtain ⟨hW0, hW1⟩ := hW
    go_simp
    try with_reducible rfl
  try simp only [Act.put, List.getElem_toArray, List.getElem_cons_succ, List.getElem_cons_zero, List.setIfInBounds_toArray, List.set_cons_zero, List.set_cons_succ]
  refine wpAnyU_take 7 (v := ?vsa7) rfl (by kernel_rfl) (by kernel_rfl) (fun _ _ _ h => h) hS (Or.inl ⟨rfl, ?ysa7⟩) ?rsa7
  case ysa7 =>
    intro W hW
    obtain ⟨hW0, hW1⟩ := hW
    go_simp
    try with_reducible rfl
  try simp only [Act.put, List.getElem_toArray, List.getElem_cons_succ, List.getElem_cons_zero, List.setIfInBounds_toArray, List.set_cons_zero, List.set_cons_succ]
  refine wpAnyU_one 8 (by kernel_rfl) rfl (fun K hK => ?_)
  refine step_call rfl 84 Try.f84 Try.func84 (by kernel_rfl) (by kernel_rfl) _ _ rfl #[.slice A n c] (by simp [Act.eval]) ?_
  refine (clone_ok w2 w2 [] (Mem.start w2) A n c xs ⟨hx2⟩ hn).mono ?_
  rintro e w3 ⟨A3, c3, rfl, hM3⟩
  refine ⟨_, rfl, ?_⟩
  have hT := And.intro (Gr.cell hM3.below hS.1) (Gr.cell hM3.below hS.2)
  refine hK _ _ (fun _ => hT) ?_
  clear hK K
  try simp only [Act.put, List.getElem_toArray, List.getElem_cons_succ, List.getElem_cons_zero, List.setIfInBounds_toArray, List.set_cons_zero, List.set_cons_succ]
  have hm3 := hm2.join hM3
  refine wpAnyU_one 9 (by kernel_rfl) rfl (fun K hK => ?_)
  go_simp
  refine hK _ _ (fun _ => ⟨hT.1, hT.2⟩) ?_
  clear hK K
  try simp only [Act.put, List.getElem_toArray, List.getElem_cons_succ, List.getElem_cons_zero, List.setIfInBounds_toArray, List.set_cons_zero, List.set_cons_succ]
  refine wpAnyU_one 10 (by kernel_rfl) rfl (fun K hK => ?_)
  refine step_setrow rfl 71 _ _ rfl gb rfl 71 _ (obC 8 A3 n c3 none 0 0 fn 0 false) rfl hm3.swap sz_O rfl (obC_one _ _ _ _ _ _ _ _ _ _) ?_
  intro w9 hm9
  refine hK _ _ (fun h => absurd h (by decide)) ?_
  clear hK K
  refine wpAnyU_done (by kernel_rfl) ?_ _
  go_wp2
  exact bodyPost_ret (Mm.res_cell rfl _ gb 71 (obC 8 A3 n c3 none 0 0 fn 0 false) (0, 0) rfl hm9 m0 row_O sz_O) rfl ⟨A3, c3, rfl, hm9.tail⟩
theorem objC_ok (w0 w : World) (L : List Chunk) (hm : Mem w0 w L) (g : Nat) (cap : Int) (sh : Bool) (A : Option Addr) (n c : Nat) (xs : List V2) (hx : Fact (RdC w 2 (.slice A n c) (fV xs))) (hn : n ≤ 16777216)
    (c0 : w.cell? ⟨g, 0, none⟩ = some (.int .i64 cap)) (c1 : w.cell? ⟨g, 1, none⟩ = some (.slice A n c)) (c2 : w.cell? ⟨g, 2, none⟩ = some (.bool sh)) :
    Calls Try.prog 134 #[.pointer (some ⟨g, 0, none⟩)] w fun e w' => ∃ A' c', e = .returned (.agg (obC 9 A' n c' none 0 0 0 cap sh).toArray) ∧ Mem w0 w' (Own 2 (.slice A' n c') (fV xs) :: L) := by
  go_enter Try.func134, Try.ntmps134
  go_upto_region 1 with (fail)
  have hm1 := hm.alloc (.cells [.int .i64 0, .slice none 0 0, .slice none 0 0, .int .i64 0, .int .i64 0, .bool false].toArray 71)
  have hg1 := (Gr.refl w).alloc (.cells [.int .i64 0, .slice none 0 0, .slice none 0 0, .int .i64 0, .int .i64 0, .bool false].toArray 71)
  generalize hgb : w.heap.size = gb at hm1 ⊢
  generalize hw1 : w.alloc (.cells [.int .i64 0, .slice none 0 0, .slice none 0 0, .int .i64 0, .int .i64 0, .bool false].toArray 71) = w1 at hm1 hg1
  try refine wp_world hw1 ?_
  clear hw1 hgb
  have hm2 := hm1.drew
  have hx2 := hx.out.gr hg1.drew
  have hS := And.intro (hg1.drew.cell c0) (And.intro (hg1.drew.cell c1) (hg1.drew.cell c2))
  refine wp_region_until (S := fun W => W.cell? ⟨g, 0, none⟩ = some (.int .i64 cap) ∧ W.cell? ⟨g, 1, none⟩ = some (.slice A n c) ∧ W.cell? ⟨g, 2, none⟩ = some (.bool sh)) 14 (by kernel_rfl) ?_
  generalize w1.drew = w2 at hS hm2 hx2 ⊢
  refine wpAnyU_take 0 (v := ?vsa0) rfl (by kernel_rfl) (by kernel_rfl) (fun _ _ _ h => h) hS (Or.inl ⟨rfl, ?ysa0⟩) ?rsa0
  case ysa0 =>
    intro W hW
    obtain ⟨hW0, hW1, hW2⟩ := hW
    go_simp
    try with_reducible rfl
  try simp only [Act.put, List.getElem_toArray, List.getElem_cons_succ, List.getElem_cons_zero, List.setIfInBounds_toArray, List.set_cons_zero, List.set_cons_succ]
  refine wpAnyU_take 1 (v := ?vsa1) rfl (by kernel_rfl) (by kernel_rfl) (fun _ _ _ h => h) hS (Or.inl ⟨rfl, ?ysa1⟩) ?rsa1
  case ysa1 =>
    intro W hW
    obtain ⟨hW0, hW1, hW2⟩ := hW
    go_simp
    try with_reducible rfl
  try simp only [Act.put, List.getElem_toArray, List.getElem_cons_succ, List.getElem_cons_zero, List.setIfInBounds_toArray, List.set_cons_zero, List.set_cons_succ]
  refine wpAnyU_take 2 (v := ?vsa2) rfl (by kernel_rfl) (by kernel_rfl) (fun _ _ _ h => h) hS (Or.inl ⟨rfl, ?ysa2⟩) ?rsa2
  case ysa2 =>
    intro W hW
    obtain ⟨hW0, hW1, hW2⟩ := hW
    go_simp
    try with_reducible rfl
  try simp only [Act.put, List.getElem_toArray, List.getElem_cons_succ, List.getElem_cons_zero, List.setIfInBounds_toArray, List.set_cons_zero, List.set_cons_succ]
  refine wpAnyU_take 3 (v := ?vsa3) rfl (by kernel_rfl) (by kernel_rfl) (fun _ _ _ h => h) hS (Or.inl ⟨rfl, ?ysa3⟩) ?rsa3
  case ysa3 =>
    intro W hW
    obtain ⟨hW0, hW1, hW2⟩ := hW
    go_simp
    try with_reducible rfl
  try simp only [Act.put, List.getElem_toArray, List.getElem_cons_succ, List.getElem_cons_zero, List.setIfInBounds_toArray, List.set_cons_zero, List.set_cons_succ]
  refine wpAnyU_take 4 (v := ?vsa4) rfl (by kernel_rfl) (by kernel_rfl) (fun _ _ _ h => h) hS (Or.inl ⟨rfl, ?ysa4⟩) ?rsa4
  case ysa4 =>
    intro W hW
    obtain ⟨hW0, hW1, hW2⟩ := hW
    go_simp
    try with_reducible rfl
  try simp only [Act.put, List.getElem_toArray, List.getElem_cons_succ, List.getElem_cons_zero, List.setIfInBounds_toArray, List.set_cons_zero, List.set_cons_succ]
  refine wpAnyU_take 5 (v := ?vsa5) rfl (by kernel_rfl) (by kernel_rfl) (fun _ _ _ h => h) hS (Or.inl ⟨rfl, ?ysa5⟩) ?rsa5
  case ysa5 =>
    intro W hW
    obtain ⟨hW0, hW1, hW2⟩ := hW
    go_simp
    try with_reducible rfl
  try simp only [Act.put, List.getElem_toArray, List.getElem_cons_succ, List.getElem_cons_zero, List.setIfInBounds_toArray, List.set_cons_zero, List.set_cons_succ]
  refine wpAnyU_take 6 (v := ?vsa6) rfl (by kernel_rfl) (by kernel_rfl) (fun _ _ _ h => h) hS (Or.inl ⟨rfl, ?ysa6⟩) ?rsa6
  case ysa6 =>
    intro W hW
    obtain ⟨hW0, hW1, hW2⟩ := hW
    go_simp
    try with_reducible rfl
  try simp only [Act.put, List.getElem_toArray, List.getElem_cons_succ, List.getElem_cons_zero, List.setIfInBounds_toArray, List.set_cons_zero, List.set_cons_succ]
  refine wpAnyU_take 7 (v := ?vsa7) rfl (by kernel_rfl) (by kernel_rfl) (fun _ _ _ h => h) hS (Or.inl ⟨rfl, ?ysa7⟩) ?rsa7
  case ysa7 =>
    intro W hW
    obtain ⟨hW0, hW1, hW2⟩ := hW
    go_simp
    try with_reducible rfl
  try simp only [Act.put, List.getElem_toArray, List.getElem_cons_succ, List.getElem_cons_zero, List.setIfInBounds_toArray, List.set_cons_zero, List.set_cons_succ]
  refine wpAnyU_take 9 (v := ?vsa9) rfl (by kernel_rfl) (by kernel_rfl) (fun _ _ _ h => h) hS (Or.inl ⟨rfl, ?ysa9⟩) ?rsa9
  case ysa9 =>
    intro W hW
    obtain ⟨hW0, hW1, hW2⟩ := hW
    go_simp
    try with_reducible rfl
  try simp only [Act.put, List.getElem_toArray, List.getElem_cons_succ, List.getElem_cons_zero, List.setIfInBounds_toArray, List.set_cons_zero, List.set_cons_succ]
  refine wpAnyU_take 10 (v := ?vsa10) rfl (by kernel_rfl) (by kernel_rfl) (fun _ _ _ h => h) hS (Or.inl ⟨rfl, ?ysa10⟩) ?rsa10
  case ysa10 =>
    intro W hW
    obtain ⟨hW0, hW1, hW2⟩ := hW
    go_simp
    try with_reducible rfl
  try simp only [Act.put, List.getElem_toArray, List.getElem_cons_succ, List.getElem_cons_zero, List.setIfInBounds_toArray, List.set_cons_zero, List.set_cons_succ]
  refine wpAnyU_take 11 (v := ?vsa11) rfl (by kernel_rfl) (by kernel_rfl) (fun _ _ _ h => h) hS (Or.inl ⟨rfl, ?ysa11⟩) ?rsa11
  case ysa11 =>
    intro W hW
    obtain ⟨hW0, hW1, hW2⟩ := hW
    go_simp
    try with_reducible rfl
  try simp only [Act.put, List.getElem_toArray, List.getElem_cons_succ, List.getElem_cons_zero, List.setIfInBounds_toArray, List.set_cons_zero, List.set_cons_succ]
  refine wpAnyU_take 12 (v := ?vsa12) rfl (by kernel_rfl) (by kernel_rfl) (fun _ _ _ h => h) hS (Or.inl ⟨rfl, ?ysa12⟩) ?rsa12
  case ysa12 =>
    intro W hW
    obtain ⟨hW0, hW1, hW2⟩ := hW
    go_simp
    try with_reducible rfl
  try simp only [Act.put, List.getElem_toArray, List.getElem_cons_succ, List.getElem_cons_zero, List.setIfInBounds_toArray, List.set_cons_zero, List.set_cons_succ]
  refine wpAnyU_one 8 (by kernel_rfl) rfl (fun K hK => ?_)
  refine step_call rfl 84 Try.f84 Try.func84 (by kernel_rfl) (by kernel_rfl) _ _ rfl #[.slice A n c] (by simp [Act.eval]) ?_
  refine (clone_ok w2 w2 [] (Mem.start w2) A n c xs ⟨hx2⟩ hn).mono ?_
  rintro e w3 ⟨A3, c3, rfl, hM3⟩
  refine ⟨_, rfl, ?_⟩
  have hT := And.intro (Gr.cell hM3.below hS.1) (And.intro (Gr.cell hM3.below hS.2.1) (Gr.cell hM3.below hS.2.2))
  refine hK _ _ (fun _ => hT) ?_
  clear hK K
  try simp only [Act.put, List.getElem_toArray, List.getElem_cons_succ, List.getElem_cons_zero, List.setIfInBounds_toArray, List.set_cons_zero, List.set_cons_succ]
  have hm3 := hm2.join hM3
  refine wpAnyU_one 13 (by kernel_rfl) rfl (fun K hK => ?_)
  go_simp
  refine hK _ _ (fun _ => ⟨hT.1, hT.2.1, hT.2.2⟩) ?_
  clear hK K
  try simp only [Act.put, List.getElem_toArray, List.getElem_cons_succ, List.getElem_cons_zero, List.setIfInBounds_toArray, List.set_cons_zero, List.set_cons_succ]
  refine wpAnyU_one 14 (by kernel_rfl) rfl (fun K hK => ?_)
  refine step_setrow rfl 71 _ _ rfl gb rfl 71 _ (obC 9 A3 n c3 none 0 0 0 cap sh) rfl hm3.swap sz_O rfl (obC_one _ _ _ _ _ _ _ _ _ _) ?_
  intro w9 hm9
  refine hK _ _ (fun h => absurd h (by decide)) ?_
  clear hK K
  refine wpAnyU_done (by kernel_rfl) ?_ _
  go_wp2
  exact bodyPost_ret (Mm.res_cell rfl _ gb 71 (obC 9 A3 n c3 none 0 0 0 cap sh) (0, 0) rfl hm9 m0 row_O sz_O) rfl ⟨A3, c3, rfl, hm9.tail⟩
theorem objR_ok (w0 w : World) (L : List Chunk) (hm : Mem w0 w L) (g : Nat) (A : Option Addr) (n c : Nat) (xs : List V2) (hx : Fact (RdC w 2 (.slice A n c) (fV xs))) (hn : n ≤ 16777216) (KA : Option Addr) (kn kc : Nat) (ks : List Int) (hk : Fact (RdC w 1 (.slice KA kn kc) (nums .i64 ks))) (hkn : kn ≤ 16777216)
    (c0 : w.cell? ⟨g, 0, none⟩ = some (.slice KA kn kc)) (c1 : w.cell? ⟨g, 1, none⟩ = some (.slice A n c)) :
    Calls Try.prog 143 #[.pointer (some ⟨g, 0, none⟩)] w fun e w' => ∃ A' c' K' k', e = .returned (.agg (obC 7 A' n c' K' kn k' 0 0 false).toArray) ∧ Mem w0 w' (Own 2 (.slice A' n c') (fV xs) :: Own 1 (.slice K' kn k') (nums .i64 ks) :: L) := by
  go_enter Try.func143, Try.ntmps143
  go_upto_region 1 with (fail)
  have hm1 := hm.alloc (.cells [.int .i64 0, .slice none 0 0, .slice none 0 0, .int .i64 0, .int .i64 0, .bool false].toArray 71)
  have hg1 := (Gr.refl w).alloc (.cells [.int .i64 0, .slice none 0 0, .slice none 0 0, .int .i64 0, .int .i64 0, .bool false].toArray 71)
  generalize hgb : w.heap.size = gb at hm1 ⊢
  generalize hw1 : w.alloc (.cells [.int .i64 0, .slice none 0 0, .slice none 0 0, .int .i64 0, .int .i64 0, .bool false].toArray 71) = w1 at hm1 hg1
  try refine wp_world hw1 ?_
  clear hw1 hgb
  have hm2 := hm1.drew
  have hx2 := hx.out.gr hg1.drew
  have hk2 := hk.out.gr hg1.drew
  have hS := And.intro (hg1.drew.cell c0) (hg1.drew.cell c1)
  refine wp_region_until (S := fun W => W.cell? ⟨g, 0, none⟩ = some (.slice KA kn kc) ∧ W.cell? ⟨g, 1, none⟩ = some (.slice A n c)) 11 (by kernel_rfl) ?_
  generalize w1.drew = w2 at hS hm2 hx2 hk2 ⊢
  refine wpAnyU_take 0 (v := ?vsa0) rfl (by kernel_rfl) (by kernel_rfl) (fun _ _ _ h => h) hS (Or.inl ⟨rfl, ?ysa0⟩) ?rsa0
  case ysa0 =>
    intro W hW
    obtain ⟨hW0, hW1⟩ := hW
    go_simp
    try with_reducible rfl
  try simp only [Act.put, List.getElem_toArray, List.getElem_cons_succ, List.getElem_cons_zero, List.setIfInBounds_toArray, List.set_cons_zero, List.set_cons_succ]
  refine wpAnyU_take 1 (v := ?vsa1) rfl (by kernel_rfl) (by kernel_rfl) (fun _ _ _ h => h) hS (Or.inl ⟨rfl, ?ysa1⟩) ?rsa1
  case ysa1 =>
    intro W hW
    obtain ⟨hW0, hW1⟩ := hW
    go_simp
    try with_reducible rfl
  try simp only [Act.put, List.getElem_toArray, List.getElem_cons_succ, List.getElem_cons_zero, List.setIfInBounds_toArray, List.set_cons_zero, List.set_cons_succ]
  refine wpAnyU_take 2 (v := ?vsa2) rfl (by kernel_rfl) (by kernel_rfl) (fun _ _ _ h => h) hS (Or.inl ⟨rfl, ?ysa2⟩) ?rsa2
  case ysa2 =>
    intro W hW
    obtain ⟨hW0, hW1⟩ := hW
    go_simp
    try with_reducible rfl
  try simp only [Act.put, List.getElem_toArray, List.getElem_cons_succ, List.getElem_cons_zero, List.setIfInBounds_toArray, List.set_cons_zero, List.set_cons_succ]
  refine wpAnyU_take 3 (v := ?vsa3) rfl (by kernel_rfl) (by kernel_rfl) (fun _ _ _ h => h) hS (Or.inl ⟨rfl, ?ysa3⟩) ?rsa3
  case ysa3 =>
    intro W hW
    obtain ⟨hW0, hW1⟩ := hW
    go_simp
    try with_reducible rfl
  try simp only [Act.put, List.getElem_toArray, List.getElem_cons_succ, List.getElem_cons_zero, List.setIfInBounds_toArray, List.set_cons_zero, List.set_cons_succ]
  refine wpAnyU_take 5 (v := ?vsa5) rfl (by kernel_rfl) (by kernel_rfl) (fun _ _ _ h => h) hS (Or.inl ⟨rfl, ?ysa5⟩) ?rsa5
  case ysa5 =>
    intro W hW
    obtain ⟨hW0, hW1⟩ := hW
    go_simp
    try with_reducible rfl
  try simp only [Act.put, List.getElem_toArray, List.getElem_cons_succ, List.getElem_cons_zero, List.setIfInBounds_toArray, List.set_cons_zero, List.set_cons_succ]
  refine wpAnyU_take 6 (v := ?vsa6) rfl (by kernel_rfl) (by kernel_rfl) (fun _ _ _ h => h) hS (Or.inl ⟨rfl, ?ysa6⟩) ?rsa6
  case ysa6 =>
    intro W hW
    obtain ⟨hW0, hW1⟩ := hW
    go_simp
    try with_reducible rfl
  try simp only [Act.put, List.getElem_toArray, List.getElem_cons_succ, List.getElem_cons_zero, List.setIfInBounds_toArray, List.set_cons_zero, List.set_cons_succ]
  refine wpAnyU_take 7 (v := ?vsa7) rfl (by kernel_rfl) (by kernel_rfl) (fun _ _ _ h => h) hS (Or.inl ⟨rfl, ?ysa7⟩) ?rsa7
  case ysa7 =>
    intro W hW
    obtain ⟨hW0, hW1⟩ := hW
    go_simp
    try with_reducible rfl
  try simp only [Act.put, List.getElem_toArray, List.getElem_cons_succ, List.getElem_cons_zero, List.setIfInBounds_toArray, List.set_cons_zero, List.set_cons_succ]
  refine wpAnyU_take 8 (v := ?vsa8) rfl (by kernel_rfl) (by kernel_rfl) (fun _ _ _ h => h) hS (Or.inl ⟨rfl, ?ysa8⟩) ?rsa8
  case ysa8 =>
    intro W hW
    obtain ⟨hW0, hW1⟩ := hW
    go_simp
    try with_reducible rfl
  try simp only [Act.put, List.getElem_toArray, List.getElem_cons_succ, List.getElem_cons_zero, List.setIfInBounds_toArray, List.set_cons_zero, List.set_cons_succ]
  refine wpAnyU_one 4 (by kernel_rfl) rfl (fun K hK => ?_)
  refine step_call rfl 145 Try.f145 Try.func145 (by kernel_rfl) (by kernel_rfl) _ _ rfl #[.slice KA kn kc] (by simp [Act.eval]) ?_
  refine (cloneN_ok w2 w2 [] (Mem.start w2) KA kn kc ks ⟨hk2⟩ hkn).mono ?_
  rintro e w3 ⟨A3, c3, rfl, hM3⟩
  refine ⟨_, rfl, ?_⟩
  have hT := And.intro (Gr.cell hM3.below hS.1) (Gr.cell hM3.below hS.2)
  refine hK _ _ (fun _ => hT) ?_
  clear hK K
  try simp only [Act.put, List.getElem_toArray, List.getElem_cons_succ, List.getElem_cons_zero, List.setIfInBounds_toArray, List.set_cons_zero, List.set_cons_succ]
  have hm3 := hm2.join hM3
  have hx3 := hx2.gr hM3.below
  refine wpAnyU_one 9 (by kernel_rfl) rfl (fun K hK => ?_)
  refine step_call rfl 84 Try.f84 Try.func84 (by kernel_rfl) (by kernel_rfl) _ _ rfl #[.slice A n c] (by simp [Act.eval]) ?_
  refine (clone_ok w3 w3 [] (Mem.start w3) A n c xs ⟨hx3⟩ hn).mono ?_
  rintro e w4 ⟨A4, c4, rfl, hM4⟩
  refine ⟨_, rfl, ?_⟩
  have hU := And.intro (Gr.cell hM4.below hT.1) (Gr.cell hM4.below hT.2)
  refine hK _ _ (fun _ => hU) ?_
  clear hK K
  try simp only [Act.put, List.getElem_toArray, List.getElem_cons_succ, List.getElem_cons_zero, List.setIfInBounds_toArray, List.set_cons_zero, List.set_cons_succ]
  have hm4 := hm3.join hM4
  refine wpAnyU_one 10 (by kernel_rfl) rfl (fun K hK => ?_)
  go_simp
  refine hK _ _ (fun _ => ⟨hU.1, hU.2⟩) ?_
  clear hK K
  try simp only [Act.put, List.getElem_toArray, List.getElem_cons_succ, List.getElem_cons_zero, List.setIfInBounds_toArray, List.set_cons_zero, List.set_cons_succ]
  refine wpAnyU_one 11 (by kernel_rfl) rfl (fun K hK => ?_)
  refine step_setrow rfl 71 _ _ rfl gb rfl 71 _ (obC 7 A4 n c4 A3 kn c3 0 0 false) rfl (hm4.perm (((List.Perm.swap _ _ _).cons _).trans (List.Perm.swap _ _ _))) sz_O rfl (obC_one _ _ _ _ _ _ _ _ _ _) ?_
  intro w9 hm9
  refine hK _ _ (fun h => absurd h (by decide)) ?_
  clear hK K
  refine wpAnyU_done (by kernel_rfl) ?_ _
  go_wp2
  exact bodyPost_ret (Mm.res_cell rfl _ gb 71 (obC 7 A4 n c4 A3 kn c3 0 0 false) (0, 0) rfl hm9 m0 row_O sz_O) rfl ⟨A4, c4, A3, c3, rfl, hm9.tail⟩
end Go.Proofs.Ytpibchjkmaghnaa
