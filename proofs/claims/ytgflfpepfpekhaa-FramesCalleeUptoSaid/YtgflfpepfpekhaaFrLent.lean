import Derived.Test.YtgflfpepfpekhaaFrLentW
import Derived.Test.YtgflfpepfpekhaaCut
namespace Go.Proofs.Ytgflfpepfpekhaa
open Go.RowKit Go.Mm
set_option maxHeartbeats 2000000
set_option maxRecDepth 100000
theorem svone (A B : Option Addr) {n c m d : Nat} : One [.slice A n c, .slice B m d] := fun u hu => by simp at hu; rcases hu with rfl | rfl <;> rfl
theorem lentProgram_ok (w : World) (p : Pg) (hp : Fact (PgOk w p)) (hk : p.kn ≤ 1048576) :
    Calls Try.prog 13 #[vP p] w fun e w' => ∃ KA kc FA fc hs, e = .returned (vP (lentP p KA kc FA fc hs)) ∧ Gr w w' ∧ LentOk w' p KA kc FA fc hs := by
  obtain ⟨iC, ci, cz0, cz1, cz2⟩ := info_parts inf_C
  obtain ⟨iF, fi, fz0, fz1, fz2⟩ := info_parts inf_F
  have hfn := hp.out.small.1
  have hfl : Fact (p.fns.length = p.fn) := ⟨rd_len cF_len (by omega) hp.out.fns⟩
  have hcl : Fact (p.consts.length = p.kn) := ⟨rd_len cC_len (by omega) hp.out.consts⟩
  obtain ⟨kA, kn, kc, consts, fA, n, fc, fns⟩ := p
  simp only [vP] at *
  try dsimp only at hk hfn hfl hcl
  go_enter Try.func13, Try.ntmps13
  go_upto_region 1 with (fail)
  have hmb := (((Mem.start w).alloc (.cells [.slice kA kn kc, .slice fA n fc].toArray 25)).alloc (.cells [.slice none 0 0, .slice none 0 0].toArray 25))
  have hgb : ((w.alloc (.cells [.slice kA kn kc, .slice fA n fc].toArray 25)).alloc (.cells [.slice none 0 0, .slice none 0 0].toArray 25)).heap.size = w.heap.size + 2 := by simp
  simp only [World.size_alloc] at hmb
  generalize hgX : w.heap.size = g at hmb hgb ⊢
  generalize hwX : ((w.alloc (.cells [.slice kA kn kc, .slice fA n fc].toArray 25)).alloc (.cells [.slice none 0 0, .slice none 0 0].toArray 25)) = wb at hmb hgb
  try refine wp_world hwX ?_
  clear hwX hgX
  have p1 := hmb.cell m1 0 rfl
  have p2 := hmb.cell m1 1 rfl
  have hp := Fact.mk (hp.out.gr hmb.below)
  go_upto_region 2 with (fail)
  have hm := (Mem.start wb).alloc (.cells [.slice none 0 0, .slice none 0 0].toArray 25)
  generalize hw1 : wb.alloc (.cells [.slice none 0 0, .slice none 0 0].toArray 25) = w1 at hm
  try refine wp_world hw1 ?_
  clear hw1
  rw [hgb] at hm
  have hgb := Fact.mk hgb
  have q1 := hm.below.cell (World.block_lt_of_cell? wb _ p2) |>.trans p2
  go_wp2
  go_loopw [5] (fun v w' => ∃ (k : Nat) (A' : Option Addr) (c' : Nat), v = .int .i64 k ∧ k ≤ kn ∧ Mem wb w' [Blk (g + 2) (.cells [.slice A' k c', .slice none 0 0].toArray 25), Own 3 (.slice A' k c') (fC (consts.take k))]) (fun v _ => kn - (intOf v).toNat)
  case atStart => exact ⟨0, none, 0, rfl, by omega, (hm.nil 3 none).swap⟩
  case round =>
    clear hm q1
    obtain ⟨k, A', c', rfl, hkk, hm⟩ := hrel
    have q1 := hm.below.cell (World.block_lt_of_cell? wb _ p1) |>.trans p1
    by_cases hlt : k < kn
    · obtain ⟨b, o, e, r1, _, _⟩ := rd_at cC_len (by omega) c0 hp.out.consts k hlt
      dsimp only at e
      cases e
      have hxe : ∃ x, Fact (consts.getD k c0 = x) := ⟨_, ⟨rfl⟩⟩
      obtain ⟨x, hxe⟩ := hxe
      rw [hxe.out] at r1
      have r1 := rng_gr r1 hm.below
      have htk : Fact (consts.take (k + 1) = consts.take k ++ [x]) := ⟨by rw [← hxe.out]; exact take_snoc _ _ _ (by have := hcl.out; omega)⟩
      obtain ⟨x1, x2, x3⟩ := x
      have a1 : wr.cell? ⟨b, o + k * 3, none⟩ = some (.int .i64 x1) := r1 0 _ rfl
      have a2 : wr.cell? ⟨b, o + k * 3 + 1, none⟩ = some (.int .i64 x2) := r1 1 _ rfl
      have a3 : wr.cell? ⟨b, o + k * 3 + 2, none⟩ = some (.string x3) := r1 2 _ rfl
      have d1 := hm.cell m0 0 rfl
      have f1 := hm.free m0 0
      have l1 : g + 2 < wr.heap.size := (hm.rng _ m0 (g + 2) rfl).2
      have l2 : g < wr.heap.size := World.block_lt_of_cell? wr _ q1
      have l3 : b < wr.heap.size := World.block_lt_of_cell? wr _ a1
      go_upto_region 6 with (fail)
      go_region_law (refine step_app rfl _ _ _ rfl 130 iC _ 3 32 ty_Cs ci cz0 cz1 cz2 rfl A' k c' _ rfl ((hm.alloc _).pull2.drew) _ 1 1 (cC (x1, x2, x3)) rfl ((RdC.lit _ _ _ _ _ rfl (by simp [maxLen]) (cC_one (x1, x2, x3))).gr (Gr.refl _).drew) (by unfold maxLen; omega) (by omega) ?_; intro A1 e1 w2 HM1; have d1 := HM1.cell m2 0 rfl; have f1 := HM1.free m2 0)
      all_goals
        go_wp2
        go_roundw
        case rel =>
          have hm2 := (HM1.pull2.set 0 (.slice A1 (k + 1) e1)).sub (.cons_cons _ (.cons_cons _ (.cons _ (List.Sublist.refl _))))
          refine ⟨k + 1, A1, e1, by go_num, by omega, ?_⟩
          rw [htk.out, fC_app]
          simpa [fC] using hm2
        case measure => simp [intOf]; omega
    · obtain rfl : k = kn := by omega
      rw [List.take_of_length_le (Nat.le_of_eq hcl.out)] at hm
      go_wp2
      obtain ⟨wo, hwo⟩ : ∃ wo : World, wo = wr := ⟨_, rfl⟩
      rw [← hwo] at hm ⊢
      clear hwo q1
      go_loopw [6] (fun v w' => ∃ (i : Nat) (A' : Option Addr) (c' : Nat), v = .int .i64 i ∧ i ≤ 64 ∧ Mem wb w' [Blk (g + 2) (.cells [.slice A' (k + i) c', .slice none 0 0].toArray 25), Own 3 (.slice A' (k + i) c') (fC (consts ++ marksC i))]) (fun v _ => 64 - (intOf v).toNat)
      case atStart => exact ⟨0, A', c', rfl, by omega, by simpa [marksC] using hm⟩
      case round =>
        clear hm A' c'
        obtain ⟨i, A', c', rfl, hi1, hm⟩ := hrel
        have d1 := hm.cell m0 0 rfl
        have f1 := hm.free m0 0
        by_cases hlt2 : i < 64
        · go_wp2_with (at_builtin; refine wp_app rfl _ _ _ rfl 130 iC _ 3 32 ty_Cs ci cz0 cz1 cz2 rfl A' (k + i) c' _ rfl (L := [Blk _ _, Blk _ _]) ((hm.alloc _).pull2) _ 1 1 [.int .i64 (-7), .int .i64 (i : Int), .string ⟨#[]⟩] rfl (RdC.lit _ _ _ _ _ rfl (by simp [maxLen]) (cC_one (-7, (i : Int), ⟨#[]⟩))) (by unfold maxLen; omega) (by omega) ?_; intro A1 e1 w2 HM1; have d1 := HM1.cell m2 0 rfl; have f1 := HM1.free m2 0)
          go_roundw
          case rel =>
            have hm2 := (HM1.pull2.set 0 (.slice A1 (k + i + 1) e1)).sub (.cons_cons _ (.cons_cons _ (.cons _ (List.Sublist.refl _))))
            refine ⟨i + 1, A1, e1, by go_num, by omega, ?_⟩
            rw [show k + (i + 1) = k + i + 1 by omega, marksC_succ, ← List.append_assoc, fC_app]
            simpa [fC, cC, markC] using hm2
          case measure => simp [intOf]; omega
        · have e64 : i = 64 := by omega
          rw [e64] at hm
          go_wp2
          clear e64
          obtain ⟨wo, hwo⟩ : ∃ wo : World, wo = wr := ⟨_, rfl⟩
          rw [← hwo] at hm ⊢
          clear hwo d1 f1
          go_loopw [7] (fun v w' => ∃ (j : Nat) (F' : Option Addr) (d' : Nat), v = .int .i64 j ∧ j ≤ n ∧ Mem wb w' [Blk (g + 2) (.cells [.slice A' (k + 64) c', .slice F' j d'].toArray 25), Own 5 (.slice F' j d') (fF (fns.take j)), Own 3 (.slice A' (k + 64) c') (fC (consts ++ marksC 64))]) (fun v _ => n - (intOf v).toNat)
          case atStart => exact ⟨0, none, 0, rfl, by omega, (hm.nil 5 none).swap⟩
          case round =>
            clear hm
            obtain ⟨j, F', d', rfl, hj, hm⟩ := hrel
            have q1 := hm.below.cell (World.block_lt_of_cell? wb _ p2) |>.trans p2
            by_cases hlt3 : j < n
            · obtain ⟨b, o, e, r1, _, _⟩ := rd_at cF_len (by omega) fn0 hp.out.fns j hlt3
              dsimp only at e
              cases e
              have hxe : ∃ x, Fact (fns.getD j fn0 = x) := ⟨_, ⟨rfl⟩⟩
              obtain ⟨x, hxe⟩ := hxe
              rw [hxe.out] at r1
              have r1 := rng_gr r1 hm.below
              have htk : Fact (fns.take (j + 1) = fns.take j ++ [x]) := ⟨by rw [← hxe.out]; exact take_snoc _ _ _ (by have := hfl.out; omega)⟩
              obtain ⟨x1, x2, x3, x4, x5, x6, x7, x8, x9, x10, x11⟩ := x
              have a1 : wr.cell? ⟨b, o + j * 5, none⟩ = some (.string x1) := r1 0 _ rfl
              have a2 : wr.cell? ⟨b, o + j * 5 + 1, none⟩ = some (.int .i64 x2) := r1 1 _ rfl
              have a3 : wr.cell? ⟨b, o + j * 5 + 2, none⟩ = some (.int .i64 x3) := r1 2 _ rfl
              have a4 : wr.cell? ⟨b, o + j * 5 + 3, none⟩ = some (.slice x4 x5 x6) := r1 3 _ rfl
              have a5 : wr.cell? ⟨b, o + j * 5 + 4, none⟩ = some (.slice x8 x9 x10) := r1 4 _ rfl
              have d1 := hm.cell m0 1 rfl
              have f1 := hm.free m0 1
              have l1 : g + 2 < wr.heap.size := (hm.rng _ m0 (g + 2) rfl).2
              have l2 : g < wr.heap.size := World.block_lt_of_cell? wr _ q1
              have l3 : b < wr.heap.size := World.block_lt_of_cell? wr _ a1
              go_upto_region 14 with (fail)
              go_region_law (refine step_app rfl _ _ _ rfl 87 iF _ 5 80 ty_Fs fi fz0 fz1 fz2 rfl F' j d' _ rfl ((hm.alloc _).pull2.drew) _ 1 1 [.string x1, .int .i64 x2, .int .i64 x3, .slice x4 x5 x6, .slice x8 x9 x10] rfl ((RdC.lit _ _ _ _ _ rfl (by simp [maxLen]) (cF_one ⟨x1, x2, x3, x4, x5, x6, x7, x8, x9, x10, x11⟩)).gr (Gr.refl _).drew) (by unfold maxLen; omega) (by omega) ?_; intro A1 e1 w2 HM1; have d1 := HM1.cell m2 1 rfl; have f1 := HM1.free m2 1)
              all_goals
                go_wp2
                go_roundw
                case rel =>
                  have hm2 := (HM1.pull2.set 1 (.slice A1 (j + 1) e1)).sub (.cons_cons _ (.cons_cons _ (.cons _ (List.Sublist.refl _))))
                  have hm3 : Mem wb (w2.setCell ⟨g + 2, 1, none⟩ (.slice A1 (j + 1) e1)) [Blk (g + 2) (.cells [.slice A' (k + 64) c', .slice A1 (j + 1) e1].toArray 25), Own 5 (.slice A1 (j + 1) e1) (fF (fns.take (j + 1))), Own 3 (.slice A' (k + 64) c') (fC (consts ++ marksC 64))] := by
                    rw [htk.out, fF_app]
                    simpa [fF, cF] using hm2
                  first
                    | exact ⟨j + 1, A1, e1, by go_num, by omega, hm3⟩
                    | exact ⟨j + 1, by omega, by omega, A1, e1, hm3⟩
                case measure => simp [intOf]; omega
            · obtain rfl : j = n := by omega
              rw [List.take_of_length_le (Nat.le_of_eq hfl.out)] at hm
              go_wp2
              obtain ⟨wo, hwo⟩ : ∃ wo : World, wo = wr := ⟨_, rfl⟩
              rw [← hwo] at hm ⊢
              clear hwo q1
              go_loopw [8] (fun v w' => ∃ (i : Nat) (F' : Option Addr) (d' : Nat) (hs : List Fn), v = .int .i64 i ∧ i ≤ j ∧ Mem wb w' [Blk (g + 2) (.cells [.slice A' (k + 64) c', .slice F' (j + i) d'].toArray 25), Own 5 (.slice F' (j + i) d') (fF (fns ++ hs)), Codes hs, Hands hs, Own 3 (.slice A' (k + 64) c') (fC (consts ++ marksC 64))] ∧ Fact (hs.length = i ∧ ∀ q, q < i → FullOf (fns.getD q fn0) q (hs.getD q fn0))) (fun v _ => j - (intOf v).toNat)
              case atStart => exact ⟨0, F', d', [], rfl, by omega, by simpa using ((hm.many0 4 Fn.vh Fn.fh).many0 2 Fn.vc Fn.fc).sel 5 [2, 3, 0, 1, 4] (by decide), ⟨rfl, fun q hq => by omega⟩⟩
              case round =>
                clear hm F' d'
                obtain ⟨i, F', d', hs, rfl, hi2, hm, hh⟩ := hrel
                have q1 := hm.below.cell (World.block_lt_of_cell? wb _ p2) |>.trans p2
                by_cases hlt4 : i < j
                · obtain ⟨b, o, e, r1, _, _⟩ := rd_at cF_len (by omega) fn0 hp.out.fns i hlt4
                  dsimp only at e
                  cases e
                  have hxm : fns.getD i fn0 ∈ fns := List.mem_of_getElem? (getD_some fns fn0 i (by have := hfl.out; omega))
                  have hx1 := hp.out.each _ hxm
                  have hx2 := hp.out.small.2 _ hxm
                  have hxe : ∃ x, Fact (fns.getD i fn0 = x) := ⟨_, ⟨rfl⟩⟩
                  obtain ⟨x, hxe⟩ := hxe
                  rw [hxe.out] at r1 hx1 hx2
                  clear hxm
                  obtain ⟨x1, x2, x3, x4, x5, x6, x7, x8, x9, x10, x11⟩ := x
                  have a4 : wb.cell? ⟨b, o + i * 5 + 3, none⟩ = some (.slice x4 x5 x6) := r1 3 _ rfl
                  have a5 : wb.cell? ⟨b, o + i * 5 + 4, none⟩ = some (.slice x8 x9 x10) := r1 4 _ rfl
                  have rc := Fact.mk hx1.1
                  have rh := Fact.mk hx1.2
                  dsimp only at rc rh hx2
                  have d1 := hm.cell m0 1 rfl
                  have f1 := hm.free m0 1
                  have l1 : g + 2 < wr.heap.size := (hm.rng _ m0 (g + 2) rfl).2
                  have hgr := hm.below
                  clear r1 hx1
                  go_upto_region 18 with (fail)
                  have hgl : wb.heap.size ≤ g + 2 := Nat.le_of_eq hgb.out
                  have hmd := hm.drew
                  refine wp_region_until (S := fun W => Gr wb W ∧ W.cell? ⟨g + 2, 1, none⟩ = some (.slice F' (j + i) d') ∧ W.cell? ⟨g, 1, none⟩ = some (.slice (some ⟨b, o, none⟩) j fc) ∧ W.cell? ⟨b, o + i * 5 + 3, none⟩ = some (.slice x4 x5 x6) ∧ W.cell? ⟨b, o + i * 5 + 4, none⟩ = some (.slice x8 x9 x10)) 19 (by kernel_rfl) ?_
                  have hS : Gr wb wr.drew ∧ wr.drew.cell? ⟨g + 2, 1, none⟩ = some (.slice F' (j + i) d') ∧ wr.drew.cell? ⟨g, 1, none⟩ = some (.slice (some ⟨b, o, none⟩) j fc) ∧ wr.drew.cell? ⟨b, o + i * 5 + 3, none⟩ = some (.slice x4 x5 x6) ∧ wr.drew.cell? ⟨b, o + i * 5 + 4, none⟩ = some (.slice x8 x9 x10) := ⟨hgr.drew, d1, Gr.cell hgr p2, Gr.cell hgr a4, Gr.cell hgr a5⟩
                  refine wpAnyU_take 0 (v := ?vk0_0) rfl (by kernel_rfl) (by kernel_rfl) (fun _ _ _ h => h) hS (Or.inl ⟨rfl, ?yk0_0⟩) ?rk0_0
                  case yk0_0 =>
                    intro W hW
                    obtain ⟨hW0, hW1, hW2, hW3, hW4⟩ := hW
                    go_simp
                    try with_reducible rfl
                  try simp only [Act.put, List.setIfInBounds_toArray, List.set_cons_zero, List.set_cons_succ]
                  refine wpAnyU_take 1 (v := ?vk0_1) rfl (by kernel_rfl) (by kernel_rfl) (fun _ _ _ h => h) hS (Or.inl ⟨rfl, ?yk0_1⟩) ?rk0_1
                  case yk0_1 =>
                    intro W hW
                    obtain ⟨hW0, hW1, hW2, hW3, hW4⟩ := hW
                    go_simp
                    try with_reducible rfl
                  try simp only [Act.put, List.setIfInBounds_toArray, List.set_cons_zero, List.set_cons_succ]
                  refine wpAnyU_take 2 (v := ?vk0_2) rfl (by kernel_rfl) (by kernel_rfl) (fun _ _ _ h => h) hS (Or.inl ⟨rfl, ?yk0_2⟩) ?rk0_2
                  case yk0_2 =>
                    intro W hW
                    obtain ⟨hW0, hW1, hW2, hW3, hW4⟩ := hW
                    go_simp
                    try with_reducible rfl
                  try simp only [Act.put, List.setIfInBounds_toArray, List.set_cons_zero, List.set_cons_succ]
                  refine wpAnyU_take 3 (v := ?vk0_3) rfl (by kernel_rfl) (by kernel_rfl) (fun _ _ _ h => h) hS (Or.inl ⟨rfl, ?yk0_3⟩) ?rk0_3
                  case yk0_3 =>
                    intro W hW
                    obtain ⟨hW0, hW1, hW2, hW3, hW4⟩ := hW
                    go_simp
                    try with_reducible rfl
                  try simp only [Act.put, List.setIfInBounds_toArray, List.set_cons_zero, List.set_cons_succ]
                  refine wpAnyU_take 4 (v := ?vk0_4) rfl (by kernel_rfl) (by kernel_rfl) (fun _ _ _ h => h) hS (Or.inl ⟨rfl, ?yk0_4⟩) ?rk0_4
                  case yk0_4 =>
                    intro W hW
                    obtain ⟨hW0, hW1, hW2, hW3, hW4⟩ := hW
                    go_simp
                    try with_reducible rfl
                  try simp only [Act.put, List.setIfInBounds_toArray, List.set_cons_zero, List.set_cons_succ]
                  refine wpAnyU_take 5 (v := ?vk0_5) rfl (by kernel_rfl) (by kernel_rfl) (fun _ _ _ h => h) hS (Or.inl ⟨rfl, ?yk0_5⟩) ?rk0_5
                  case yk0_5 =>
                    intro W hW
                    obtain ⟨hW0, hW1, hW2, hW3, hW4⟩ := hW
                    go_simp
                    try with_reducible rfl
                  try simp only [Act.put, List.setIfInBounds_toArray, List.set_cons_zero, List.set_cons_succ]
                  refine wpAnyU_take 6 (v := ?vk0_6) rfl (by kernel_rfl) (by kernel_rfl) (fun _ _ _ h => h) hS (Or.inl ⟨rfl, ?yk0_6⟩) ?rk0_6
                  case yk0_6 =>
                    intro W hW
                    obtain ⟨hW0, hW1, hW2, hW3, hW4⟩ := hW
                    go_simp
                    try with_reducible rfl
                  try simp only [Act.put, List.setIfInBounds_toArray, List.set_cons_zero, List.set_cons_succ]
                  refine wpAnyU_take 7 (v := ?vk0_7) rfl (by kernel_rfl) (by kernel_rfl) (fun _ _ _ h => h) hS (Or.inl ⟨rfl, ?yk0_7⟩) ?rk0_7
                  case yk0_7 =>
                    intro W hW
                    obtain ⟨hW0, hW1, hW2, hW3, hW4⟩ := hW
                    go_simp
                    try with_reducible rfl
                  try simp only [Act.put, List.setIfInBounds_toArray, List.set_cons_zero, List.set_cons_succ]
                  refine wpAnyU_take 8 (v := ?vk0_8) rfl (by kernel_rfl) (by kernel_rfl) (fun _ _ _ h => h) hS (Or.inl ⟨rfl, ?yk0_8⟩) ?rk0_8
                  case yk0_8 =>
                    intro W hW
                    obtain ⟨hW0, hW1, hW2, hW3, hW4⟩ := hW
                    go_simp
                    try with_reducible rfl
                  try simp only [Act.put, List.setIfInBounds_toArray, List.set_cons_zero, List.set_cons_succ]
                  refine wpAnyU_take 10 (v := ?vk0_10) rfl (by kernel_rfl) (by kernel_rfl) (fun _ _ _ h => h) hS (Or.inl ⟨rfl, ?yk0_10⟩) ?rk0_10
                  case yk0_10 =>
                    intro W hW
                    obtain ⟨hW0, hW1, hW2, hW3, hW4⟩ := hW
                    go_simp
                    try with_reducible rfl
                  try simp only [Act.put, List.setIfInBounds_toArray, List.set_cons_zero, List.set_cons_succ]
                  refine wpAnyU_take 11 (v := ?vk0_11) rfl (by kernel_rfl) (by kernel_rfl) (fun _ _ _ h => h) hS (Or.inl ⟨rfl, ?yk0_11⟩) ?rk0_11
                  case yk0_11 =>
                    intro W hW
                    obtain ⟨hW0, hW1, hW2, hW3, hW4⟩ := hW
                    go_simp
                    try with_reducible rfl
                  try simp only [Act.put, List.setIfInBounds_toArray, List.set_cons_zero, List.set_cons_succ]
                  refine wpAnyU_take 12 (v := ?vk0_12) rfl (by kernel_rfl) (by kernel_rfl) (fun _ _ _ h => h) hS (Or.inl ⟨rfl, ?yk0_12⟩) ?rk0_12
                  case yk0_12 =>
                    intro W hW
                    obtain ⟨hW0, hW1, hW2, hW3, hW4⟩ := hW
                    go_simp
                    try with_reducible rfl
                  try simp only [Act.put, List.setIfInBounds_toArray, List.set_cons_zero, List.set_cons_succ]
                  refine wpAnyU_take 13 (v := ?vk0_13) rfl (by kernel_rfl) (by kernel_rfl) (fun _ _ _ h => h) hS (Or.inl ⟨rfl, ?yk0_13⟩) ?rk0_13
                  case yk0_13 =>
                    intro W hW
                    obtain ⟨hW0, hW1, hW2, hW3, hW4⟩ := hW
                    go_simp
                    try with_reducible rfl
                  try simp only [Act.put, List.setIfInBounds_toArray, List.set_cons_zero, List.set_cons_succ]
                  refine wpAnyU_take 14 (v := ?vk0_14) rfl (by kernel_rfl) (by kernel_rfl) (fun _ _ _ h => h) hS (Or.inl ⟨rfl, ?yk0_14⟩) ?rk0_14
                  case yk0_14 =>
                    intro W hW
                    obtain ⟨hW0, hW1, hW2, hW3, hW4⟩ := hW
                    go_simp
                    try with_reducible rfl
                  try simp only [Act.put, List.setIfInBounds_toArray, List.set_cons_zero, List.set_cons_succ]
                  refine wpAnyU_take 15 (v := ?vk0_15) rfl (by kernel_rfl) (by kernel_rfl) (fun _ _ _ h => h) hS (Or.inl ⟨rfl, ?yk0_15⟩) ?rk0_15
                  case yk0_15 =>
                    intro W hW
                    obtain ⟨hW0, hW1, hW2, hW3, hW4⟩ := hW
                    go_simp
                    try with_reducible rfl
                  try simp only [Act.put, List.setIfInBounds_toArray, List.set_cons_zero, List.set_cons_succ]
                  refine wpAnyU_one 9 (by kernel_rfl) rfl (fun K hK => ?_)
                  refine step_call rfl 72 Try.f72 Try.func72 (by kernel_rfl) (by kernel_rfl) _ _ rfl #[.slice x4 x5 x6] (by simp [Act.eval]) ?_
                  refine (fullInstrs_ok _ x4 x5 x6 x7 ⟨rc.out.gr hgr.drew⟩ (by omega)).mono ?_
                  rintro e w3 ⟨C, cd, rfl, hn1⟩
                  have hg1 : Gr wb w3 := Gr.trans hgr.drew hn1.gr
                  have hm3 := hmd.new hn1
                  have hS3 : Gr wb w3 ∧ w3.cell? ⟨g + 2, 1, none⟩ = some (.slice F' (j + i) d') ∧ w3.cell? ⟨g, 1, none⟩ = some (.slice (some ⟨b, o, none⟩) j fc) ∧ w3.cell? ⟨b, o + i * 5 + 3, none⟩ = some (.slice x4 x5 x6) ∧ w3.cell? ⟨b, o + i * 5 + 4, none⟩ = some (.slice x8 x9 x10) := ⟨hg1, hm3.cell m1 1 rfl, Gr.cell hg1 p2, Gr.cell hg1 a4, Gr.cell hg1 a5⟩
                  refine ⟨_, rfl, hK _ _ (fun _ => hS3) ?_⟩
                  clear hK K
                  try simp only [Act.put, List.setIfInBounds_toArray, List.set_cons_zero, List.set_cons_succ]
                  refine wpAnyU_one 16 (by kernel_rfl) rfl (fun K hK => ?_)
                  refine step_call rfl 73 Try.f73 Try.func73 (by kernel_rfl) (by kernel_rfl) _ _ rfl #[.slice x8 x9 x10] (by simp [Act.eval]) ?_
                  refine (fullHandlers_ok _ x8 x9 x10 x11 ⟨rh.out.gr hg1⟩ (by omega)).mono ?_
                  rintro e w4 ⟨D, dd, rfl, hn2⟩
                  have hg2 : Gr wb w4 := Gr.trans hg1 hn2.gr
                  have hm4 := hm3.new hn2
                  have hS4 : Gr wb w4 ∧ w4.cell? ⟨g + 2, 1, none⟩ = some (.slice F' (j + i) d') ∧ w4.cell? ⟨g, 1, none⟩ = some (.slice (some ⟨b, o, none⟩) j fc) ∧ w4.cell? ⟨b, o + i * 5 + 3, none⟩ = some (.slice x4 x5 x6) ∧ w4.cell? ⟨b, o + i * 5 + 4, none⟩ = some (.slice x8 x9 x10) := ⟨hg2, hm4.cell m2 1 rfl, Gr.cell hg2 p2, Gr.cell hg2 a4, Gr.cell hg2 a5⟩
                  refine ⟨_, rfl, hK _ _ (fun _ => hS4) ?_⟩
                  clear hK K
                  try simp only [Act.put, List.setIfInBounds_toArray, List.set_cons_zero, List.set_cons_succ]
                  refine wpAnyU_take 17 (v := ?vk1_17) rfl (by kernel_rfl) (by kernel_rfl) (fun _ _ _ h => h) hS4 (Or.inl ⟨rfl, ?yk1_17⟩) ?rk1_17
                  case yk1_17 =>
                    intro W hW
                    obtain ⟨hW0, hW1, hW2, hW3, hW4⟩ := hW
                    go_simp
                    try with_reducible rfl
                  try simp only [Act.put, List.setIfInBounds_toArray, List.set_cons_zero, List.set_cons_succ]
                  refine wpAnyU_one 18 (by kernel_rfl) rfl (fun K hK => ?_)
                  go_simp
                  have hm5 := hm4.alloc (.cells [.string ⟨#[]⟩, .int .i64 (-7), .int .i64 (i : Int), .slice C (x5 + 64) cd, .slice D (x9 + 64) dd].toArray 87)
                  have hg3 := hm5.below
                  refine hK _ _ (fun _ => ⟨hg3, hm5.cell m3 1 rfl, Gr.cell hg3 p2, Gr.cell hg3 a4, Gr.cell hg3 a5⟩) ?_
                  clear hK K
                  refine wpAnyU_one 19 (by kernel_rfl) rfl (fun K hK => ?_)
                  refine step_app rfl _ _ _ rfl 87 iF _ 5 80 ty_Fs fi fz0 fz1 fz2 rfl F' (j + i) d' _ rfl hm5.pull4 _ 1 1 [.string ⟨#[]⟩, .int .i64 (-7), .int .i64 (i : Int), .slice C (x5 + 64) cd, .slice D (x9 + 64) dd] rfl (RdC.lit _ _ _ _ _ rfl (by simp [maxLen]) (cF_one ⟨⟨#[]⟩, -7, (i : Int), C, x5 + 64, cd, [], D, x9 + 64, dd, []⟩)) (by unfold maxLen; omega) (by omega) ?_
                  intro A1 e1 w5 HM1
                  refine hK _ _ (fun h => absurd h (by decide)) ?_
                  clear hK K
                  try simp only [Act.put, List.setIfInBounds_toArray, List.set_cons_zero, List.set_cons_succ]
                  refine wpAnyU_one 20 (by kernel_rfl) rfl (fun K hK => ?_)
                  go_simp
                  refine hK _ _ (fun h => absurd h (by decide)) ?_
                  clear hK K
                  have d5 := HM1.cell m4 1 rfl
                  have f5 := HM1.free m4 1
                  refine wpAnyU_one 21 (by kernel_rfl) rfl (fun K hK => ?_)
                  go_simp
                  refine hK _ _ (fun h => absurd h (by decide)) ?_
                  clear hK K
                  refine wpAnyU_done (by kernel_rfl) ?_ _
                  go_wp2
                  go_roundw
                  case rel =>
                    have hm6 := (HM1.sel 5 [4, 0, 2, 3] (by decide) : Mem wb w5 (Blk _ (.cells [_, _].toArray _) :: _)).set 1 (.slice A1 (j + i + 1) e1)
                    have hm7 := Mem.many1 (v := Fn.vc) (f := Fn.fc) ⟨⟨#[]⟩, -7, (i : Int), C, x5 + 64, cd, x7 ++ marksI 64, D, x9 + 64, dd, x11 ++ marksH 64⟩ (hm6.sel 7 [3, 4, 2, 5, 0, 1, 6] (by decide))
                    have hm8 := Mem.many1 (v := Fn.vh) (f := Fn.fh) ⟨⟨#[]⟩, -7, (i : Int), C, x5 + 64, cd, x7 ++ marksI 64, D, x9 + 64, dd, x11 ++ marksH 64⟩ (hm7.sel 3 [1, 2, 0] (by decide))
                    have hm9 := hm8.sel 4 [2, 3, 1, 0] (by decide)
                    have hh1 := hh.out
                    refine ⟨i + 1, A1, e1, hs ++ [⟨⟨#[]⟩, -7, (i : Int), C, x5 + 64, cd, x7 ++ marksI 64, D, x9 + 64, dd, x11 ++ marksH 64⟩], by go_num, by omega, ?_, ⟨by simp [hh1.1], fun q hq => ?_⟩⟩
                    · rw [← List.append_assoc, fF_app]
                      exact hm9
                    · by_cases e : q = i
                      · subst e
                        rw [hxe.out, getD_snoc_eq _ _ _ _ hh1.1.symm]
                        exact ⟨rfl, rfl, rfl, rfl, rfl, rfl, rfl⟩
                      · rw [getD_snoc_lt _ _ _ _ (by omega)]
                        exact hh1.2 q (by omega)
                  case measure => simp [intOf]; omega
                · have e4 : i = j := by omega
                  rw [e4] at hm hh
                  go_wp2
                  clear e4
                  obtain ⟨wo, hwo⟩ : ∃ wo : World, wo = wr := ⟨_, rfl⟩
                  rw [← hwo] at hm ⊢
                  clear hwo q1
                  go_loopw [9] (fun v w' => ∃ (q : Nat) (F' : Option Addr) (d' : Nat), v = .int .i64 q ∧ q ≤ 64 ∧ Mem wb w' [Blk (g + 2) (.cells [.slice A' (k + 64) c', .slice F' (j + j + q) d'].toArray 25), Own 5 (.slice F' (j + j + q) d') (fF (fns ++ hs ++ marksF j q)), Codes hs, Hands hs, Own 3 (.slice A' (k + 64) c') (fC (consts ++ marksC 64))]) (fun v _ => 64 - (intOf v).toNat)
                  case atStart => exact ⟨0, F', d', rfl, by omega, by simpa [marksF] using hm⟩
                  case round =>
                    clear hm F' d'
                    obtain ⟨q, F', d', rfl, hq1, hm⟩ := hrel
                    have d1 := hm.cell m0 1 rfl
                    have f1 := hm.free m0 1
                    by_cases hlt5 : q < 64
                    · go_wp2_with (at_builtin; refine wp_app rfl _ _ _ rfl 87 iF _ 5 80 ty_Fs fi fz0 fz1 fz2 rfl F' (j + j + q) d' _ rfl (L := [Blk _ _, Blk _ _, Codes hs, Hands hs, _]) ((hm.alloc _).pull2) _ 1 1 [.string ⟨#[]⟩, .int .i64 (-7), .int .i64 ((j : Int) + (q : Int)), .slice none 0 0, .slice none 0 0] rfl (RdC.lit _ _ _ _ _ rfl (by simp [maxLen]) (cF_one (markF j q))) (by unfold maxLen; omega) (by omega) ?_; intro A1 e1 w2 HM1; have d1 := HM1.cell m2 1 rfl; have f1 := HM1.free m2 1)
                      go_roundw
                      case rel =>
                        have hm2 := (HM1.pull2.set 1 (.slice A1 (j + j + q + 1) e1)).sub (.cons_cons _ (.cons_cons _ (.cons _ (List.Sublist.refl _))))
                        refine ⟨q + 1, A1, e1, by go_num, by omega, ?_⟩
                        rw [show j + j + (q + 1) = j + j + q + 1 by omega, marksF_succ, ← List.append_assoc, fF_app]
                        exact hm2
                      case measure => simp [intOf]; omega
                    · have e5 : q = 64 := by omega
                      rw [e5] at hm
                      go_wp2
                      clear e5 d1 f1
                      obtain ⟨wo, hwo⟩ : ∃ wo : World, wo = wr := ⟨_, rfl⟩
                      rw [← hwo] at hm ⊢
                      clear hwo
                      have hcap := OwnAt.cap (hm.ok _ m1)
                      obtain ⟨gf, off, rfl⟩ := OwnAt.addr (hm.ok _ m1) (by omega)
                      have hze : ∃ zs, Fact (List.zipWith lentF fns hs = zs ∧ zs.length = fns.length) := ⟨_, ⟨rfl, by have := hh.out.1; have := hfl.out; simp; omega⟩⟩
                      obtain ⟨zs, hze⟩ := hze
                      go_loopw [10] (fun v w' => ∃ (r : Nat), v = .int .i64 r ∧ r ≤ j ∧ Mem wb w' [Blk (g + 2) (.cells [.slice A' (k + 64) c', .slice (some ⟨gf, off, none⟩) (j + j + 64) d'].toArray 25), Own 5 (.slice (some ⟨gf, off, none⟩) (j + j + 64) d') (fF ((zs.take r ++ fns.drop r) ++ (hs ++ marksF j 64))), Codes hs, Hands hs, Own 3 (.slice A' (k + 64) c') (fC (consts ++ marksC 64))]) (fun v _ => j - (intOf v).toNat)
                      case atStart => exact ⟨0, rfl, by omega, by simpa using hm⟩
                      case round =>
                        clear hm
                        obtain ⟨r, rfl, hr1, hm⟩ := hrel
                        have q1 := hm.below.cell (World.block_lt_of_cell? wb _ p2) |>.trans p2
                        have d1 := hm.cell m0 1 rfl
                        have f1 := hm.free m0 1
                        by_cases hlt6 : r < j
                        · obtain ⟨b, o, e, r1, _, _⟩ := rd_at cF_len (by omega) fn0 hp.out.fns r hlt6
                          dsimp only at e
                          cases e
                          have r0 := Fact.mk r1
                          have r1 := rng_gr r1 hm.below
                          obtain ⟨_, _, e, r2, _, _⟩ := rd_at cF_len (by omega) fn0 (hm.ok _ m1).rd (j + r) (by omega)
                          cases e
                          obtain ⟨_, _, e, r3, _, _⟩ := rd_at cF_len (by omega) fn0 (hm.ok _ m1).rd r (by omega)
                          cases e
                          have hce : (zs.take r ++ fns.drop r ++ (hs ++ marksF j 64)).getD r fn0 = fns.getD r fn0 := cur_at fn0 zs fns _ r (by have := hfl.out; omega) hze.out.2
                          have hcb : (zs.take r ++ fns.drop r ++ (hs ++ marksF j 64)).getD (j + r) fn0 = hs.getD r fn0 := by
                            have e1 := cur_behind fn0 zs fns (hs ++ marksF j 64) r r hze.out.2 (by have := hfl.out; omega)
                            rw [hfl.out] at e1
                            rw [e1, List.getD_eq_getElem?_getD, List.getElem?_append_left (by have := hh.out.1; omega), ← List.getD_eq_getElem?_getD]
                          have hcs := Fact.mk (cur_step fn0 zs fns (hs ++ marksF j 64) r (by have := hfl.out; omega) hze.out.2)
                          have hcl2 : Fact ((zs.take r ++ fns.drop r ++ (hs ++ marksF j 64)).length = j + j + 64) := ⟨by have := hfl.out; have := hh.out.1; have := hze.out.2; simp [marksF_len]; omega⟩
                          have hfo := hh.out.2 r hlt6
                          have hzr : zs.getD r fn0 = lentF (fns.getD r fn0) (hs.getD r fn0) := by
                            rw [← hze.out.1]
                            have h1 := getD_some fns fn0 r (by have := hfl.out; omega)
                            have h2 := getD_some hs fn0 r (by have := hh.out.1; omega)
                            simp only [List.getD_eq_getElem?_getD] at h1 h2 ⊢
                            rw [List.getElem?_zipWith, h1, h2]
                            rfl
                          have hhm : hs.getD r fn0 ∈ hs := List.mem_of_getElem? (getD_some hs fn0 r (by have := hh.out.1; omega))
                          have hc1 : (hs.getD r fn0).cn ≤ (hs.getD r fn0).cc ∧ (hs.getD r fn0).cc ≤ maxLen := OwnAt.cap (hm.ok _ m2 _ hhm)
                          have hc2 : (hs.getD r fn0).hn ≤ (hs.getD r fn0).hc ∧ (hs.getD r fn0).hc ≤ maxLen := OwnAt.cap (hm.ok _ m3 _ hhm)
                          rw [hzr] at hcs
                          rw [hce] at r3
                          rw [hcb] at r2
                          have hcb := hcb
                          have hxe : ∃ x, Fact (fns.getD r fn0 = x) := ⟨_, ⟨rfl⟩⟩
                          obtain ⟨x, hxe⟩ := hxe
                          have hye : ∃ y, Fact (hs.getD r fn0 = y) := ⟨_, ⟨rfl⟩⟩
                          obtain ⟨y, hye⟩ := hye
                          rw [hxe.out] at r0 r1 r3 hfo hcs hce
                          rw [hye.out] at r2 hfo hcs hc1 hc2 hcb
                          have hce := Fact.mk hce
                          have hcb := Fact.mk hcb
                          generalize zs.take r ++ fns.drop r ++ (hs ++ marksF j 64) = cur at *
                          obtain ⟨x1, x2, x3, x4, x5, x6, x7, x8, x9, x10, x11⟩ := x
                          obtain ⟨y1, y2, y3, y4, y5, y6, y7, y8, y9, y10, y11⟩ := y
                          obtain ⟨rfl, rfl, rfl, rfl, rfl, rfl, rfl⟩ := hfo
                          dsimp only at hc1 hc2
                          have a4 : wr.cell? ⟨b, o + r * 5 + 3, none⟩ = some (.slice x4 x5 x6) := r1 3 _ rfl
                          have a5 : wr.cell? ⟨b, o + r * 5 + 4, none⟩ = some (.slice x8 x9 x10) := r1 4 _ rfl
                          have b4 : wr.cell? ⟨gf, off + (j + r) * 5 + 3, none⟩ = some (.slice y4 (x5 + 64) y6) := r2 3 _ rfl
                          have b5 : wr.cell? ⟨gf, off + (j + r) * 5 + 4, none⟩ = some (.slice y8 (x9 + 64) y10) := r2 4 _ rfl
                          have c4 := r3 3 _ rfl
                          have c5 := r3 4 _ rfl
                          clear r1 r2 r3 hhm hzr
                          have e1 : IntKind.i64.wrap ((j : Int) + (r : Int)) = (j : Int) + (r : Int) := IntWalk.i64_in _ (by omega)
                          have e2 : (0 : Int) ≤ (j : Int) + (r : Int) := by omega
                          have e2b : (j : Int) + (r : Int) < (j : Int) + (j : Int) + 64 := by omega
                          have e2c : ((j : Int) + (r : Int)).toNat = j + r := by omega
                          have e3 : r < j + j + 64 := by omega
                          have e4 : x5 ≤ y6 := by omega
                          have e5 : x9 ≤ y10 := by omega
                          go_upto_region 26 with (fail)
                          go_still_tail 19, (by kernel_rfl)
                          change wpList _ _ _ _ _ wr.drew
                          have hmd := hm.drew
                          have hj3 : (fF cur)[r * 5 + 3]? = some (.slice x4 x5 x6) := by rw [fF, flatMap_at cF 5 cF_len _ r 3 (by omega), getD_some _ fn0 r (by rw [hcl2.out]; omega), hce.out]; rfl
                          obtain ⟨g1, g2⟩ := hmd.own_cell m1 (r * 5 + 3) hj3
                          rw [← Nat.add_assoc] at g1 g2
                          have hm2 := hmd.swap.own_set (r * 5 + 3) (by rw [fF, flatMap_length cF 5 cF_len, hcl2.out]; omega) (.slice y4 x5 y6) rfl
                          rw [fF, flatMap_set cF 5 cF_len fn0 cur r 3 ⟨x1, x2, x3, y4, x5, y6, x7, x8, x9, x10, x11⟩ _ (by rw [hcl2.out]; omega) (by omega) (by rw [hce.out]; rfl), ← Nat.add_assoc] at hm2
                          clear a4 b4 c4 b5 c5 d1 hm hmd hj3
                          generalize wr.drew = w2 at g1 g2 hm2 ⊢
                          go_upto_region 27 with (fail)
                          generalize w2.setCell _ _ = w3 at hm2 ⊢
                          have hcur' : ∃ cur', Fact (cur.set r ⟨x1, x2, x3, y4, x5, y6, x7, x8, x9, x10, x11⟩ = cur') := ⟨_, ⟨rfl⟩⟩
                          obtain ⟨cur', hcur'⟩ := hcur'
                          have l1 : cur'.length = j + j + 64 := by rw [← hcur'.out]; simpa using hcl2.out
                          have l2 : cur'.getD r fn0 = ⟨x1, x2, x3, y4, x5, y6, x7, x8, x9, x10, x11⟩ := by rw [← hcur'.out, getD_set _ _ _ _ _ (by rw [hcl2.out]; omega), if_pos rfl]
                          have l3 : cur'.getD (j + r) fn0 = ⟨⟨#[]⟩, -7, (r : Int), y4, x5 + 64, y6, x7 ++ marksI 64, y8, x9 + 64, y10, x11 ++ marksH 64⟩ := by rw [← hcur'.out, getD_set _ _ _ _ _ (by rw [hcl2.out]; omega), if_neg (by omega), hcb.out]
                          have l4 : Fact (cur'.set r (lentF ⟨x1, x2, x3, x4, x5, x6, x7, x8, x9, x10, x11⟩ ⟨⟨#[]⟩, -7, (r : Int), y4, x5 + 64, y6, x7 ++ marksI 64, y8, x9 + 64, y10, x11 ++ marksH 64⟩) = zs.take (r + 1) ++ fns.drop (r + 1) ++ (hs ++ marksF j 64)) := ⟨by rw [← hcs.out, ← hcur'.out, List.set_set]⟩
                          rw [hcur'.out] at hm2
                          have hj5 : (cur'.flatMap cF)[(j + r) * 5 + 4]? = some (.slice y8 (x9 + 64) y10) := by rw [flatMap_at cF 5 cF_len _ (j + r) 4 (by omega), getD_some _ fn0 (j + r) (by omega), l3]; rfl
                          have hj6 : (cur'.flatMap cF)[r * 5 + 4]? = some (.slice x8 x9 x10) := by rw [flatMap_at cF 5 cF_len _ r 4 (by omega), getD_some _ fn0 r (by omega), l2]; rfl
                          obtain ⟨b5, _⟩ := hm2.own_cell m0 ((j + r) * 5 + 4) hj5
                          rw [← Nat.add_assoc] at b5
                          have a5 := hm2.below.cell (World.block_lt_of_cell? wb _ (r0.out 4 _ rfl)) |>.trans (r0.out 4 _ rfl)
                          have d1 := hm2.cell m1 1 rfl
                          have q1 := hm2.below.cell (World.block_lt_of_cell? wb _ p2) |>.trans p2
                          have hm3 := hm2.drew
                          obtain ⟨g1, g2⟩ := hm3.own_cell m0 (r * 5 + 4) hj6
                          rw [← Nat.add_assoc] at g1 g2
                          have hm4 := hm3.own_set (r * 5 + 4) (by rw [flatMap_length cF 5 cF_len, l1]; omega) (.slice y8 x9 y10) rfl
                          rw [flatMap_set cF 5 cF_len fn0 cur' r 4 (lentF ⟨x1, x2, x3, x4, x5, x6, x7, x8, x9, x10, x11⟩ ⟨⟨#[]⟩, -7, (r : Int), y4, x5 + 64, y6, x7 ++ marksI 64, y8, x9 + 64, y10, x11 ++ marksH 64⟩) _ (by omega) (by omega) (by rw [l2]; rfl), l4.out, ← Nat.add_assoc] at hm4
                          clear l1 l2 l3 hj5 hj6 hm2 hm3
                          go_still_tail 19, (by kernel_rfl)
                          change wpList _ _ _ _ _ w3.drew
                          clear a5 b5 d1
                          generalize w3.drew = w4 at g1 g2 hm4 ⊢
                          go_wp2
                          go_roundw
                          case rel => exact ⟨r + 1, by go_num, by omega, hm4.swap⟩
                          case measure => simp [intOf]; omega
                        · have e6 : r = j := by omega
                          rw [e6, List.take_of_length_le (by have := hze.out.2; have := hfl.out; omega), List.drop_eq_nil_of_le (by have := hfl.out; omega), List.append_nil, ← hze.out.1] at hm
                          clear e6
                          have d0 := hm.cell m0 0 rfl
                          have f0 := hm.free m0 0
                          have p1' := hm.below.cell (World.block_lt_of_cell? wb _ p1) |>.trans p1
                          have k1 := OwnAt.cap (hm.ok _ m4)
                          have k2 := OwnAt.cap (hm.ok _ m1)
                          have k3 : k ≤ c' := by omega
                          have k4 : j ≤ d' := by omega
                          have hm2 := (hm.set 0 (.slice A' k c')).set 1 (.slice (some ⟨gf, off, none⟩) j d')
                          simp only [List.set_cons_zero, List.set_cons_succ] at hm2
                          go_upto_region 30 with (fail)
                          generalize (wr.setCell _ _).setCell _ _ = w5 at hm2 ⊢
                          have hmj := hmb.join hm2
                          go_wp2_with (first | (refine wp_rng rfl 25 _ rfl (g + 2) 0 rfl [.slice A' k c', .slice (some ⟨gf, off, none⟩) j d'] (rng_blk hmj m0) row_P szP ?_) | (refine wp_setrow rfl 25 _ _ rfl (g + 1) rfl 25 _ [.slice A' k c', .slice (some ⟨gf, off, none⟩) j d'] rfl (hmj.sel 7 [5, 0, 1, 2, 3, 4, 6] (by decide)) szP rfl (svone _ _) ?_; intro w6 hm6))
                          refine bodyPost_ret (Mm.res_cell rfl _ (g + 1) 25 [.slice A' k c', .slice (some ⟨gf, off, none⟩) j d'] (0, 0) rfl hm6 m0 row_P szP) rfl ⟨A', c', some ⟨gf, off, none⟩, d', hs, rfl, hm6.below, ?_⟩
                          exact ⟨hm6.rd m5, by rw [show 2 * j + 64 = j + j + 64 by omega, List.append_assoc]; exact hm6.rd m2, hh.out.1, hh.out.2, fun h hx => (hm6.ok _ m3 h hx).rd, fun h hx => (hm6.ok _ m4 h hx).rd⟩
end Go.Proofs.Ytgflfpepfpekhaa
