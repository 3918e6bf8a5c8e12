/- HeapEdges: the walk. -/
import Derived.Test.YtpibchjkmaghnaaHEf
import Derived.Test.YtpibchjkmaghnaaHeapLoadLM
namespace Go.Proofs.Ytpibchjkmaghnaa
open Go.RowKit Go.Mm
set_option maxHeartbeats 8000000
set_option maxRecDepth 100000
set_option linter.unusedSimpArgs false
theorem st_edg {w : World} {g n : Nat} {xs : List RO} (b : Int) (hb : b ≤ 1048576) (hn : n ≤ 8) (h : ObsR w (some ⟨g, 0, none⟩) n n xs) (hE : ∀ x, x ∈ xs → EdgOk x) : StOk w b 0 (some ⟨g, 0, none⟩) n n xs :=
  ⟨by omega, by omega, h, by omega, fun x hx => by
    have h1 := (hE x hx).items
    have h2 := (hE x hx).keys
    omega, fun x hx => ⟨(hE x hx).wf, (hE x hx).rng⟩⟩
theorem own_obs {w0 w : World} {L : List Chunk} {g n : Nat} {xs : List RO} {cells : List Value} (hm : Mem w0 w (Blk g (.cells cells.toArray 71) :: L)) (hc : cells = xs.flatMap cRO) (hl : xs.length = n) (hn : n ≤ 8) (hr : ∀ x, x ∈ xs → x.reads w) : ObsR w (some ⟨g, 0, none⟩) n n xs := by
  subst hc
  exact ⟨(hm.blk_own (n := n) (size := 6) (by rw [flatMap_length cRO 6 cRO_len, hl]) (by unfold maxLen; omega) (fun u hu => by
    obtain ⟨x, _, hx⟩ := List.mem_flatMap.1 hu
    exact cRO_one x u hx)).rd m0, hr⟩
theorem _root_.Go.Mm.Mem.start' {w w' : World} (h : Gr w w') : Mem w w' [] := (Mem.start w).gr h
theorem edg_one (v : V2) (h0 : -9223372036854775808 ≤ v.2) (h1 : v.2 ≤ 9223372036854775807) (o : Ob) (x : RO) (hx : x.ob.items = [v]) (hk : x.ob.keys.length ≤ 8192) (hw : ∀ k, k ∈ x.ob.keys → (Lit.int .i64 k).wf = true) : EdgOk x :=
  ⟨by rw [hx]; simp, hk, hw, fun u hu => by rw [hx] at hu; simp only [List.mem_singleton] at hu; subst hu; exact ⟨h0, h1⟩⟩
theorem heapEdges_walk (W : World) : Calls Try.prog 8 #[] W fun e w' => e = .returned (.bool true) ∧ Gr W w' := by
  go_enter Try.func8, Try.ntmps8
  go_wp2_with fail
  refine (about_ok W W [] (Mem.start W)).mono ?_
  rintro e w1 ⟨A, c, xs, rfl, hE, hm1⟩
  replace hE := Fact.mk hE
  have hcell : Fact (∀ (w : World), Mem W w (Own 6 (.slice A 357 c) (xs.flatMap cRO) :: (xs.map RoC ++ [])) → ∀ k, k < 357 → ∃ b o, A = some ⟨b, o, none⟩ ∧ (∀ (j : Nat) (u : Value), (cRO (xs.getD k ro0))[j]? = some u → w.cell? ⟨b, o + k * 6 + j, none⟩ = some u) ∧ xs.getD k ro0 ∈ xs ∧ (xs.getD k ro0).reads w) := ⟨fun w h k hk => by
    obtain ⟨b, o, e, hc, _, h2⟩ := rd_at cRO_len (by omega) ro0 (h.rd m0) k hk
    have hx : xs.getD k ro0 ∈ xs := List.mem_of_getElem? (getD_some xs ro0 k h2)
    exact ⟨b, o, e, hc, hx, RoC.reads (h.ok _ (.tail _ (List.mem_append_left _ (List.mem_map_of_mem hx))))⟩⟩
  go_wp2
  go_loopw [2] (fun s2 w' => ∃ (k : Nat), s2 = .int .i64 k ∧ k ≤ 357 ∧ Mem W w' (Own 6 (.slice A 357 c) (xs.flatMap cRO) :: (xs.map RoC ++ []))) (fun s2 _ => 357 - (intOf s2).toNat)
  case atStart => exact ⟨0, rfl, by omega, hm1⟩
  case round =>
    obtain ⟨k, rfl, hk, hmr⟩ := hrel
    clear hm1
    by_cases hlt : k < 357
    · obtain ⟨b, o, rfl, hc, hx, hr⟩ := hcell.out wr hmr k hlt
      generalize xs.getD k ro0 = x at hc hx hr
      have hxE := hE.out x hx
      replace hc := Fact.mk hc
      replace hr := Fact.mk hr
      replace hxE := Fact.mk hxE
      clear hx
      go_wp2_with (refine wp_rng rfl 71 _ rfl b (o + k * 6) rfl [.int .i64 x.ob.kind, .slice x.A x.ob.items.length x.c, .slice x.KA x.ob.keys.length x.kc, .int .i64 x.ob.fn, .int .i64 x.ob.cap, .bool x.ob.shut] hc.out row_O sz_O ?_)
      have hm2 := hmr.alloc (.cells [.int .i64 x.ob.kind, .slice x.A x.ob.items.length x.c, .slice x.KA x.ob.keys.length x.kc, .int .i64 x.ob.fn, .int .i64 x.ob.cap, .bool x.ob.shut].toArray 71)
      generalize hgb : wr.heap.size = g2 at hm2 ⊢
      generalize hwx : wr.alloc (.cells [.int .i64 x.ob.kind, .slice x.A x.ob.items.length x.c, .slice x.KA x.ob.keys.length x.kc, .int .i64 x.ob.fn, .int .i64 x.ob.cap, .bool x.ob.shut].toArray 71) = w2 at hm2 ⊢
      have hgr : Gr wr w2 := by rw [← hwx]; exact (Gr.refl _).alloc _
      clear hwx hgb
      have hst : StOk w2 10 0 (some ⟨g2, 0, none⟩) 1 1 [x] := st_edg 10 (by omega) (by omega) (own_obs (xs := [x]) hm2 (by simp [cRO, obC]) rfl (by omega) (fun y hy => by
        simp only [List.mem_singleton] at hy
        subst hy
        exact hr.out.gr hgr)) (fun y hy => by
        simp only [List.mem_singleton] at hy
        subst hy
        exact hxE.out)
      refine (load_walk w2 10 0 (some ⟨g2, 0, none⟩) 1 1 [x] hst).mono ?_
      rintro e w3 ⟨rfl, hg3⟩
      have hm3 := (hm2.gr hg3).tail
      clear hm2 hst hgr hg3 hmr
      go_wp2
      go_roundw
      case rel => exact ⟨k + 1, by go_num, by omega, hm3⟩
      case measure => exact measP_lt hlt
    · have hgr := hmr.below
      go_wp2_with fail
      clear hmr hlt hk
      refine (vals_ok W wr [] (Mem.start' hgr)).mono ?_
      rintro e w4 ⟨B, d, vs, rfl, hR, hm4⟩
      clear hE hcell hgr
      replace hR := Fact.mk hR
      have hvc : Fact (∀ (w : World), Mem W w [Own 2 (.slice B 195 d) (fV vs)] → ∀ k, k < 195 → ∃ b o, B = some ⟨b, o, none⟩ ∧ w.cell? ⟨b, o + k * 2, none⟩ = some (.int .i64 (vs.getD k (0, 0)).1) ∧ w.cell? ⟨b, o + k * 2 + 1, none⟩ = some (.int .i64 (vs.getD k (0, 0)).2) ∧ -9223372036854775808 ≤ (vs.getD k (0, 0)).2 ∧ (vs.getD k (0, 0)).2 ≤ 9223372036854775807) := ⟨fun w h k hk => by
        obtain ⟨b, o, e, g1, g2, _, hkl⟩ := rdV_at (h.rd m0) k hk
        exact ⟨b, o, e, g1, g2, hR.out _ (List.mem_of_getElem? (getD_some vs (0, 0) k hkl))⟩⟩
      go_wp2
      go_loopw [4] (fun s4 w' => ∃ (k : Nat), s4 = .int .i64 k ∧ k ≤ 195 ∧ Mem W w' [Own 2 (.slice B 195 d) (fV vs)]) (fun s4 _ => 195 - (intOf s4).toNat)
      case atStart => exact ⟨0, rfl, by omega, hm4⟩
      case round =>
        obtain ⟨k, rfl, hk, hmr⟩ := hrel
        clear hm4
        by_cases hlt : k < 195
        · obtain ⟨b, o, rfl, g1, g2, hr0, hr1⟩ := hvc.out wr hmr k hlt
          generalize vs.getD k (0, 0) = v at g1 g2 hr0 hr1
          replace hr0 := Fact.mk hr0
          replace hr1 := Fact.mk hr1
          go_upto_region 12 with (refine wp_rng rfl 27 _ rfl b (o + k * 2) rfl [.int .i64 v.1, .int .i64 v.2] (rng2 g1 g2) row_V sz_V ?_)
          have hm5 := hmr.alloc (.cells [.int .i64 v.1, .int .i64 v.2].toArray 27)
          generalize hgb : wr.heap.size = gx at hm5 ⊢
          generalize hw1 : wr.alloc (.cells [.int .i64 v.1, .int .i64 v.2].toArray 27) = w5 at hm5
          try refine wp_world hw1 ?_
          clear hw1 hgb g1 g2 hmr
          replace hm5 : Mem W w5 (Own 2 (.slice (some ⟨gx, 0, none⟩) 1 1) (fV [v]) :: [Own 2 (.slice (some ⟨b, o, none⟩) 195 d) (fV vs)]) := hm5.blk_own (n := 1) (size := 2) rfl (by unfold maxLen; omega) (cV_one v)
          go_wp2_with fail
          have hm6 := hm5.alloc (.cells [.int .i64 6, .slice (some ⟨gx, 0, none⟩) 1 1, .slice none 0 0, .int .i64 0, .int .i64 0, .bool false, .int .i64 9, .slice (some ⟨gx, 0, none⟩) 1 1, .slice none 0 0, .int .i64 0, .int .i64 1, .bool false].toArray 71)
          generalize hgb : w5.heap.size = g6 at hm6 ⊢
          generalize hw1 : w5.alloc (.cells [.int .i64 6, .slice (some ⟨gx, 0, none⟩) 1 1, .slice none 0 0, .int .i64 0, .int .i64 0, .bool false, .int .i64 9, .slice (some ⟨gx, 0, none⟩) 1 1, .slice none 0 0, .int .i64 0, .int .i64 1, .bool false].toArray 71) = w6 at hm6 ⊢
          clear hw1 hgb hm5
          have hst1 := st_edg 0 (by omega) (by omega) (own_obs (n := 2) (xs := [⟨some ⟨gx, 0, none⟩, 1, none, 0, ⟨6, [v], [], 0, 0, false⟩⟩, ⟨some ⟨gx, 0, none⟩, 1, none, 0, ⟨9, [v], [], 0, 1, false⟩⟩]) hm6 (by simp [cRO, obC]) rfl (by omega) (fun y hy => by
            simp only [List.mem_cons, List.not_mem_nil, or_false] at hy
            rcases hy with rfl | rfl
            · exact ⟨hm6.rd m1, (hm6.nil 1 none).rd m0⟩
            · exact ⟨hm6.rd m1, (hm6.nil 1 none).rd m0⟩)) (fun y hy => by
            simp only [List.mem_cons, List.not_mem_nil, or_false] at hy
            rcases hy with rfl | rfl
            · exact edg_one v hr0.out hr1.out ob0 _ (by simp) (by simp) (fun k hk => by cases hk)
            · exact edg_one v hr0.out hr1.out ob0 _ (by simp) (by simp) (fun k hk => by cases hk))
          refine (load_walk w6 0 0 (some ⟨g6, 0, none⟩) 2 2 _ hst1).mono ?_
          rintro e w7 ⟨rfl, hg7⟩
          have hm7 := (hm6.gr hg7).tail
          clear hm6 hst1 hg7
          go_wp2_with fail
          have hm8 := (hm7.alloc (.cells [.int .i64 0].toArray 2)).alloc (.cells [.int .i64 7, .slice (some ⟨gx, 0, none⟩) 1 1, .slice (some ⟨w7.heap.size, 0, none⟩) 1 1, .int .i64 0, .int .i64 0, .bool false, .int .i64 8, .slice (some ⟨gx, 0, none⟩) 1 1, .slice none 0 0, .int .i64 0, .int .i64 0, .bool false].toArray 71)
          simp only [World.size_alloc] at hm8
          generalize hgb : w7.heap.size = gk at hm8 ⊢
          generalize hw1 : (w7.alloc (.cells [.int .i64 0].toArray 2)).alloc (.cells [.int .i64 7, .slice (some ⟨gx, 0, none⟩) 1 1, .slice (some ⟨gk, 0, none⟩) 1 1, .int .i64 0, .int .i64 0, .bool false, .int .i64 8, .slice (some ⟨gx, 0, none⟩) 1 1, .slice none 0 0, .int .i64 0, .int .i64 0, .bool false].toArray 71) = w8 at hm8 ⊢
          clear hw1 hgb hm7
          have hk8 := (hm8.swap.blk_own (n := 1) (size := 1) (cs := nums .i64 [0]) rfl (by unfold maxLen; omega) (One.nums _ _)).rd m0
          have hst2 := st_edg 0 (by omega) (by omega) (own_obs (n := 2) (xs := [⟨some ⟨gx, 0, none⟩, 1, some ⟨gk, 0, none⟩, 1, ⟨7, [v], [0], 0, 0, false⟩⟩, ⟨some ⟨gx, 0, none⟩, 1, none, 0, ⟨8, [v], [], 0, 0, false⟩⟩]) hm8 (by simp [cRO, obC]) rfl (by omega) (fun y hy => by
            simp only [List.mem_cons, List.not_mem_nil, or_false] at hy
            rcases hy with rfl | rfl
            · exact ⟨hm8.rd m2, hk8⟩
            · exact ⟨hm8.rd m2, (hm8.nil 1 none).rd m0⟩)) (fun y hy => by
            simp only [List.mem_cons, List.not_mem_nil, or_false] at hy
            rcases hy with rfl | rfl
            · exact edg_one v hr0.out hr1.out ob0 _ (by simp) (by simp) (fun k hk => by simp only [List.mem_singleton] at hk; subst hk; decide)
            · exact edg_one v hr0.out hr1.out ob0 _ (by simp) (by simp) (fun k hk => by cases hk))
          refine (load_walk w8 0 0 (some ⟨gk + 1, 0, none⟩) 2 2 _ hst2).mono ?_
          rintro e w9 ⟨rfl, hg9⟩
          have hm9 := (hm8.gr hg9).tail.tail.tail
          clear hm8 hst2 hg9 hk8
          go_wp2
          go_roundw
          case rel => exact ⟨k + 1, by go_num, by omega, hm9⟩
          case measure => exact measP_lt hlt
        · have hgr := hmr.below
          go_wp2_with fail
          clear hmr hlt hk
          refine (full_ok W wr [] (Mem.start' hgr)).mono ?_
          rintro e w5 ⟨rfl, hm5⟩
          go_wp2_with fail
          refine (wide_ok W w5 [] hm5).mono ?_
          rintro e w6 ⟨rfl, hm6⟩
          go_wp2_with fail
          refine (filled_ok W w6 [] hm6).mono ?_
          rintro e w7 ⟨rfl, hm7⟩
          go_wp2_with fail
          go_ret
          exact ⟨rfl, hm7.below⟩
theorem heapEdges_ok (H : Type) (_enc : TypeId × Value → H) (W : World) (_base : Nat) : Calls Try.prog 8 #[] W fun e w' => e = .returned (.bool true) ∧ Gr W w' := heapEdges_walk W
end Go.Proofs.Ytpibchjkmaghnaa
