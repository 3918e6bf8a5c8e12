/- HeapMet: what is reached is the least that is closed; a heap's objects make the heap again. -/
import Derived.Test.YtpibchjkmaghnaaHMf
namespace Go.Proofs.Ytpibchjkmaghnaa
open Go.RowKit Go.Mm Go.WideShapes Go.ChangeShapes
set_option maxHeartbeats 16000000
set_option maxRecDepth 100000
set_option linter.unusedSimpArgs false
theorem nmI_none {l : List Ob} {v : V2} (h : nm l v = none) : nmI (kindsOf l) v = -1 := by unfold nmI; rw [← nm_ks, h]
theorem nmI_some {l : List Ob} {v : V2} {i : Nat} (h : nm l v = some i) : nmI (kindsOf l) v = i := by unfold nmI; rw [← nm_ks, h]
theorem nmL_none {l : List Ob} {vs : List V2} {v : V2} (h : nm l v = none) : nmL l (vs ++ [v]) = nmL l vs := by rw [nmL_snoc, h]
theorem nmL_some {l : List Ob} {vs : List V2} {v : V2} {i : Nat} (h : nm l v = some i) : nmL l (vs ++ [v]) = nmL l vs ++ [i] := by rw [nmL_snoc, h]
theorem nodup_take {out : List Nat} (h : out.Nodup) {j : Nat} (hj : j < out.length) : ¬ out.getD j 0 ∈ out.take j := fun hm => by
  obtain ⟨k, hk, e⟩ := List.mem_take_iff_getElem.1 hm
  rw [List.getD_eq_getElem?_getD, List.getElem?_eq_getElem hj] at e
  simp only [Option.getD_some] at e
  exact (List.pairwise_iff_getElem.1 h k j (by omega) hj (by omega)) e
theorem take_snocN (out : List Nat) (j : Nat) (hj : j < out.length) : out.take (j + 1) = out.take j ++ [out.getD j 0] := by
  rw [List.take_succ_eq_append_getElem hj]
  simp [hj]
theorem met_marks (W w : World) (L : List Chunk) (n : Nat) (I : Option Addr) (ic : Nat) (X : List Nat) (i : Nat) (hi : i < n) (hm : Mem W w (Own 1 (.slice I n ic) (metV n X) :: L)) : ∃ b o, I = some ⟨b, o, none⟩ ∧ w.cell? ⟨b, o + i, none⟩ = some (.bool (decide (i ∈ X))) := by
  obtain ⟨bs, os, c0, hS, h1, h2, _⟩ := (hm.rd m0).at1 i hi
  rw [metV_at _ _ i hi] at h2
  exact ⟨bs, os, hS, by rw [h1, h2]⟩
theorem perm_m8 {α : Type} (i b t k h s r c : α) : [i, b, t, k, h, s, r, c].Perm (b :: t :: k :: s :: i :: r :: c :: h :: []) := perm_l fun D x => by simp only [List.count_cons, List.count_nil]; omega
theorem heapMet_walk (W : World) (A : Option Addr) (m ac : Nat) (ops : List HOp) (hs : Fact (RdC W 9 (.slice A m ac) (ops.flatMap cHO))) (hit : Fact (OpsOk W ops)) (hmm : m ≤ 1048576)
    (B : Option Addr) (r rc : Nat) (rs : List V2) (hr : Fact (RdC W 2 (.slice B r rc) (fV rs))) (hrr : r ≤ 1048576) (b : Int) (hb : b ≤ 9223372036854775807) :
    Calls Try.prog 7 #[.slice A m ac, .slice B r rc, .int .i64 b] W fun e w' => e = .returned (.bool true) ∧ Gr W w' := by
  obtain ⟨iB, hiB, yz0, yz1, yz2⟩ := info_parts inf_bool
  have hrl := Fact.mk (rdV_len hr.out)
  go_enter Try.func7, Try.ntmps7
  go_wp2_with fail
  refine (heapNew_ok W W [] (Mem.start W) 1048576 0).mono ?_
  rintro e w1 ⟨g1, rfl, hm1⟩
  rw [show max (1048576 : Int) 0 = 1048576 from rfl, show max (0 : Int) 0 = 0 from rfl] at hm1
  go_wp2_with fail
  refine (back_ok W w1 _ hm1 A m ac ops hs hit hmm b hb).mono ?_
  rintro e w2 ⟨rfl, hm2⟩
  clear hm1
  go_wp2_with fail
  refine (lay_ok W w2 [] ⟨g1, 1048576, 0, none, 0, []⟩ hm2 ⟨by simp, by simp, by show (0 : Int) ≤ 1048576; omega, by show (1048576 : Int) ≤ _; omega, by show (0 : Int) ≤ 0; omega, by show (0 : Int) ≤ _; omega⟩ rfl A m ac ops hs hit hmm).mono ?_
  rintro e w3 ⟨K, c, h, rfl, hg, hok, hlay, hlen, hm3⟩
  clear hm2
  subst hg
  replace hok := Fact.mk hok
  replace hlay := Fact.mk hlay
  go_wp2_with fail
  refine (heapLen_ok W w3 _ h hm3 m1).mono ?_
  rintro e w4 ⟨rfl, rfl⟩
  go_wp2_with fail
  refine (reach_ok W w4 _ h m1 hok hm3 B r rc rs ⟨fun w' hm => hr.out.gr hm.below⟩ (by omega)).mono ?_
  rintro e w5 ⟨R, oc, rfl, hm5⟩
  clear hm3
  obtain ⟨l, hl⟩ : ∃ l, l = h.objs := ⟨_, rfl⟩
  obtain ⟨n, hn⟩ : ∃ n, n = h.ths.length := ⟨_, rfl⟩
  have hll : l.length = n := by rw [hl, hn]; exact h.abs_len
  have hkk : Fact (∀ k, k ∈ kindsOf l → 6 ≤ k ∧ k ≤ 9) := ⟨fun k hk => by
    unfold kindsOf at hk
    obtain ⟨o, ho, rfl⟩ := List.mem_map.1 hk
    obtain ⟨i, hi, e⟩ := List.getElem_of_mem ho
    have := tabB_kind (loadB_at hlay.out.load (show i < h.abs.objs.length by rw [show h.abs.objs = l from hl.symm]; exact hi)).2
    rw [show h.abs.objs = l from hl.symm, List.getD_eq_getElem?_getD, List.getElem?_eq_getElem hi, Option.getD_some, e] at this
    omega⟩
  have hobj : Fact (∀ i, i < n → h.abs.is (i : Int) = true ∧ h.abs.at (i : Int) = l.getD i ob0) := ⟨fun i hi => by
    have his : h.abs.is (i : Int) = true := by
      unfold Hs.is
      rw [h.abs_len', ← hn, decide_eq_true (by omega), decide_eq_true (by omega)]
      rfl
    refine ⟨his, ?_⟩
    unfold Hs.at
    rw [his, show h.abs.objs = l from hl.symm]
    rfl⟩
  have hisz : Fact (∀ i, i < n → (l.getD i ob0).items.length ≤ 1048576) := ⟨fun i hi => by
    rw [hl]
    exact (hok.out.sz (by rw [List.getD_eq_getElem?_getD, List.getElem?_eq_getElem (by rw [h.abs_len]; omega)]; exact List.getElem_mem _)).1⟩
  rw [← hl, ← hn] at hm5
  rw [← hl]
  obtain ⟨out, hout⟩ : ∃ out, out = reachR l rs := ⟨_, rfl⟩
  have hmok : MetOk l out := by rw [hout]; exact reachR_ok l rs
  have hwhy : Fact (∀ j, j < out.length → out.getD j 0 ∈ inL l rs out j) := ⟨by rw [hout]; exact reach_why l rs⟩
  have hall : Fact (∀ i, i ∈ inL l rs out out.length ↔ i ∈ out) := ⟨by rw [hout]; exact reach_all l rs⟩
  have holen : out.length ≤ n := by have := hmok.len; omega
  rw [← hout] at hm5 ⊢
  rw [← hn]
  have hnm : Fact (∀ v i, nm l v = some i → i < n) := ⟨fun v i h => by rw [← hll]; exact (nm_lt h).1⟩
  have hnames := fun (w : World) (L1 : List Chunk) (h1 : Mem W w L1) (h2 : Own 1 (.slice K n c) (nums .i64 (kindsOf l)) ∈ L1) (v : V2) => names_ok w K n c (kindsOf l) ⟨h1.rd h2⟩ hkk.out (by omega) v
  have hnle : n ≤ 1048576 := by omega
  replace hmok := Fact.mk hmok
  replace hnames := Fact.mk hnames
  have hfin : Fact (∀ (w : World) (L1 : List Chunk), Mem W w (HpC h :: L1) → Calls Try.prog 38 #[.pointer (some ⟨h.g, 0, none⟩)] w fun e w' => e = .returned (.bool true) ∧ Gr W w') := ⟨fun w L1 h1 => (laid_ok W w L1 h h1 hok hlay.out.bud (by omega)).mono fun e w' q => ⟨q.1, by obtain ⟨_, _, _, _, _, _, hq⟩ := q; exact hq.below⟩⟩
  have hobjc := fun (w : World) (L1 : List Chunk) (h1 : Mem W w (HpC h :: L1)) (i : Int) => object_ok W w L1 h h1 hok i
  replace hobjc := Fact.mk hobjc
  have hlz : Fact (l.length = n) := ⟨hll⟩
  clear hlen hl hout hlay hn hll
  -- in: nothing is marked
  go_wp2
  go_loopw [10, 11] (fun s10 s11 w' => ∃ (k : Nat) (I : Option Addr) (ic : Nat), s11 = .int .i64 k ∧ k ≤ n ∧ s10 = .slice I k ic ∧ Mem W w' (Own 1 (.slice I k ic) (List.replicate k (.bool false)) :: Own 1 (.slice R out.length oc) (outV out) :: Own 1 (.slice K n c) (nums .i64 (kindsOf l)) :: HpC h :: [])) (fun _ s11 _ => n - (intOf s11).toNat)
  case atStart => exact ⟨0, none, 0, rfl, by omega, rfl, Mem.nil hm5 1 none⟩
  case round =>
    obtain ⟨k, I, ic, rfl, hk, rfl, hmr⟩ := hrel
    clear hm5
    by_cases hlt : k < n
    · go_wp2_with (at_builtin; refine wp_app rfl _ _ _ rfl 4 iB _ 1 1 ty_bools hiB yz0 yz1 yz2 rfl I k ic _ rfl (hmr.alloc _).swap _ 1 1 [.bool false] rfl (RdC.lit _ _ _ _ _ rfl (by simp [maxLen]) (one_one rfl)) (by unfold maxLen; omega) (by omega) ?_; intro A5 c5 w5 HM5)
      go_roundw
      case rel => exact ⟨k + 1, A5, c5, by go_num, by omega, rfl, by rw [List.replicate_succ']; exact HM5.drop2⟩
      case measure => exact measP_lt hlt
    · obtain rfl : k = n := by omega
      rw [← metV_nil] at hmr
      -- what the roots name
      go_wp2
      go_loopw [12] (fun s12 w' => ∃ (q : Nat), s12 = .int .i64 q ∧ q ≤ r ∧ Mem W w' (Own 1 (.slice I k ic) (metV k (nmL l (rs.take q))) :: Own 1 (.slice R out.length oc) (outV out) :: Own 1 (.slice K k c) (nums .i64 (kindsOf l)) :: HpC h :: [])) (fun s12 _ => r - (intOf s12).toNat)
      case atStart => exact ⟨0, rfl, by omega, hmr⟩
      case round =>
        clear hmr
        obtain ⟨q, rfl, hq, hmr⟩ := hrel
        by_cases hltq : q < r
        · obtain ⟨bb, ob, rfl, g1, g2, _, hql⟩ := rdV_at (hr.out.gr hmr.below) q hltq
          have htk := take_snocV rs q hql
          generalize rs.getD q (0, 0) = v at g1 g2 htk
          replace htk := Fact.mk htk
          go_wp2_with (refine wp_rng rfl 27 _ rfl bb (ob + q * 2) rfl (cV v) (rng2 g1 g2) row_V sz_V ?_)
          refine (hnames.out wr _ hmr m2 v).mono ?_
          rintro e w6 ⟨rfl, hg6⟩
          have hm6 := hmr.gr hg6
          clear hmr hg6 g1 g2
          cases hv : nm l v with
          | none =>
            rw [nmI_none hv]
            have hsn := Fact.mk (nmL_none (vs := rs.take q) hv)
            clear hv
            go_wp2
            go_roundw
            case rel => exact ⟨q + 1, by go_num, by omega, by rw [htk.out, hsn.out]; exact hm6⟩
            case measure => exact measP_lt hltq
          | some i =>
            rw [nmI_some hv]
            have hsn := Fact.mk (nmL_some (vs := rs.take q) hv)
            have hik := hnm.out v i hv
            clear hv
            obtain ⟨bs, os, hS⟩ := OwnAt.addr (hm6.ok _ m0) (by have := OwnAt.cap (hm6.ok _ m0); omega)
            have hset := Fact.mk (metV_set k (nmL l (rs.take q)) i hik)
            have hsl := Fact.mk (show i + [(.bool true : Value)].length ≤ (metV k (nmL l (rs.take q))).length by rw [metV_len]; simp only [List.length_singleton]; omega)
            rw [hS] at hm6
            rw [hS]
            replace hS := Fact.mk hS
            go_wp2_with (refine wp_ownat rfl 4 _ _ rfl (os + i) i rfl rfl [.bool true] _ rfl rfl hm6 sz_bool hsl.out (one_one rfl) ?_; intro w7 hm7)
            try rw [← hS.out]
            go_roundw
            case rel => exact ⟨q + 1, by go_num, by omega, by rw [htk.out, hsn.out, ← hset.out, hS.out]; exact hm7⟩
            case measure => exact measP_lt hltq
        · have hqr : q = r := by omega
          have hrt : rs.take q = rs := List.take_of_length_le (by rw [hrl.out]; omega)
          rw [hrt] at hmr
          replace hqr := Fact.mk hqr
          have hin0 : nmL l rs = inL l rs out 0 := by simp [inL]
          rw [hin0] at hmr
          clear hin0 hrt
          -- seen: nothing is marked
          go_wp2
          clear hltq hq hqr
          go_loopw [14, 15] (fun s14 s15 w' => ∃ (z : Nat) (S : Option Addr) (sc : Nat), s15 = .int .i64 z ∧ z ≤ k ∧ s14 = .slice S z sc ∧ Mem W w' (Own 1 (.slice S z sc) (List.replicate z (.bool false)) :: Own 1 (.slice I k ic) (metV k (inL l rs out 0)) :: Own 1 (.slice R out.length oc) (outV out) :: Own 1 (.slice K k c) (nums .i64 (kindsOf l)) :: HpC h :: [])) (fun _ s15 _ => k - (intOf s15).toNat)
          case atStart => exact ⟨0, none, 0, rfl, by omega, rfl, Mem.nil hmr 1 none⟩
          case round =>
            clear hmr
            obtain ⟨z, S, sc, rfl, hz, rfl, hmr⟩ := hrel
            by_cases hltz : z < k
            · go_wp2_with (at_builtin; refine wp_app rfl _ _ _ rfl 4 iB _ 1 1 ty_bools hiB yz0 yz1 yz2 rfl S z sc _ rfl (hmr.alloc _).swap _ 1 1 [.bool false] rfl (RdC.lit _ _ _ _ _ rfl (by simp [maxLen]) (one_one rfl)) (by unfold maxLen; omega) (by omega) ?_; intro A5 c5 w5 HM5)
              go_roundw
              case rel => exact ⟨z + 1, A5, c5, by go_num, by omega, rfl, by rw [List.replicate_succ']; exact HM5.drop2⟩
              case measure => exact measP_lt hltz
            · obtain rfl : z = k := by omega
              rw [← metV_nil] at hmr
              -- what was met, one by one
              go_wp2
              clear hltz hz
              go_loopw [16] (fun s16 w' => ∃ (j : Nat), s16 = .int .i64 j ∧ j ≤ out.length ∧ Mem W w' (Own 1 (.slice S z sc) (metV z (out.take j)) :: Own 1 (.slice I z ic) (metV z (inL l rs out j)) :: Own 1 (.slice R out.length oc) (outV out) :: Own 1 (.slice K z c) (nums .i64 (kindsOf l)) :: HpC h :: [])) (fun s16 _ => out.length - (intOf s16).toNat)
              case atStart => exact ⟨0, rfl, by omega, by rw [List.take_zero]; exact hmr⟩
              case round =>
                clear hmr
                obtain ⟨j, rfl, hj, hmr⟩ := hrel
                by_cases hltj : j < out.length
                · obtain ⟨bo, oo, c0, rfl, h1, h2, _⟩ := (hmr.rd m2).at1 j hltj
                  rw [outV_at _ _ hltj] at h2
                  cases h2
                  have hu : out.getD j 0 < z := by
                    have := hmok.out.2 (out.getD j 0) (by rw [List.getD_eq_getElem?_getD, List.getElem?_eq_getElem hltj]; exact List.getElem_mem _)
                    have hzl := hlz.out
                    omega
                  have hns := nodup_take hmok.out.1 hltj
                  have hin := hwhy.out j hltj
                  have htk := take_snocN out j hltj
                  have hix := inL_succ l rs out j hltj
                  unfold itemsOf at hix
                  generalize out.getD j 0 = u at h1 hu hns hin htk hix
                  obtain ⟨bs, os, rfl, s1⟩ := met_marks W wr _ z S sc (out.take j) u hu hmr
                  obtain ⟨bi, oi, rfl, i1⟩ := met_marks W wr _ z I ic (inL l rs out j) u hu hmr.swap
                  rw [decide_eq_false hns] at s1
                  rw [decide_eq_true hin] at i1
                  have hset := Fact.mk (metV_set z (out.take j) u hu)
                  have hsl := Fact.mk (show u + [(.bool true : Value)].length ≤ (metV z (out.take j)).length by rw [metV_len]; simp only [List.length_singleton]; omega)
                  obtain ⟨hoi, hoa⟩ := hobj.out u hu
                  have hisu := hisz.out u hu
                  have hoc := fun (w : World) (L1 : List Chunk) (h1 : Mem W w (HpC h :: L1)) => hobjc.out w L1 h1 (u : Int)
                  rw [hoi, hoa] at hoc
                  generalize l.getD u ob0 = ob at hoc hix hisu
                  replace hoc := Fact.mk hoc
                  replace htk := Fact.mk htk
                  replace hix := Fact.mk hix
                  clear hns hin hoi hoa
                  go_wp2_with (refine wp_ownat rfl 4 _ _ rfl (os + u) u rfl rfl [.bool true] _ rfl rfl hmr sz_bool hsl.out (one_one rfl) ?_; intro w6 hm6)
                  replace hm6 : Mem W w6 (Own 1 (.slice (some ⟨bs, os, none⟩) z sc) (metV z (out.take j ++ [u])) :: Own 1 (.slice (some ⟨bi, oi, none⟩) z ic) (metV z (inL l rs out j)) :: Own 1 (.slice (some ⟨bo, oo, none⟩) out.length oc) (outV out) :: Own 1 (.slice K z c) (nums .i64 (kindsOf l)) :: HpC h :: []) := by rw [← hset.out]; exact hm6
                  refine (hoc.out w6 _ hm6.pull4).mono ?_
                  rintro e w7 ⟨v, rfl, A5, d5, K5, k5, rfl, hm7⟩
                  clear hmr hm6 h1 s1 i1
                  go_upto_region 34 with (refine wp_setrow rfl 71 _ _ rfl w7.heap.size rfl 71 _ (obC ob.kind A5 ob.items.length d5 K5 ob.keys.length k5 ob.fn ob.cap ob.shut) rfl (hm7.alloc _) sz_O rfl (obC_one _ _ _ _ _ _ _ _ _ _) ?_; intro w8 hm8)
                  generalize w7.heap.size = g18 at hm8 ⊢
                  replace hm8 := hm8.pull5
                  clear hm7
                  have hin0 : inL l rs out j = inL l rs out j ++ nmL l (ob.items.take 0) := by simp [nmL]
                  rw [hin0] at hm8
                  clear hin0
                  go_wp2
                  go_loopw [20] (fun s20 w' => ∃ (q : Nat), s20 = .int .i64 q ∧ q ≤ ob.items.length ∧ Mem W w' (Own 1 (.slice (some ⟨bi, oi, none⟩) z ic) (metV z (inL l rs out j ++ nmL l (ob.items.take q))) :: Blk g18 (.cells (obC ob.kind A5 ob.items.length d5 K5 ob.keys.length k5 ob.fn ob.cap ob.shut).toArray 71) :: Own 2 (.slice A5 ob.items.length d5) (fV ob.items) :: Own 1 (.slice K5 ob.keys.length k5) (nums .i64 ob.keys) :: HpC h :: Own 1 (.slice (some ⟨bs, os, none⟩) z sc) (metV z (out.take j ++ [u])) :: Own 1 (.slice (some ⟨bo, oo, none⟩) out.length oc) (outV out) :: Own 1 (.slice K z c) (nums .i64 (kindsOf l)) :: [])) (fun s20 _ => ob.items.length - (intOf s20).toNat)
                  case atStart => exact ⟨0, rfl, by omega, hm8⟩
                  case round =>
                    clear hm8
                    obtain ⟨q, rfl, hq, hmr⟩ := hrel
                    have x1 := hmr.cell m1 1 rfl
                    by_cases hltq : q < ob.items.length
                    · obtain ⟨bb, obb, hA5, g1, g2, _, hql⟩ := rdV_at (hmr.rd m2) q hltq
                      have htk2 := take_snocV ob.items q hql
                      generalize ob.items.getD q (0, 0) = v at g1 g2 htk2
                      rw [hA5] at x1
                      replace htk2 := Fact.mk htk2
                      clear hA5
                      go_wp2_with (refine wp_rng rfl 27 _ rfl bb (obb + q * 2) rfl (cV v) (rng2 g1 g2) row_V sz_V ?_)
                      refine (hnames.out wr _ hmr m7 v).mono ?_
                      rintro e w9 ⟨rfl, hg9⟩
                      have hm9 := hmr.gr hg9
                      clear hmr hg9 g1 g2 x1
                      cases hv : nm l v with
                      | none =>
                        rw [nmI_none hv]
                        have hsn := Fact.mk (nmL_none (vs := ob.items.take q) hv)
                        clear hv
                        go_wp2
                        go_roundw
                        case rel => exact ⟨q + 1, by go_num, by omega, by rw [htk2.out, hsn.out]; exact hm9⟩
                        case measure => exact measP_lt hltq
                      | some i =>
                        rw [nmI_some hv]
                        have hsn := Fact.mk (nmL_some (vs := ob.items.take q) hv)
                        have hik := hnm.out v i hv
                        clear hv
                        have hset2 := Fact.mk (metV_set z (inL l rs out j ++ nmL l (ob.items.take q)) i hik)
                        have hsl2 := Fact.mk (show i + [(.bool true : Value)].length ≤ (metV z (inL l rs out j ++ nmL l (ob.items.take q))).length by rw [metV_len]; simp only [List.length_singleton]; omega)
                        go_wp2_with (refine wp_ownat rfl 4 _ _ rfl (oi + i) i rfl rfl [.bool true] _ rfl rfl hm9 sz_bool hsl2.out (one_one rfl) ?_; intro w10 hm10)
                        go_roundw
                        case rel => exact ⟨q + 1, by go_num, by omega, by rw [htk2.out, hsn.out, ← List.append_assoc, ← hset2.out]; exact hm10⟩
                        case measure => exact measP_lt hltq
                    · have hqe : Fact (q = ob.items.length) := ⟨by omega⟩
                      rw [List.take_of_length_le (by have := hqe.out; omega), ← hix.out, ← htk.out] at hmr
                      have hz : Mem W wr (Own 1 (.slice (some ⟨bs, os, none⟩) z sc) (metV z (out.take (j + 1))) :: Own 1 (.slice (some ⟨bi, oi, none⟩) z ic) (metV z (inL l rs out (j + 1))) :: Own 1 (.slice (some ⟨bo, oo, none⟩) out.length oc) (outV out) :: Own 1 (.slice K z c) (nums .i64 (kindsOf l)) :: HpC h :: []) := (hmr.perm (perm_m8 _ _ _ _ _ _ _ _)).sub (.cons _ (.cons _ (.cons _ (.refl _))))
                      clear hmr
                      go_wp2
                      go_roundw
                      case rel => exact ⟨j + 1, by go_num, by omega, hz⟩
                      case measure => exact measP_lt hltj
                · have hje : j = out.length := by omega
                  rw [hje, List.take_of_length_le (Nat.le_refl _), metV_congr z _ _ hall.out] at hmr
                  replace hje := Fact.mk hje
                  go_wp2
                  clear hltj hj hje
                  go_loopw [22] (fun s22 w' => ∃ (i : Nat), s22 = .int .i64 i ∧ i ≤ z ∧ Mem W w' (Own 1 (.slice S z sc) (metV z out) :: Own 1 (.slice I z ic) (metV z out) :: Own 1 (.slice R out.length oc) (outV out) :: Own 1 (.slice K z c) (nums .i64 (kindsOf l)) :: HpC h :: [])) (fun s22 _ => z - (intOf s22).toNat)
                  case atStart => exact ⟨0, rfl, by omega, hmr⟩
                  case round =>
                    clear hmr
                    obtain ⟨i, rfl, hi, hmr⟩ := hrel
                    by_cases hlti : i < z
                    · obtain ⟨bs, os, rfl, s1⟩ := met_marks W wr _ z S sc out i hlti hmr
                      obtain ⟨bi, oi, rfl, i1⟩ := met_marks W wr _ z I ic out i hlti hmr.swap
                      generalize decide (i ∈ out) = bb at s1 i1
                      have hbb : (bb != bb) = false := by simp
                      replace hmr := Fact.mk hmr
                      go_upto_region 43 with (fail)
                      go_quiet (fail)
                      go_wp2
                      go_roundw
                      case rel => exact ⟨i + 1, by go_num, by omega, hmr.out.drewN _⟩
                      case measure => exact measP_lt hlti
                    · have hla := hfin.out wr _ hmr.pull4
                      replace hla := Fact.mk hla
                      have hb2 := Fact.mk hmr.below
                      clear hmr
                      go_wp2_with fail
                      refine hla.out.mono ?_
                      rintro e w9 ⟨rfl, hg9⟩
                      go_wp2
                      go_ret
                      exact ⟨rfl, hg9⟩
theorem heapMet_ok (H : Type) (enc : TypeId × Value → H) (W : World) (base : Nat)
    (v0 : Value) (d0 : DataW H) (p0 : List MemPlace) (h0 : DataW.Trod enc Try.prog W 0 (fun _ => true) true 22 v0 d0 p0) (ok0 : Value.okWide Try.prog W .any base 22 v0)
    (v1 : Value) (d1 : DataW H) (p1 : List MemPlace) (h1 : DataW.Trod enc Try.prog W 0 (fun _ => true) true 30 v1 d1 p1) (ok1 : Value.okWide Try.prog W .any base 30 v1)
    (v2 : Value) (d2 : DataW H) (p2 : List MemPlace) (h2 : DataW.Trod enc Try.prog W 0 (fun _ => true) true 3 v2 d2 p2) (ok2 : Value.okWide Try.prog W .any base 3 v2) (hk : Rows.uptoSmall H ([d0] ++ ([d1] ++ ([d2] ++ []))) = true) :
    Calls Try.prog 7 #[v0, v1, v2] W fun e w' => e = .returned (.bool true) ∧ Gr W w' := by
  have hb := bulk_small hk
  simp only [Rows.uptoBulkAll, List.cons_append, List.nil_append] at hb
  obtain ⟨B, m, d, ops, rfl, hr, hit, hl⟩ := open_script h0 ok0 (by omega)
  obtain ⟨C, p, q, os, rfl, ho, hl2⟩ := open_vals h1 ok1
  obtain ⟨x, rfl⟩ := okWide_int ty_int ok2
  have hx : x ≤ 9223372036854775807 := by
    obtain ⟨f, hf⟩ := h2
    obtain ⟨y, e, _, hw⟩ := DataW.trod_int ty_int hf
    have e2 : x = y := by simpa [Value.cells] using e
    subst e2
    exact (wf_rng hw).2
  exact heapMet_walk W B m d ops ⟨hr⟩ ⟨hit⟩ (by omega) C p q os ⟨ho⟩ (by omega) x hx
end Go.Proofs.Ytpibchjkmaghnaa
