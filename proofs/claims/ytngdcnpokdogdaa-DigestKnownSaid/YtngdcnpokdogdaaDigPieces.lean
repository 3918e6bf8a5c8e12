/- Bytes in whatever pieces. -/
import Derived.Test.YtngdcnpokdogdaaDigShown
namespace Go.Proofs.Ytngdcnpokdogdaa
open Go.RowKit Go.Mm Go.Sh
set_option maxHeartbeats 4000000
set_option maxRecDepth 100000
/-- A piece: where it lies, and its bytes. -/
structure BL where
  A : Option Addr
  n : Nat
  c : Nat
  bs : List Int
def bl0 : BL := ⟨none, 0, 0, []⟩
def bw (x : BL) : Value := .slice x.A x.n x.c
def totB (l : List BL) : Nat := (l.map BL.n).sum
def catB (l : List BL) : List Int := l.flatMap BL.bs
structure PcsOk (w : World) (S : Option Addr) (m sc : Nat) (ps : List BL) : Prop where
  rd : RdC w 1 (.slice S m sc) (ps.map bw)
  each : ∀ p, p ∈ ps → RdC w 1 (bw p) (nums .u8 p.bs) ∧ Byt p.bs ∧ p.n ≤ 140737488351232
theorem totB_succ (l : List BL) (k : Nat) (h : k < l.length) : totB (l.take (k + 1)) = totB (l.take k) + (l.getD k bl0).n := by
  rw [totB, totB, take_snoc l bl0 k h, List.map_append, List.sum_append]
  simp
theorem totB_take (l : List BL) (k : Nat) : totB (l.take k) ≤ totB l := by
  have h := congrArg totB (List.take_append_drop k l)
  simp only [totB, List.map_append, List.sum_append] at h ⊢
  omega
theorem catB_succ (l : List BL) (k : Nat) (h : k < l.length) : catB (l.take (k + 1)) = catB (l.take k) ++ (l.getD k bl0).bs := by
  rw [catB, catB, take_snoc l bl0 k h, List.flatMap_append]
  simp
theorem catB_len : ∀ (l : List BL), (∀ p, p ∈ l → p.bs.length = p.n) → (catB l).length = totB l
  | [], _ => rfl
  | p :: l, h => by
    have ih := catB_len l fun q hq => h q (List.mem_cons_of_mem _ hq)
    have h0 := h p (List.mem_cons_self ..)
    simp only [catB, totB, List.flatMap_cons, List.length_append, List.map_cons, List.sum_cons] at ih ⊢
    omega
theorem catB_byt (l : List BL) (h : ∀ p, p ∈ l → Byt p.bs) : Byt (catB l) := fun x hx => by
  obtain ⟨p, hp, hx⟩ := List.mem_flatMap.1 hx
  exact h p hp x hx
theorem PcsOk.at {w : World} {S : Option Addr} {m sc : Nat} {ps : List BL} (h : PcsOk w S m sc ps) (k : Nat) (hk : k < m) :
    ∃ b o, S = some ⟨b, o, none⟩ ∧ w.cell? ⟨b, o + k, none⟩ = some (bw (ps.getD k bl0)) ∧ ps.length = m ∧ RdC w 1 (bw (ps.getD k bl0)) (nums .u8 (ps.getD k bl0).bs) ∧ Byt (ps.getD k bl0).bs ∧ (ps.getD k bl0).n ≤ 140737488351232 := by
  obtain ⟨b, o, c0, e, h1, h2, _⟩ := h.rd.at1 k hk
  have hl : ps.length = m := by simpa using h.rd.len
  have hg : ps.getD k bl0 = ps[k]'(by omega) := by simp [show k < ps.length by omega]
  rw [List.getElem?_map, List.getElem?_eq_getElem (by omega)] at h2
  cases h2
  rw [hg]
  exact ⟨b, o, e, h1, hl, h.each _ (List.getElem_mem _)⟩
theorem run_ne_nums {P : Program} (w : World) (T e n : TypeId) (k : IntKind) (hT : P.underlying T = some (.array n e)) (he : P.underlying e = some (.int k)) (hs : (P.info? e).map (·.size) = some 1) (xs : List Int) (hx : xs.length = n) :
    (Op.equalIn 10000 T (.agg (nums k xs).toArray) (.agg (nums k xs).toArray)).run P w = .ok true w := by
  rw [run_eq_nums w T e n k hT he hs xs xs hx hx]; simp
theorem pieces_ok (w : World) (S : Option Addr) (m sc : Nat) (ps : List BL) (hps : Fact (PcsOk w S m sc ps)) (hm : m ≤ 140737488351232) :
    Calls Try.prog 8 #[.slice S m sc] w fun e w' => e = .returned (.bool true) ∧ Gr w w' := by
  have hpl : Fact (ps.length = m) := ⟨by have := hps.out.rd.len; simpa using this⟩
  go_enter Try.func8, Try.ntmps8
  go_wp2_with fail
  refine (new_ok w).mono ?_
  rintro e w1 ⟨g, rfl, hm1⟩
  go_wp2_with fail
  refine (shownD_ok w1).mono ?_
  rintro e w2 ⟨rfl, hg2⟩
  have hm2 := hm1.gr hg2
  clear hm1 hg2
  go_wp2
  go_loopw [4, 5] (fun s v W => ∃ (k T : Nat), v = .int .i64 k ∧ k ≤ m ∧ s = .int .i64 T ∧ Fact (totB (ps.take k) = T) ∧ T ≤ 140737505128448 ∧ W = w2) (fun _ v _ => m - (intOf v).toNat)
  case atStart => exact ⟨0, 0, rfl, by omega, rfl, ⟨rfl⟩, by omega, rfl⟩
  case round =>
    obtain ⟨k, T, rfl, hk, rfl, hT, hTb, rfl⟩ := hrel
    by_cases hT2 : T ≤ 16777216
    · by_cases hlt : k < m
      · obtain ⟨b, o, rfl, r1, _, _, _, hxn⟩ := hps.out.at k hlt
        have r1 := Gr.cell hm2.below r1
        have hT1 := Fact.mk (totB_succ ps k (by have := hpl.out; omega))
        generalize ps.getD k bl0 = x at r1 hxn hT1
        obtain ⟨xA, xn, xc, xs⟩ := x
        simp only [bw] at r1
        dsimp only at hxn hT1
        go_wp2
        go_roundw
        case rel => exact ⟨k + 1, T + xn, by go_num, by omega, by go_num, ⟨by rw [hT1.out, hT.out]⟩, by omega, trivial⟩
        case measure => simp [intOf]; omega
      · obtain rfl : m = k := by omega
        have hTall : Fact (totB ps ≤ 16777216) := ⟨by have h := hT.out; rw [List.take_of_length_le (Nat.le_of_eq hpl.out)] at h; omega⟩
        have hT3 : ((T : Int) > 16777216) = False := eq_false (by omega)
        go_wp2
        obtain ⟨i5, hi, hz0, hz1, hz2⟩ := info_parts infB
        have hcl : Fact (∀ k, (catB (ps.take k)).length = totB (ps.take k)) := ⟨fun k => catB_len _ fun p hp => by
          obtain ⟨h, _⟩ := hps.out.each p (List.mem_of_mem_take hp)
          exact h.nlen⟩
        have hcb : Fact (∀ k, Byt (catB (ps.take k))) := ⟨fun k => catB_byt _ fun p hp => (hps.out.each p (List.mem_of_mem_take hp)).2.1⟩
        have hm3 := hm2.nil 1 none
        obtain ⟨w0, rfl⟩ : ∃ w0 : World, w0 = wr := ⟨_, rfl⟩
        go_loopw [6, 7] (fun s v W => ∃ (k : Nat) (A : Option Addr) (n c : Nat) (T : Told), v = .int .i64 k ∧ k ≤ m ∧ s = .slice A n c ∧ n ≤ 16777216 ∧ Fact T.ok ∧ Mem w W [Blk g (.cells (hsh (catB (ps.take k)) T).toArray 53), Own 1 (.slice A n c) (nums .u8 (catB (ps.take k)))]) (fun _ v _ => m - (intOf v).toNat)
        case atStart => exact ⟨0, none, 0, 0, told0, rfl, by omega, rfl, by omega, ⟨told0_ok⟩, hm3.swap⟩
        case round =>
          clear hm2 hm3
          obtain ⟨k, A, n, c, T', rfl, hk, rfl, hn, hT', hm⟩ := hrel
          by_cases hlt : k < m
          · obtain ⟨b, o, rfl, r1, _, hxr, hxb, hxn⟩ := hps.out.at k hlt
            have r0 := Fact.mk r1
            replace r1 := Gr.cell hm.below r1
            have hcs := Fact.mk (catB_succ ps k (by have := hpl.out; omega))
            have hts := totB_succ ps k (by have := hpl.out; omega)
            have htt := totB_take ps (k + 1)
            have hl1 := hcl.out k
            have hb1 := Fact.mk (hcb.out k)
            have hb2 := Fact.mk (hcb.out (k + 1))
            generalize ps.getD k bl0 = x at r0 r1 hxr hxb hxn hcs hts
            obtain ⟨xA, xn, xc, xs⟩ := x
            dsimp only [bw] at r0 r1 hxr hxb hxn hcs hts
            have hsz : n + xn ≤ 16777216 := by have := (hm.rd m1).nlen; have := hTall.out; omega
            have hxl := Fact.mk hxr.nlen
            rw [hcs.out] at hb2
            have hBl : (catB (ps.take k)).length = n := (hm.rd m1).nlen
            have hBl2 : Fact ((catB (ps.take k)).length = n) := ⟨hBl⟩
            clear hts htt hl1 hBl
            generalize catB (ps.take k) = B at *
            go_wp2_with fail
            refine (hwrite_ok w wr [Own 1 (.slice A n c) (nums .u8 B)] g B xs T' xA xn xc hm ⟨fun W cs h => hxr.gr h.below⟩ hb1 ⟨hxb⟩ (by rw [hBl2.out]; omega)).mono ?_
            rintro e w3 ⟨rfl, hm3⟩
            clear hm r1
            have r1 := Gr.cell hm3.below r0.out
            go_wp2_with (at_builtin; refine wp_app rfl _ _ _ rfl 5 i5 _ 1 1 tyBs hi hz0 hz1 hz2 rfl A n c _ rfl (L := [Blk _ _]) hm3.swap xA xn xc _ rfl (hxr.gr hm3.below) (by unfold maxLen; omega) (by omega) ?_; intro A1 c1 w4 HM1)
            rw [← nums_append] at HM1
            have hBx : Fact (Byt (B ++ xs)) := hb2
            have hBl3 : Fact ((B ++ xs).length = n + xn) := ⟨by rw [List.length_append, hBl2.out, hxl.out]⟩
            rw [← hcs.out] at HM1 hBx hBl3 hm3
            clear hm3 r1
            have q1 : Fact (∀ W, (Op.equalIn 10000 22 (.agg (nums .u8 (Sh.sum (catB (ps.take (k + 1))))).toArray) (.agg (nums .u8 (Sh.sum (catB (ps.take (k + 1))))).toArray)).run Try.prog W = .ok true W) := ⟨fun W => run_ne_nums (P := Try.prog) W 22 5 32 .u8 ty22 ty5 sz5 _ (sum_length _)⟩
            have hSl : Fact ((nums .u8 (Sh.sum (catB (ps.take (k + 1))))).length = 32) := ⟨by rw [length_nums, sum_length]⟩
            generalize hC : catB (ps.take (k + 1)) = C at *
            replace hC := Fact.mk hC
            have ho := Fact.mk (One.nums .u8 (Sh.sum C))
            have hS1 := Fact.mk (fun W => sum_ok W C A1 (n + xn) c1)
            have hS2 := Fact.mk (fun W L T => hsum_ok w W L g C T)
            generalize nums .u8 (Sh.sum C) = Z at *
            go_wp2_with fail
            refine (hS1.out w4 ⟨HM1.rd m0⟩ hBx (by omega)).mono ?_
            rintro e w5 ⟨rfl, hg5⟩
            have HM2 := HM1.gr hg5
            clear HM1 hg5
            go_upto_region 18 with (first | (refine Mm.wp_alloc rfl 22 rfl (nums .u8 (List.replicate 32 0)) zero22' HM2 ?_; intro g5 w6 hm6) | (refine wp_setrow rfl 22 _ _ rfl g5 rfl 22 _ _ rfl hm6 (by rw [hSl.out]; exact sz22) (by rw [hSl.out]; rfl) ho.out ?_; intro w7 hm7))
            clear HM2 hm6
            go_wp2_with fail
            refine (hS2.out w7 [Blk g5 (.cells Z.toArray 22), Own 1 (.slice A1 (n + xn) c1) (nums .u8 C)] T' (hm7.sel 3 [2, 0, 1] (by decide)) hT' hBx (by rw [hBl3.out]; omega)).mono ?_
            rintro e w8 ⟨rfl, T2, hT2, hm8⟩
            have hT2' := Fact.mk hT2
            clear hT2 hm7
            go_upto_region 19 with (first | (refine Mm.wp_alloc rfl 22 rfl (nums .u8 (List.replicate 32 0)) zero22' hm8 ?_; intro g6 w9 hm9) | (refine wp_setrow rfl 22 _ _ rfl g6 rfl 22 _ _ rfl hm9 (by rw [hSl.out]; exact sz22) (by rw [hSl.out]; rfl) ho.out ?_; intro w10 hm10))
            clear hm8 hm9
            go_wp2_with fail
            refine (hS2.out w10 [Blk g6 (.cells Z.toArray 22), Blk g5 (.cells Z.toArray 22), Own 1 (.slice A1 (n + xn) c1) (nums .u8 C)] T2 (hm10.sel 4 [1, 0, 2, 3] (by decide)) hT2' hBx (by rw [hBl3.out]; omega)).mono ?_
            rintro e w11 ⟨rfl, T3, hT3, hm11⟩
            have hT3' := Fact.mk hT3
            clear hT3 hm10 hT2'
            go_upto_region 20 with (first | (refine Mm.wp_alloc rfl 22 rfl (nums .u8 (List.replicate 32 0)) zero22' hm11 ?_; intro g7 w12 hm12) | (refine wp_setrow rfl 22 _ _ rfl g7 rfl 22 _ _ rfl hm12 (by rw [hSl.out]; exact sz22) (by rw [hSl.out]; rfl) ho.out ?_; intro w13 hm13))
            clear hm11 hm12
            have q1 := q1.out
            go_wp2_with (first | (refine Mm.wp_row rfl 22 _ rfl g5 rfl 22 Z _ _ hm13 m3 ty22 rfl (by rw [hSl.out]; exact sz22) ?_) | (refine Mm.wp_row rfl 22 _ rfl g6 rfl 22 Z _ _ hm13 m2 ty22 rfl (by rw [hSl.out]; exact sz22) ?_) | (refine Mm.wp_row rfl 22 _ rfl g7 rfl 22 Z _ _ hm13 m0 ty22 rfl (by rw [hSl.out]; exact sz22) ?_))
            clear q1
            go_roundw
            case rel => exact ⟨k + 1, A1, n + xn, c1, T3, by go_num, by omega, rfl, by omega, hT3', by rw [hC.out]; exact hm13.sel 5 [1, 4] (by decide)⟩
            case measure => simp [intOf]; omega
          · rw [List.take_of_length_le (by have := hpl.out; omega)] at hm
            have hBl := (hm.rd m1).nlen
            have hb := Fact.mk (catB_byt ps fun p hp => (hps.out.each p hp).2.1)
            have q1 := fun W => run_ne_nums (P := Try.prog) W 22 5 32 .u8 ty22 ty5 sz5 _ (sum_length (catB ps))
            have hBl' := Fact.mk hBl
            clear hBl
            go_wp2_with fail
            refine (hsum_ok w wr [Own 1 (.slice A n c) (nums .u8 (catB ps))] g (catB ps) T' hm hT' hb (by rw [hBl'.out]; omega)).mono ?_
            rintro e w3 ⟨rfl, T2, hT2, hm3⟩
            go_wp2_with fail
            refine (sum_ok w3 (catB ps) A n c ⟨hm3.rd m1⟩ hb (by omega)).mono ?_
            rintro e w4 ⟨rfl, hg4⟩
            have hm4 := hm3.gr hg4
            go_wp2
            go_ret
            exact ⟨rfl, hm4.below⟩
    · have hT3 : ((T : Int) > 16777216) = True := eq_true (by omega)
      by_cases hlt : k < m
      · go_wp2
        go_ret
        exact ⟨rfl, hm2.below⟩
      · go_wp2
        go_ret
        exact ⟨rfl, hm2.below⟩
end Go.Proofs.Ytngdcnpokdogdaa
