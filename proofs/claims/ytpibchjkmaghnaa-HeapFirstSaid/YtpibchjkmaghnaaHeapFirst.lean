/- HeapFirst: the walk. -/
import Derived.Test.YtpibchjkmaghnaaHpRecv
import Derived.Test.YtpibchjkmaghnaaHpSize
import Derived.Test.YtpibchjkmaghnaaHpOps
namespace Go.Mm
/-- What lies behind the first of a slice of one's own. -/
theorem Mem.behind1 {w0 w : World} {L : List Chunk} {size g off n c : Nat} {xs : List Value} (h : Mem w0 w (Own size (.slice (some ⟨g, off, none⟩) n c) xs :: L)) (hn : 1 ≤ n) :
    Mem w0 w (Own size (.slice (some ⟨g, if c = 1 then off else off + size, none⟩) (n - 1) (c - 1)) (xs.drop size) :: L) := by
  refine h.upd ⟨rfl, rfl, rfl, Nat.le_refl _, fun _ _ _ => rfl⟩ ?_ ?_
  · obtain ⟨_, _, _, e, h1, h2, h3, ho, h4⟩ := h.ok _ m0
    cases e
    refine ⟨_, n - 1, c - 1, rfl, by rw [List.length_drop, h1, Nat.sub_mul]; omega, by omega, by omega, ho.drop _, ?_⟩
    by_cases hc : c = 1
    · left; omega
    right
    rcases h4 with h4 | ⟨g, off, t, cur, e, hg, h5, h6⟩
    · omega
    cases e
    have hcs : (c - 1) * size + size = c * size := by rw [← Nat.succ_mul]; congr 1; omega
    have hns : (n - 1) * size + size = n * size := by rw [← Nat.succ_mul]; congr 1; omega
    rw [if_neg hc]
    refine ⟨g, off + size, t, cur, rfl, hg, by omega, ?_⟩
    rw [← h6, List.drop_take, List.drop_drop]
    congr 1
    omega
  · rintro j ⟨off', n', c1, e, hc⟩
    cases e
    exact .inl ⟨off, n, c, rfl, by omega⟩
end Go.Mm
namespace Go.Proofs.Ytpibchjkmaghnaa
open Go.RowKit Go.Mm
set_option maxHeartbeats 4000000
set_option maxRecDepth 100000
set_option linter.unusedSimpArgs false
theorem meas_lt {m k : Nat} (h : k < m) (hw : wrap64 ((k : Int) + 1) = (k : Int) + 1) : m - (intOf (.int .i64 (wrap64 ((k : Int) + 1)))).toNat < m - (intOf (.int .i64 (k : Int))).toNat := by
  rw [hw]
  simp [intOf]
  omega
/-- The heap of one channel. -/
theorem mm4 {α : Type} {a b c d e : α} {L : List α} : e ∈ a :: b :: c :: d :: e :: L := .tail _ (.tail _ (.tail _ (.tail _ (.head _))))
theorem fV_snoc (q : List V2) (x : V2) : fV (q ++ [x]) = fV q ++ cV x := by simp [fV]
def fh (g j : Nat) (A : Option Addr) (c : Nat) (t : Th) : Hp := ⟨g, 1000, 3 + j, A, c, [t]⟩
theorem fh_ok {g j : Nat} (hj : j < 64) (A : Option Addr) (c : Nat) {t : Th} (ht : t.Ok) : (fh g j A c t).Ok :=
  ⟨fun u hu => by simp [fh] at hu; subst hu; exact ht, by simp [fh], by simp [fh], by simp [fh], by simp only [fh]; omega, by simp only [fh]; omega⟩
theorem fh_nm (g j : Nat) (A : Option Addr) (c : Nat) {t : Th} (hk : t.ob.kind = 9) : nm (fh g j A c t).objs (9, 0) = some 0 := by
  simp [nm, fh, Hp.objs, hk]
theorem first_walk (W : World) (room : Int) (A : Option Addr) (m c : Nat) (ops : List HOp) (hs : Fact (RdC W 9 (.slice A m c) (ops.flatMap cHO))) (hmm : m ≤ maxLen) :
    Calls Try.prog 3 #[.int .i64 room, .slice A m c] W fun e w' => e = .returned (.bool true) ∧ Gr W w' := by
  obtain ⟨iV, hiV, hz0, hz1, hz2⟩ := info_parts inf_V
  go_enter Try.func3, Try.ntmps3
  go_wp2_with fail
  refine (pick_ok W room 64 64 rfl (by omega) (by omega)).mono ?_
  rintro e w1 ⟨j, rfl, rfl, hj⟩
  have e1 : IntKind.i64.wrap (1 + (j : Int)) = 1 + j := IntWalk.i64_in _ (by omega)
  go_wp2_with fail
  refine (heapNew_ok w1 w1 [] (Mem.start w1) 1000 0).mono ?_
  rintro e w2 ⟨g, rfl, hm2⟩
  rw [show max (1000 : Int) 0 = 1000 from rfl, show max (0 : Int) 0 = 0 from rfl] at hm2
  go_wp2_with fail
  refine (chanYes_ok w1 w2 [] _ hm2 ⟨⟨by simp, by simp, by simp, by simp, by simp, by simp⟩⟩ (1 + (j : Int)) (by omega) (by omega) ⟨by simp [Hp.room]; omega⟩ (by simp)).mono ?_
  rintro e w3 ⟨rfl, A1, c1, gt, hm3⟩
  have hh : (Hp.push ⟨g, 1000, 0, none, 0, []⟩ (2 + (1 + (j : Int))) A1 c1 (chT gt (1 + (j : Int)))) = fh g j A1 c1 (chT gt (1 + (j : Int))) := by
    unfold Hp.push fh
    simp
    omega
  rw [hh] at hm3
  clear hm2 hh
  go_upto_region 6 with (refine wp_setrow rfl 27 _ _ rfl w3.heap.size rfl 27 _ [.int .i64 9, .int .i64 0] rfl (hm3.alloc _) sz_V rfl (cV_one (9, 0)) ?_; intro w4 hm4)
  generalize w3.heap.size = gb at hm4 ⊢
  have d0 := hm4.cell m0 0 rfl
  have d1 := hm4.cell m0 1 rfl
  go_wp2
  go_loopw [9, 10, 11] (fun s9 s10 s11 w' => ∃ (k : Nat) (A' : Option Addr) (c' : Nat) (t : Th) (q : List V2) (sh : Bool), s9 = .slice A' q.length c' ∧ s10 = .bool sh ∧ s11 = .int .i64 k ∧ k ≤ m ∧ t.Ok ∧ t.ob = ⟨9, q, [], 0, 1 + j, sh⟩ ∧ q.length ≤ 1 + j ∧ Mem w1 w' [Blk gb (.cells [.int .i64 9, .int .i64 0].toArray 27), HpC (fh g j A1 c1 t), Own 2 (.slice A' q.length c') (fV q)]) (fun _ _ s11 _ => m - (intOf s11).toNat)
  case atStart => exact ⟨0, none, 0, chT gt (1 + (j : Int)), [], false, rfl, rfl, rfl, by omega, chT_ok _ _, rfl, by simp, (hm4.nil 2 none).perm (((List.Perm.swap _ _ _).trans ((List.Perm.swap _ _ _).cons _)))⟩
  case round =>
    obtain ⟨k, A', c', t, q, sh, rfl, rfl, rfl, hk, htk, htob, hq, hm⟩ := hrel
    clear hm4 d0 d1 hm3
    by_cases hlt : k < m
    · obtain ⟨b, o, rfl, hc, _⟩ := rdHO_at hs.out k hlt
      have r1 := Gr.cell hm.below (hc 1 _ rfl)
      have r4 := Gr.cell hm.below (hc 4 _ rfl)
      have r5 := Gr.cell hm.below (hc 5 _ rfl)
      generalize ops.getD k hop0 = x at hc r1 r4 r5
      have rx := rng2 r4 r5
      go_upto_region 14 with (first | (refine wp_rng rfl 27 _ rfl b (o + k * 9 + 4) rfl (cV x.x) rx row_V sz_V ?_) | (refine wp_setrow rfl 27 _ _ rfl wr.heap.size rfl 27 _ (cV x.x) rfl (hm.alloc _) sz_V rfl (cV_one x.x) ?_; intro w6 hm6))
      generalize wr.heap.size = g12 at hm6 ⊢
      clear r4 r5 rx
      have r1 := Gr.cell hm6.below (hc 1 _ rfl)
      clear hc hm
      have hm7 := hm6.perm (((List.Perm.swap _ _ _).cons _).trans (List.Perm.swap _ _ _))
      clear hm6
      have wrapk : wrap64 ((k : Int) + 1) = (k : Int) + 1 := IntWalk.wrap64_in _ (by unfold maxLen at hmm; omega)
      go_wp2_with fail
      refine (pick_ok w6 x.kd 9 9 rfl (by omega) (by omega)).mono ?_
      rintro e w7 ⟨p, rfl, rfl, hp⟩
      have y0 := hm7.cell m1 0 rfl
      have y1 := hm7.cell m1 1 rfl
      have d0 := hm7.cell m2 0 rfl
      have d1 := hm7.cell m2 1 rfl
      clear r1
      have hK9 : t.ob.kind = 9 := by rw [htob]
      have hob : ∀ (A3 : Option Addr) (n3 c3 : Nat) (its : List V2) (s3 : Bool), (t.queue A3 n3 c3 its s3).ob = ⟨9, its, [], 0, 1 + j, s3⟩ := fun A3 n3 c3 its s3 => by
        show ({ t.ob with items := its, shut := s3 } : Ob) = _
        rw [htob]
      have hsh : t.ob.shut = sh := by rw [htob]
      have hit : t.ob.items = q := by rw [htob]
      have hokk : ∀ (A3 : Option Addr) (n3 c3 : Nat) (its : List V2) (s3 : Bool), its.length ≤ 1048576 → (t.queue A3 n3 c3 its s3).Ok := fun A3 n3 c3 its s3 hl => queue_ok htk hK9 A3 n3 c3 its s3 hl
      have htob := Fact.mk htob
      have hob := Fact.mk hob
      by_cases h8 : p = 8
      · subst h8
        go_wp2_with fail
        refine (shut_ok w1 _ _ (fh g j A1 c1 t) hm7 ⟨fh_ok hj A1 c1 htk⟩ 9 0 0 (fh_nm g j A1 c1 hK9) t ⟨rfl⟩ ⟨hK9⟩).mono ?_
        rintro e w8 ⟨rfl, hm8⟩
        rw [hit] at hm8
        clear y0 y1 d0 d1
        cases sh with
        | true =>
          rw [show shutR t.ob = 7 by unfold shutR; rw [hsh]; rfl]
          have hmT := hm8.drop2
          as_aux_lemma =>
            try clear d0 d1
            have d0 := hmT.cell m1 0 rfl
            have d1 := hmT.cell m1 1 rfl
            try go_wp2_with fail
            refine (sizeC_ok w1 _ _ (fh g j A1 c1 (t.queue t.A t.n t.c q true)) hmT ⟨fh_ok hj A1 c1 (hokk _ _ _ _ _ (by omega))⟩ 9 0 0 (fh_nm g j A1 c1 (by rw [hob.out _ _ _ _ _])) (t.queue t.A t.n t.c q true) ⟨rfl⟩ ⟨by rw [hob.out _ _ _ _ _]⟩).mono ?_
            rintro e w9 ⟨rfl, hmU⟩
            rw [show ((t.queue t.A t.n t.c q true)).ob.items.length = q.length from (congrArg (fun o : Ob => o.items.length) (hob.out _ _ _ _ _)).trans (by first | exact hmQ.out | rfl)]
            go_wp2_with fail
            go_roundw
            case rel => exact ⟨k + 1, A', c', (t.queue t.A t.n t.c q true), q, _, by first | rfl | rw [hmQ.out], rfl, by go_num, by omega, hokk _ _ _ _ _ (by omega), hob.out _ _ _ _ _, by first | omega | (simp; omega), hmU.swap⟩
            case measure => exact meas_lt hlt wrapk
        | false =>
          rw [show shutR t.ob = 0 by unfold shutR; rw [hsh]; rfl]
          have hmT := hm8.drop2
          as_aux_lemma =>
            try clear d0 d1
            have d0 := hmT.cell m1 0 rfl
            have d1 := hmT.cell m1 1 rfl
            try go_wp2_with fail
            refine (sizeC_ok w1 _ _ (fh g j A1 c1 (t.queue t.A t.n t.c q true)) hmT ⟨fh_ok hj A1 c1 (hokk _ _ _ _ _ (by omega))⟩ 9 0 0 (fh_nm g j A1 c1 (by rw [hob.out _ _ _ _ _])) (t.queue t.A t.n t.c q true) ⟨rfl⟩ ⟨by rw [hob.out _ _ _ _ _]⟩).mono ?_
            rintro e w9 ⟨rfl, hmU⟩
            rw [show ((t.queue t.A t.n t.c q true)).ob.items.length = q.length from (congrArg (fun o : Ob => o.items.length) (hob.out _ _ _ _ _)).trans (by first | exact hmQ.out | rfl)]
            go_wp2_with fail
            go_roundw
            case rel => exact ⟨k + 1, A', c', (t.queue t.A t.n t.c q true), q, _, by first | rfl | rw [hmQ.out], rfl, by go_num, by omega, hokk _ _ _ _ _ (by omega), hob.out _ _ _ _ _, by first | omega | (simp; omega), hmU.swap⟩
            case measure => exact meas_lt hlt wrapk
      by_cases h4 : 4 ≤ p
      · have hp0 : decide ((p : Int) = 0) = false := decide_eq_false (by omega)
        have hp1 : decide ((p : Int) = 1) = false := decide_eq_false (by omega)
        have hp2 : decide ((p : Int) = 2) = false := decide_eq_false (by omega)
        have hp3 : decide ((p : Int) = 3) = false := decide_eq_false (by omega)
        have hp8 : decide ((p : Int) = 8) = false := decide_eq_false (by omega)
        go_wp2_with fail
        refine (recv_ok w1 _ _ (fh g j A1 c1 t) hm7 ⟨fh_ok hj A1 c1 htk⟩ 9 0 0 (fh_nm g j A1 c1 hK9) t ⟨rfl⟩ ⟨hK9⟩ (by rw [hit]; omega)).mono ?_
        rintro e w8 ⟨rfl, A3, n3, c3, hm8⟩
        rw [hit, hsh] at hm8
        clear y0 y1 d0 d1 hp0 hp1 hp2 hp3 hp8
        have hm8' : Mem w1 w8 [HpC (fh g j A1 c1 (t.queue A3 n3 c3 q.tail sh)), Blk gb (.cells [.int .i64 9, .int .i64 0].toArray 27), Own 2 (.slice A' q.length c') (fV q)] := hm8.drop2
        clear hm8 hm7
        cases q with
        | nil =>
          rw [show recvR t.ob = .tuple #[.agg #[.int .i64 0, .int .i64 0], .bool sh, .int .i64 0] by unfold recvR; rw [hit, hsh]]
          cases sh with
          | true =>
            as_aux_lemma =>
              go_wp2_with (first | (refine wp_setrow rfl 27 _ _ rfl w8.heap.size rfl 27 _ [.int .i64 0, .int .i64 0] rfl (hm8'.alloc _) sz_V rfl (cV_one (0, 0)) ?_; intro w10 hm10) | (refine wp_setrow rfl 27 _ _ rfl w10.heap.size rfl 27 _ [.int .i64 0, .int .i64 0] rfl (hm10.alloc _) sz_V rfl (cV_one (0, 0)) ?_; intro w11 hm11; have z0 := hm11.cell m0 0 rfl; have z1 := hm11.cell m0 1 rfl; have u0 := hm11.cell m1 0 rfl; have u1 := hm11.cell m1 1 rfl; have d0 := hm11.cell m3 0 rfl; have d1 := hm11.cell m3 1 rfl))
              have hmT := hm11.tail.tail
              try clear d0 d1
              have d0 := hmT.cell m1 0 rfl
              have d1 := hmT.cell m1 1 rfl
              try go_wp2_with fail
              refine (sizeC_ok w1 _ _ (fh g j A1 c1 (t.queue A3 n3 c3 [] true)) hmT ⟨fh_ok hj A1 c1 (hokk _ _ _ _ _ (by simp))⟩ 9 0 0 (fh_nm g j A1 c1 (by rw [hob.out _ _ _ _ _])) (t.queue A3 n3 c3 [] true) ⟨rfl⟩ ⟨by rw [hob.out _ _ _ _ _]⟩).mono ?_
              rintro e w9 ⟨rfl, hmU⟩
              rw [show ((t.queue A3 n3 c3 [] true)).ob.items.length = 0 from (congrArg (fun o : Ob => o.items.length) (hob.out _ _ _ _ _)).trans (by first | exact hmQ.out | rfl)]
              go_wp2_with fail
              go_roundw
              case rel => exact ⟨k + 1, A', c', (t.queue A3 n3 c3 [] true), ([] : List V2), _, by first | rfl | rw [hmQ.out], rfl, by go_num, by omega, hokk _ _ _ _ _ (by simp), hob.out _ _ _ _ _, by first | omega | (simp; omega), hmU.swap⟩
              case measure => exact meas_lt hlt wrapk
          | false =>
            as_aux_lemma =>
              go_wp2_with (first | (refine wp_setrow rfl 27 _ _ rfl w8.heap.size rfl 27 _ [.int .i64 0, .int .i64 0] rfl (hm8'.alloc _) sz_V rfl (cV_one (0, 0)) ?_; intro w10 hm10) | (refine wp_setrow rfl 27 _ _ rfl w10.heap.size rfl 27 _ [.int .i64 0, .int .i64 0] rfl (hm10.alloc _) sz_V rfl (cV_one (0, 0)) ?_; intro w11 hm11; have z0 := hm11.cell m0 0 rfl; have z1 := hm11.cell m0 1 rfl; have u0 := hm11.cell m1 0 rfl; have u1 := hm11.cell m1 1 rfl; have d0 := hm11.cell m3 0 rfl; have d1 := hm11.cell m3 1 rfl))
              have hmT := hm11.tail.tail
              try clear d0 d1
              have d0 := hmT.cell m1 0 rfl
              have d1 := hmT.cell m1 1 rfl
              try go_wp2_with fail
              refine (sizeC_ok w1 _ _ (fh g j A1 c1 (t.queue A3 n3 c3 [] false)) hmT ⟨fh_ok hj A1 c1 (hokk _ _ _ _ _ (by simp))⟩ 9 0 0 (fh_nm g j A1 c1 (by rw [hob.out _ _ _ _ _])) (t.queue A3 n3 c3 [] false) ⟨rfl⟩ ⟨by rw [hob.out _ _ _ _ _]⟩).mono ?_
              rintro e w9 ⟨rfl, hmU⟩
              rw [show ((t.queue A3 n3 c3 [] false)).ob.items.length = 0 from (congrArg (fun o : Ob => o.items.length) (hob.out _ _ _ _ _)).trans (by first | exact hmQ.out | rfl)]
              go_wp2_with fail
              go_roundw
              case rel => exact ⟨k + 1, A', c', (t.queue A3 n3 c3 [] false), ([] : List V2), _, by first | rfl | rw [hmQ.out], rfl, by go_num, by omega, hokk _ _ _ _ _ (by simp), hob.out _ _ _ _ _, by first | omega | (simp; omega), hmU.swap⟩
              case measure => exact meas_lt hlt wrapk
        | cons y ys =>
          rw [show recvR t.ob = .tuple #[.agg #[.int .i64 y.1, .int .i64 y.2], .bool true, .int .i64 0] by unfold recvR; rw [hit]]
          obtain ⟨b2, o2, hA, r0, r1', _, _⟩ := rdV_at (hm8'.rd m2) 0 (by simp)
          simp only [List.getD_cons_zero, Nat.zero_mul, Nat.add_zero] at r0 r1'
          subst hA
          clear r0 r1'
          have hcp := OwnAt.cap (hm8'.ok _ m2)
          have hq0 : ys.length + 1 ≤ 1 + j := hq
          by_cases hc1 : c' = 1
          · have hy0 : ys.length = 0 := by have := hcp.1; simp at this; omega
            obtain rfl := List.eq_nil_of_length_eq_zero hy0
            subst hc1
            clear hcp
            cases sh with
            | true =>
              as_aux_lemma =>
                go_wp2_with (first | (refine wp_setrow rfl 27 _ _ rfl w8.heap.size rfl 27 _ (cV y) rfl (hm8'.alloc _) sz_V rfl (cV_one y) ?_; intro w10 hm10) | (refine wp_setrow rfl 27 _ _ rfl w10.heap.size rfl 27 _ [.int .i64 0, .int .i64 0] rfl (hm10.alloc _) sz_V rfl (cV_one (0, 0)) ?_; intro w11 hm11; obtain ⟨_, _, hA3, r0, r1', _, _⟩ := rdV_at (hm11.rd mm4) 0 (by simp); cases hA3; simp only [List.getD_cons_zero, Nat.zero_mul, Nat.add_zero] at r0 r1') | (refine wp_setrow rfl 27 _ _ rfl w10.heap.size rfl 27 _ (cV y) rfl hm11 sz_V rfl (cV_one y) ?_; intro w12 hm12; have z0 := hm12.cell m0 0 rfl; have z1 := hm12.cell m0 1 rfl; have u0 := hm12.cell m1 0 rfl; have u1 := hm12.cell m1 1 rfl; have d0 := hm12.cell m3 0 rfl; have d1 := hm12.cell m3 1 rfl))
                have hmT := hm12.tail.tail.pull2.behind1 (by simp)
                rw [if_pos rfl] at hmT
                replace hmT : Mem w1 w12 [HpC (fh g j A1 c1 (t.queue A3 n3 c3 ([] : List V2) true)), Blk gb (.cells [.int .i64 9, .int .i64 0].toArray 27), Own 2 (.slice (some ⟨b2, o2, none⟩) ([] : List V2).length 0) (fV ([] : List V2))] := hmT.back2
                try clear d0 d1
                have d0 := hmT.cell m1 0 rfl
                have d1 := hmT.cell m1 1 rfl
                try go_wp2_with fail
                refine (sizeC_ok w1 _ _ (fh g j A1 c1 (t.queue A3 n3 c3 ([] : List V2) true)) hmT ⟨fh_ok hj A1 c1 (hokk _ _ _ _ _ (by omega))⟩ 9 0 0 (fh_nm g j A1 c1 (by rw [hob.out _ _ _ _ _])) (t.queue A3 n3 c3 ([] : List V2) true) ⟨rfl⟩ ⟨by rw [hob.out _ _ _ _ _]⟩).mono ?_
                rintro e w9 ⟨rfl, hmU⟩
                rw [show ((t.queue A3 n3 c3 ([] : List V2) true)).ob.items.length = ([] : List V2).length from (congrArg (fun o : Ob => o.items.length) (hob.out _ _ _ _ _)).trans (by first | exact hmQ.out | rfl)]
                go_wp2_with fail
                go_roundw
                case rel => exact ⟨k + 1, (some ⟨b2, o2, none⟩), (0), (t.queue A3 n3 c3 ([] : List V2) true), ([] : List V2), _, by first | rfl | rw [hmQ.out], rfl, by go_num, by omega, hokk _ _ _ _ _ (by omega), hob.out _ _ _ _ _, by first | omega | (simp; omega), hmU.swap⟩
                case measure => exact meas_lt hlt wrapk
            | false =>
              as_aux_lemma =>
                go_wp2_with (first | (refine wp_setrow rfl 27 _ _ rfl w8.heap.size rfl 27 _ (cV y) rfl (hm8'.alloc _) sz_V rfl (cV_one y) ?_; intro w10 hm10) | (refine wp_setrow rfl 27 _ _ rfl w10.heap.size rfl 27 _ [.int .i64 0, .int .i64 0] rfl (hm10.alloc _) sz_V rfl (cV_one (0, 0)) ?_; intro w11 hm11; obtain ⟨_, _, hA3, r0, r1', _, _⟩ := rdV_at (hm11.rd mm4) 0 (by simp); cases hA3; simp only [List.getD_cons_zero, Nat.zero_mul, Nat.add_zero] at r0 r1') | (refine wp_setrow rfl 27 _ _ rfl w10.heap.size rfl 27 _ (cV y) rfl hm11 sz_V rfl (cV_one y) ?_; intro w12 hm12; have z0 := hm12.cell m0 0 rfl; have z1 := hm12.cell m0 1 rfl; have u0 := hm12.cell m1 0 rfl; have u1 := hm12.cell m1 1 rfl; have d0 := hm12.cell m3 0 rfl; have d1 := hm12.cell m3 1 rfl))
                have hmT := hm12.tail.tail.pull2.behind1 (by simp)
                rw [if_pos rfl] at hmT
                replace hmT : Mem w1 w12 [HpC (fh g j A1 c1 (t.queue A3 n3 c3 ([] : List V2) false)), Blk gb (.cells [.int .i64 9, .int .i64 0].toArray 27), Own 2 (.slice (some ⟨b2, o2, none⟩) ([] : List V2).length 0) (fV ([] : List V2))] := hmT.back2
                try clear d0 d1
                have d0 := hmT.cell m1 0 rfl
                have d1 := hmT.cell m1 1 rfl
                try go_wp2_with fail
                refine (sizeC_ok w1 _ _ (fh g j A1 c1 (t.queue A3 n3 c3 ([] : List V2) false)) hmT ⟨fh_ok hj A1 c1 (hokk _ _ _ _ _ (by omega))⟩ 9 0 0 (fh_nm g j A1 c1 (by rw [hob.out _ _ _ _ _])) (t.queue A3 n3 c3 ([] : List V2) false) ⟨rfl⟩ ⟨by rw [hob.out _ _ _ _ _]⟩).mono ?_
                rintro e w9 ⟨rfl, hmU⟩
                rw [show ((t.queue A3 n3 c3 ([] : List V2) false)).ob.items.length = ([] : List V2).length from (congrArg (fun o : Ob => o.items.length) (hob.out _ _ _ _ _)).trans (by first | exact hmQ.out | rfl)]
                go_wp2_with fail
                go_roundw
                case rel => exact ⟨k + 1, (some ⟨b2, o2, none⟩), (0), (t.queue A3 n3 c3 ([] : List V2) false), ([] : List V2), _, by first | rfl | rw [hmQ.out], rfl, by go_num, by omega, hokk _ _ _ _ _ (by omega), hob.out _ _ _ _ _, by first | omega | (simp; omega), hmU.swap⟩
                case measure => exact meas_lt hlt wrapk
          · have hcp1 : 1 ≤ c' := by have := hcp.1; simp at this; omega
            cases sh with
            | true =>
              as_aux_lemma =>
                go_wp2_with (first | (refine wp_setrow rfl 27 _ _ rfl w8.heap.size rfl 27 _ (cV y) rfl (hm8'.alloc _) sz_V rfl (cV_one y) ?_; intro w10 hm10) | (refine wp_setrow rfl 27 _ _ rfl w10.heap.size rfl 27 _ [.int .i64 0, .int .i64 0] rfl (hm10.alloc _) sz_V rfl (cV_one (0, 0)) ?_; intro w11 hm11; obtain ⟨_, _, hA3, r0, r1', _, _⟩ := rdV_at (hm11.rd mm4) 0 (by simp); cases hA3; simp only [List.getD_cons_zero, Nat.zero_mul, Nat.add_zero] at r0 r1') | (refine wp_setrow rfl 27 _ _ rfl w10.heap.size rfl 27 _ (cV y) rfl hm11 sz_V rfl (cV_one y) ?_; intro w12 hm12; have z0 := hm12.cell m0 0 rfl; have z1 := hm12.cell m0 1 rfl; have u0 := hm12.cell m1 0 rfl; have u1 := hm12.cell m1 1 rfl; have d0 := hm12.cell m3 0 rfl; have d1 := hm12.cell m3 1 rfl))
                have hmT := hm12.tail.tail.pull2.behind1 (by simp)
                rw [if_neg hc1] at hmT
                replace hmT : Mem w1 w12 [HpC (fh g j A1 c1 (t.queue A3 n3 c3 ys true)), Blk gb (.cells [.int .i64 9, .int .i64 0].toArray 27), Own 2 (.slice (some ⟨b2, o2 + 2, none⟩) ys.length (c' - 1)) (fV ys)] := hmT.back2
                try clear d0 d1
                have d0 := hmT.cell m1 0 rfl
                have d1 := hmT.cell m1 1 rfl
                try go_wp2_with fail
                refine (sizeC_ok w1 _ _ (fh g j A1 c1 (t.queue A3 n3 c3 ys true)) hmT ⟨fh_ok hj A1 c1 (hokk _ _ _ _ _ (by omega))⟩ 9 0 0 (fh_nm g j A1 c1 (by rw [hob.out _ _ _ _ _])) (t.queue A3 n3 c3 ys true) ⟨rfl⟩ ⟨by rw [hob.out _ _ _ _ _]⟩).mono ?_
                rintro e w9 ⟨rfl, hmU⟩
                rw [show ((t.queue A3 n3 c3 ys true)).ob.items.length = ys.length from (congrArg (fun o : Ob => o.items.length) (hob.out _ _ _ _ _)).trans (by first | exact hmQ.out | rfl)]
                go_wp2_with fail
                go_roundw
                case rel => exact ⟨k + 1, (some ⟨b2, o2 + 2, none⟩), ((c' - 1)), (t.queue A3 n3 c3 ys true), ys, _, by first | rfl | rw [hmQ.out], rfl, by go_num, by omega, hokk _ _ _ _ _ (by omega), hob.out _ _ _ _ _, by first | omega | (simp; omega), hmU.swap⟩
                case measure => exact meas_lt hlt wrapk
            | false =>
              as_aux_lemma =>
                go_wp2_with (first | (refine wp_setrow rfl 27 _ _ rfl w8.heap.size rfl 27 _ (cV y) rfl (hm8'.alloc _) sz_V rfl (cV_one y) ?_; intro w10 hm10) | (refine wp_setrow rfl 27 _ _ rfl w10.heap.size rfl 27 _ [.int .i64 0, .int .i64 0] rfl (hm10.alloc _) sz_V rfl (cV_one (0, 0)) ?_; intro w11 hm11; obtain ⟨_, _, hA3, r0, r1', _, _⟩ := rdV_at (hm11.rd mm4) 0 (by simp); cases hA3; simp only [List.getD_cons_zero, Nat.zero_mul, Nat.add_zero] at r0 r1') | (refine wp_setrow rfl 27 _ _ rfl w10.heap.size rfl 27 _ (cV y) rfl hm11 sz_V rfl (cV_one y) ?_; intro w12 hm12; have z0 := hm12.cell m0 0 rfl; have z1 := hm12.cell m0 1 rfl; have u0 := hm12.cell m1 0 rfl; have u1 := hm12.cell m1 1 rfl; have d0 := hm12.cell m3 0 rfl; have d1 := hm12.cell m3 1 rfl))
                have hmT := hm12.tail.tail.pull2.behind1 (by simp)
                rw [if_neg hc1] at hmT
                replace hmT : Mem w1 w12 [HpC (fh g j A1 c1 (t.queue A3 n3 c3 ys false)), Blk gb (.cells [.int .i64 9, .int .i64 0].toArray 27), Own 2 (.slice (some ⟨b2, o2 + 2, none⟩) ys.length (c' - 1)) (fV ys)] := hmT.back2
                try clear d0 d1
                have d0 := hmT.cell m1 0 rfl
                have d1 := hmT.cell m1 1 rfl
                try go_wp2_with fail
                refine (sizeC_ok w1 _ _ (fh g j A1 c1 (t.queue A3 n3 c3 ys false)) hmT ⟨fh_ok hj A1 c1 (hokk _ _ _ _ _ (by omega))⟩ 9 0 0 (fh_nm g j A1 c1 (by rw [hob.out _ _ _ _ _])) (t.queue A3 n3 c3 ys false) ⟨rfl⟩ ⟨by rw [hob.out _ _ _ _ _]⟩).mono ?_
                rintro e w9 ⟨rfl, hmU⟩
                rw [show ((t.queue A3 n3 c3 ys false)).ob.items.length = ys.length from (congrArg (fun o : Ob => o.items.length) (hob.out _ _ _ _ _)).trans (by first | exact hmQ.out | rfl)]
                go_wp2_with fail
                go_roundw
                case rel => exact ⟨k + 1, (some ⟨b2, o2 + 2, none⟩), ((c' - 1)), (t.queue A3 n3 c3 ys false), ys, _, by first | rfl | rw [hmQ.out], rfl, by go_num, by omega, hokk _ _ _ _ _ (by omega), hob.out _ _ _ _ _, by first | omega | (simp; omega), hmU.swap⟩
                case measure => exact meas_lt hlt wrapk
      obtain rfl | rfl | rfl | rfl : p = 0 ∨ p = 1 ∨ p = 2 ∨ p = 3 := by omega
      · as_aux_lemma =>
          go_wp2_with fail
          refine (send_ok w1 _ _ (fh g j A1 c1 t) hm7 ⟨fh_ok hj A1 c1 htk⟩ 9 0 x.x.1 x.x.2 0 (fh_nm g j A1 c1 hK9) t ⟨rfl⟩ ⟨hK9⟩ (by rw [hit]; omega)).mono ?_
          rintro e w8 ⟨rfl, A3, n3, c3, hm8⟩
          clear y0 y1 d0 d1
          cases sh with
          | true =>
            rw [show sendR t.ob = .tuple #[.bool false, .int .i64 7] by rw [htob.out]; rfl]
            rw [show sendO t.ob (x.x.1, x.x.2) = q by rw [htob.out]; rfl, hsh] at hm8
            have hmT := hm8.drop2
            as_aux_lemma =>
              try clear d0 d1
              have d0 := hmT.cell m1 0 rfl
              have d1 := hmT.cell m1 1 rfl
              try go_wp2_with fail
              refine (sizeC_ok w1 _ _ (fh g j A1 c1 (t.queue A3 n3 c3 q true)) hmT ⟨fh_ok hj A1 c1 (hokk _ _ _ _ _ (by omega))⟩ 9 0 0 (fh_nm g j A1 c1 (by rw [hob.out _ _ _ _ _])) (t.queue A3 n3 c3 q true) ⟨rfl⟩ ⟨by rw [hob.out _ _ _ _ _]⟩).mono ?_
              rintro e w9 ⟨rfl, hmU⟩
              rw [show ((t.queue A3 n3 c3 q true)).ob.items.length = q.length from (congrArg (fun o : Ob => o.items.length) (hob.out _ _ _ _ _)).trans (by first | exact hmQ.out | rfl)]
              go_wp2_with fail
              go_roundw
              case rel => exact ⟨k + 1, A', c', (t.queue A3 n3 c3 q true), q, _, by first | rfl | rw [hmQ.out], rfl, by go_num, by omega, hokk _ _ _ _ _ (by omega), hob.out _ _ _ _ _, by first | omega | (simp; omega), hmU.swap⟩
              case measure => exact meas_lt hlt wrapk
          | false =>
            by_cases hfull : (q.length : Int) < 1 + j
            · have hf' : decide ((q.length : Int) < 1 + j) = true := decide_eq_true hfull
              rw [show sendR t.ob = .tuple #[.bool true, .int .i64 0] by rw [htob.out]; simp [sendR, hfull]]
              rw [show sendO t.ob (x.x.1, x.x.2) = q ++ [x.x] by rw [htob.out]; simp [sendO, hfull], hsh] at hm8
              have hm9 := hm8.pull3
              have y0 := hm9.cell m2 0 rfl
              have y1 := hm9.cell m2 1 rfl
              have hmQ : Fact ((q ++ [x.x]).length = q.length + 1) := ⟨by simp⟩
              go_wp2_with (at_builtin; refine wp_app rfl _ _ _ rfl 27 iV _ 2 16 ty_Vs hiV hz0 hz1 hz2 rfl A' q.length c' _ rfl (hm9.alloc _).swap _ 1 1 (cV x.x) rfl (RdC.lit _ _ _ _ _ rfl (by simp [maxLen]) (cV_one x.x)) (by unfold maxLen; omega) (by omega) ?_; intro A5 c5 w11 HM1; have hmT := (HM1.drop2.sub (.cons_cons _ (.cons_cons _ (List.sublist_cons_self _ _)))).back2; have d0 := hmT.cell m1 0 rfl; have d1 := hmT.cell m1 1 rfl)
              rw [← hmQ.out, ← fV_snoc] at hmT
              as_aux_lemma =>
                try clear d0 d1
                have d0 := hmT.cell m1 0 rfl
                have d1 := hmT.cell m1 1 rfl
                try go_wp2_with fail
                refine (sizeC_ok w1 _ _ (fh g j A1 c1 (t.queue A3 n3 c3 (q ++ [x.x]) false)) hmT ⟨fh_ok hj A1 c1 (hokk _ _ _ _ _ (by rw [hmQ.out]; omega))⟩ 9 0 0 (fh_nm g j A1 c1 (by rw [hob.out _ _ _ _ _])) (t.queue A3 n3 c3 (q ++ [x.x]) false) ⟨rfl⟩ ⟨by rw [hob.out _ _ _ _ _]⟩).mono ?_
                rintro e w9 ⟨rfl, hmU⟩
                rw [show ((t.queue A3 n3 c3 (q ++ [x.x]) false)).ob.items.length = q.length + 1 from (congrArg (fun o : Ob => o.items.length) (hob.out _ _ _ _ _)).trans (by first | exact hmQ.out | rfl)]
                go_wp2_with fail
                go_roundw
                case rel => exact ⟨k + 1, A5, c5, (t.queue A3 n3 c3 (q ++ [x.x]) false), (q ++ [x.x]), _, by first | rfl | rw [hmQ.out], rfl, by go_num, by omega, hokk _ _ _ _ _ (by rw [hmQ.out]; omega), hob.out _ _ _ _ _, by first | omega | (simp; omega), hmU.swap⟩
                case measure => exact meas_lt hlt wrapk
            · have hf' : decide ((q.length : Int) < 1 + j) = false := decide_eq_false hfull
              rw [show sendR t.ob = .tuple #[.bool false, .int .i64 0] by rw [htob.out]; simp [sendR, hfull]]
              rw [show sendO t.ob (x.x.1, x.x.2) = q by rw [htob.out]; simp [sendO, hfull], hsh] at hm8
              have hmT := hm8.drop2
              as_aux_lemma =>
                try clear d0 d1
                have d0 := hmT.cell m1 0 rfl
                have d1 := hmT.cell m1 1 rfl
                try go_wp2_with fail
                refine (sizeC_ok w1 _ _ (fh g j A1 c1 (t.queue A3 n3 c3 q false)) hmT ⟨fh_ok hj A1 c1 (hokk _ _ _ _ _ (by omega))⟩ 9 0 0 (fh_nm g j A1 c1 (by rw [hob.out _ _ _ _ _])) (t.queue A3 n3 c3 q false) ⟨rfl⟩ ⟨by rw [hob.out _ _ _ _ _]⟩).mono ?_
                rintro e w9 ⟨rfl, hmU⟩
                rw [show ((t.queue A3 n3 c3 q false)).ob.items.length = q.length from (congrArg (fun o : Ob => o.items.length) (hob.out _ _ _ _ _)).trans (by first | exact hmQ.out | rfl)]
                go_wp2_with fail
                go_roundw
                case rel => exact ⟨k + 1, A', c', (t.queue A3 n3 c3 q false), q, _, by first | rfl | rw [hmQ.out], rfl, by go_num, by omega, hokk _ _ _ _ _ (by omega), hob.out _ _ _ _ _, by first | omega | (simp; omega), hmU.swap⟩
                case measure => exact meas_lt hlt wrapk
      · as_aux_lemma =>
          go_wp2_with fail
          refine (send_ok w1 _ _ (fh g j A1 c1 t) hm7 ⟨fh_ok hj A1 c1 htk⟩ 9 0 x.x.1 x.x.2 0 (fh_nm g j A1 c1 hK9) t ⟨rfl⟩ ⟨hK9⟩ (by rw [hit]; omega)).mono ?_
          rintro e w8 ⟨rfl, A3, n3, c3, hm8⟩
          clear y0 y1 d0 d1
          cases sh with
          | true =>
            rw [show sendR t.ob = .tuple #[.bool false, .int .i64 7] by rw [htob.out]; rfl]
            rw [show sendO t.ob (x.x.1, x.x.2) = q by rw [htob.out]; rfl, hsh] at hm8
            have hmT := hm8.drop2
            as_aux_lemma =>
              try clear d0 d1
              have d0 := hmT.cell m1 0 rfl
              have d1 := hmT.cell m1 1 rfl
              try go_wp2_with fail
              refine (sizeC_ok w1 _ _ (fh g j A1 c1 (t.queue A3 n3 c3 q true)) hmT ⟨fh_ok hj A1 c1 (hokk _ _ _ _ _ (by omega))⟩ 9 0 0 (fh_nm g j A1 c1 (by rw [hob.out _ _ _ _ _])) (t.queue A3 n3 c3 q true) ⟨rfl⟩ ⟨by rw [hob.out _ _ _ _ _]⟩).mono ?_
              rintro e w9 ⟨rfl, hmU⟩
              rw [show ((t.queue A3 n3 c3 q true)).ob.items.length = q.length from (congrArg (fun o : Ob => o.items.length) (hob.out _ _ _ _ _)).trans (by first | exact hmQ.out | rfl)]
              go_wp2_with fail
              go_roundw
              case rel => exact ⟨k + 1, A', c', (t.queue A3 n3 c3 q true), q, _, by first | rfl | rw [hmQ.out], rfl, by go_num, by omega, hokk _ _ _ _ _ (by omega), hob.out _ _ _ _ _, by first | omega | (simp; omega), hmU.swap⟩
              case measure => exact meas_lt hlt wrapk
          | false =>
            by_cases hfull : (q.length : Int) < 1 + j
            · have hf' : decide ((q.length : Int) < 1 + j) = true := decide_eq_true hfull
              rw [show sendR t.ob = .tuple #[.bool true, .int .i64 0] by rw [htob.out]; simp [sendR, hfull]]
              rw [show sendO t.ob (x.x.1, x.x.2) = q ++ [x.x] by rw [htob.out]; simp [sendO, hfull], hsh] at hm8
              have hm9 := hm8.pull3
              have y0 := hm9.cell m2 0 rfl
              have y1 := hm9.cell m2 1 rfl
              have hmQ : Fact ((q ++ [x.x]).length = q.length + 1) := ⟨by simp⟩
              go_wp2_with (at_builtin; refine wp_app rfl _ _ _ rfl 27 iV _ 2 16 ty_Vs hiV hz0 hz1 hz2 rfl A' q.length c' _ rfl (hm9.alloc _).swap _ 1 1 (cV x.x) rfl (RdC.lit _ _ _ _ _ rfl (by simp [maxLen]) (cV_one x.x)) (by unfold maxLen; omega) (by omega) ?_; intro A5 c5 w11 HM1; have hmT := (HM1.drop2.sub (.cons_cons _ (.cons_cons _ (List.sublist_cons_self _ _)))).back2; have d0 := hmT.cell m1 0 rfl; have d1 := hmT.cell m1 1 rfl)
              rw [← hmQ.out, ← fV_snoc] at hmT
              as_aux_lemma =>
                try clear d0 d1
                have d0 := hmT.cell m1 0 rfl
                have d1 := hmT.cell m1 1 rfl
                try go_wp2_with fail
                refine (sizeC_ok w1 _ _ (fh g j A1 c1 (t.queue A3 n3 c3 (q ++ [x.x]) false)) hmT ⟨fh_ok hj A1 c1 (hokk _ _ _ _ _ (by rw [hmQ.out]; omega))⟩ 9 0 0 (fh_nm g j A1 c1 (by rw [hob.out _ _ _ _ _])) (t.queue A3 n3 c3 (q ++ [x.x]) false) ⟨rfl⟩ ⟨by rw [hob.out _ _ _ _ _]⟩).mono ?_
                rintro e w9 ⟨rfl, hmU⟩
                rw [show ((t.queue A3 n3 c3 (q ++ [x.x]) false)).ob.items.length = q.length + 1 from (congrArg (fun o : Ob => o.items.length) (hob.out _ _ _ _ _)).trans (by first | exact hmQ.out | rfl)]
                go_wp2_with fail
                go_roundw
                case rel => exact ⟨k + 1, A5, c5, (t.queue A3 n3 c3 (q ++ [x.x]) false), (q ++ [x.x]), _, by first | rfl | rw [hmQ.out], rfl, by go_num, by omega, hokk _ _ _ _ _ (by rw [hmQ.out]; omega), hob.out _ _ _ _ _, by first | omega | (simp; omega), hmU.swap⟩
                case measure => exact meas_lt hlt wrapk
            · have hf' : decide ((q.length : Int) < 1 + j) = false := decide_eq_false hfull
              rw [show sendR t.ob = .tuple #[.bool false, .int .i64 0] by rw [htob.out]; simp [sendR, hfull]]
              rw [show sendO t.ob (x.x.1, x.x.2) = q by rw [htob.out]; simp [sendO, hfull], hsh] at hm8
              have hmT := hm8.drop2
              as_aux_lemma =>
                try clear d0 d1
                have d0 := hmT.cell m1 0 rfl
                have d1 := hmT.cell m1 1 rfl
                try go_wp2_with fail
                refine (sizeC_ok w1 _ _ (fh g j A1 c1 (t.queue A3 n3 c3 q false)) hmT ⟨fh_ok hj A1 c1 (hokk _ _ _ _ _ (by omega))⟩ 9 0 0 (fh_nm g j A1 c1 (by rw [hob.out _ _ _ _ _])) (t.queue A3 n3 c3 q false) ⟨rfl⟩ ⟨by rw [hob.out _ _ _ _ _]⟩).mono ?_
                rintro e w9 ⟨rfl, hmU⟩
                rw [show ((t.queue A3 n3 c3 q false)).ob.items.length = q.length from (congrArg (fun o : Ob => o.items.length) (hob.out _ _ _ _ _)).trans (by first | exact hmQ.out | rfl)]
                go_wp2_with fail
                go_roundw
                case rel => exact ⟨k + 1, A', c', (t.queue A3 n3 c3 q false), q, _, by first | rfl | rw [hmQ.out], rfl, by go_num, by omega, hokk _ _ _ _ _ (by omega), hob.out _ _ _ _ _, by first | omega | (simp; omega), hmU.swap⟩
                case measure => exact meas_lt hlt wrapk
      · as_aux_lemma =>
          go_wp2_with fail
          refine (send_ok w1 _ _ (fh g j A1 c1 t) hm7 ⟨fh_ok hj A1 c1 htk⟩ 9 0 x.x.1 x.x.2 0 (fh_nm g j A1 c1 hK9) t ⟨rfl⟩ ⟨hK9⟩ (by rw [hit]; omega)).mono ?_
          rintro e w8 ⟨rfl, A3, n3, c3, hm8⟩
          clear y0 y1 d0 d1
          cases sh with
          | true =>
            rw [show sendR t.ob = .tuple #[.bool false, .int .i64 7] by rw [htob.out]; rfl]
            rw [show sendO t.ob (x.x.1, x.x.2) = q by rw [htob.out]; rfl, hsh] at hm8
            have hmT := hm8.drop2
            as_aux_lemma =>
              try clear d0 d1
              have d0 := hmT.cell m1 0 rfl
              have d1 := hmT.cell m1 1 rfl
              try go_wp2_with fail
              refine (sizeC_ok w1 _ _ (fh g j A1 c1 (t.queue A3 n3 c3 q true)) hmT ⟨fh_ok hj A1 c1 (hokk _ _ _ _ _ (by omega))⟩ 9 0 0 (fh_nm g j A1 c1 (by rw [hob.out _ _ _ _ _])) (t.queue A3 n3 c3 q true) ⟨rfl⟩ ⟨by rw [hob.out _ _ _ _ _]⟩).mono ?_
              rintro e w9 ⟨rfl, hmU⟩
              rw [show ((t.queue A3 n3 c3 q true)).ob.items.length = q.length from (congrArg (fun o : Ob => o.items.length) (hob.out _ _ _ _ _)).trans (by first | exact hmQ.out | rfl)]
              go_wp2_with fail
              go_roundw
              case rel => exact ⟨k + 1, A', c', (t.queue A3 n3 c3 q true), q, _, by first | rfl | rw [hmQ.out], rfl, by go_num, by omega, hokk _ _ _ _ _ (by omega), hob.out _ _ _ _ _, by first | omega | (simp; omega), hmU.swap⟩
              case measure => exact meas_lt hlt wrapk
          | false =>
            by_cases hfull : (q.length : Int) < 1 + j
            · have hf' : decide ((q.length : Int) < 1 + j) = true := decide_eq_true hfull
              rw [show sendR t.ob = .tuple #[.bool true, .int .i64 0] by rw [htob.out]; simp [sendR, hfull]]
              rw [show sendO t.ob (x.x.1, x.x.2) = q ++ [x.x] by rw [htob.out]; simp [sendO, hfull], hsh] at hm8
              have hm9 := hm8.pull3
              have y0 := hm9.cell m2 0 rfl
              have y1 := hm9.cell m2 1 rfl
              have hmQ : Fact ((q ++ [x.x]).length = q.length + 1) := ⟨by simp⟩
              go_wp2_with (at_builtin; refine wp_app rfl _ _ _ rfl 27 iV _ 2 16 ty_Vs hiV hz0 hz1 hz2 rfl A' q.length c' _ rfl (hm9.alloc _).swap _ 1 1 (cV x.x) rfl (RdC.lit _ _ _ _ _ rfl (by simp [maxLen]) (cV_one x.x)) (by unfold maxLen; omega) (by omega) ?_; intro A5 c5 w11 HM1; have hmT := (HM1.drop2.sub (.cons_cons _ (.cons_cons _ (List.sublist_cons_self _ _)))).back2; have d0 := hmT.cell m1 0 rfl; have d1 := hmT.cell m1 1 rfl)
              rw [← hmQ.out, ← fV_snoc] at hmT
              as_aux_lemma =>
                try clear d0 d1
                have d0 := hmT.cell m1 0 rfl
                have d1 := hmT.cell m1 1 rfl
                try go_wp2_with fail
                refine (sizeC_ok w1 _ _ (fh g j A1 c1 (t.queue A3 n3 c3 (q ++ [x.x]) false)) hmT ⟨fh_ok hj A1 c1 (hokk _ _ _ _ _ (by rw [hmQ.out]; omega))⟩ 9 0 0 (fh_nm g j A1 c1 (by rw [hob.out _ _ _ _ _])) (t.queue A3 n3 c3 (q ++ [x.x]) false) ⟨rfl⟩ ⟨by rw [hob.out _ _ _ _ _]⟩).mono ?_
                rintro e w9 ⟨rfl, hmU⟩
                rw [show ((t.queue A3 n3 c3 (q ++ [x.x]) false)).ob.items.length = q.length + 1 from (congrArg (fun o : Ob => o.items.length) (hob.out _ _ _ _ _)).trans (by first | exact hmQ.out | rfl)]
                go_wp2_with fail
                go_roundw
                case rel => exact ⟨k + 1, A5, c5, (t.queue A3 n3 c3 (q ++ [x.x]) false), (q ++ [x.x]), _, by first | rfl | rw [hmQ.out], rfl, by go_num, by omega, hokk _ _ _ _ _ (by rw [hmQ.out]; omega), hob.out _ _ _ _ _, by first | omega | (simp; omega), hmU.swap⟩
                case measure => exact meas_lt hlt wrapk
            · have hf' : decide ((q.length : Int) < 1 + j) = false := decide_eq_false hfull
              rw [show sendR t.ob = .tuple #[.bool false, .int .i64 0] by rw [htob.out]; simp [sendR, hfull]]
              rw [show sendO t.ob (x.x.1, x.x.2) = q by rw [htob.out]; simp [sendO, hfull], hsh] at hm8
              have hmT := hm8.drop2
              as_aux_lemma =>
                try clear d0 d1
                have d0 := hmT.cell m1 0 rfl
                have d1 := hmT.cell m1 1 rfl
                try go_wp2_with fail
                refine (sizeC_ok w1 _ _ (fh g j A1 c1 (t.queue A3 n3 c3 q false)) hmT ⟨fh_ok hj A1 c1 (hokk _ _ _ _ _ (by omega))⟩ 9 0 0 (fh_nm g j A1 c1 (by rw [hob.out _ _ _ _ _])) (t.queue A3 n3 c3 q false) ⟨rfl⟩ ⟨by rw [hob.out _ _ _ _ _]⟩).mono ?_
                rintro e w9 ⟨rfl, hmU⟩
                rw [show ((t.queue A3 n3 c3 q false)).ob.items.length = q.length from (congrArg (fun o : Ob => o.items.length) (hob.out _ _ _ _ _)).trans (by first | exact hmQ.out | rfl)]
                go_wp2_with fail
                go_roundw
                case rel => exact ⟨k + 1, A', c', (t.queue A3 n3 c3 q false), q, _, by first | rfl | rw [hmQ.out], rfl, by go_num, by omega, hokk _ _ _ _ _ (by omega), hob.out _ _ _ _ _, by first | omega | (simp; omega), hmU.swap⟩
                case measure => exact meas_lt hlt wrapk
      · as_aux_lemma =>
          go_wp2_with fail
          refine (send_ok w1 _ _ (fh g j A1 c1 t) hm7 ⟨fh_ok hj A1 c1 htk⟩ 9 0 x.x.1 x.x.2 0 (fh_nm g j A1 c1 hK9) t ⟨rfl⟩ ⟨hK9⟩ (by rw [hit]; omega)).mono ?_
          rintro e w8 ⟨rfl, A3, n3, c3, hm8⟩
          clear y0 y1 d0 d1
          cases sh with
          | true =>
            rw [show sendR t.ob = .tuple #[.bool false, .int .i64 7] by rw [htob.out]; rfl]
            rw [show sendO t.ob (x.x.1, x.x.2) = q by rw [htob.out]; rfl, hsh] at hm8
            have hmT := hm8.drop2
            as_aux_lemma =>
              try clear d0 d1
              have d0 := hmT.cell m1 0 rfl
              have d1 := hmT.cell m1 1 rfl
              try go_wp2_with fail
              refine (sizeC_ok w1 _ _ (fh g j A1 c1 (t.queue A3 n3 c3 q true)) hmT ⟨fh_ok hj A1 c1 (hokk _ _ _ _ _ (by omega))⟩ 9 0 0 (fh_nm g j A1 c1 (by rw [hob.out _ _ _ _ _])) (t.queue A3 n3 c3 q true) ⟨rfl⟩ ⟨by rw [hob.out _ _ _ _ _]⟩).mono ?_
              rintro e w9 ⟨rfl, hmU⟩
              rw [show ((t.queue A3 n3 c3 q true)).ob.items.length = q.length from (congrArg (fun o : Ob => o.items.length) (hob.out _ _ _ _ _)).trans (by first | exact hmQ.out | rfl)]
              go_wp2_with fail
              go_roundw
              case rel => exact ⟨k + 1, A', c', (t.queue A3 n3 c3 q true), q, _, by first | rfl | rw [hmQ.out], rfl, by go_num, by omega, hokk _ _ _ _ _ (by omega), hob.out _ _ _ _ _, by first | omega | (simp; omega), hmU.swap⟩
              case measure => exact meas_lt hlt wrapk
          | false =>
            by_cases hfull : (q.length : Int) < 1 + j
            · have hf' : decide ((q.length : Int) < 1 + j) = true := decide_eq_true hfull
              rw [show sendR t.ob = .tuple #[.bool true, .int .i64 0] by rw [htob.out]; simp [sendR, hfull]]
              rw [show sendO t.ob (x.x.1, x.x.2) = q ++ [x.x] by rw [htob.out]; simp [sendO, hfull], hsh] at hm8
              have hm9 := hm8.pull3
              have y0 := hm9.cell m2 0 rfl
              have y1 := hm9.cell m2 1 rfl
              have hmQ : Fact ((q ++ [x.x]).length = q.length + 1) := ⟨by simp⟩
              go_wp2_with (at_builtin; refine wp_app rfl _ _ _ rfl 27 iV _ 2 16 ty_Vs hiV hz0 hz1 hz2 rfl A' q.length c' _ rfl (hm9.alloc _).swap _ 1 1 (cV x.x) rfl (RdC.lit _ _ _ _ _ rfl (by simp [maxLen]) (cV_one x.x)) (by unfold maxLen; omega) (by omega) ?_; intro A5 c5 w11 HM1; have hmT := (HM1.drop2.sub (.cons_cons _ (.cons_cons _ (List.sublist_cons_self _ _)))).back2; have d0 := hmT.cell m1 0 rfl; have d1 := hmT.cell m1 1 rfl)
              rw [← hmQ.out, ← fV_snoc] at hmT
              as_aux_lemma =>
                try clear d0 d1
                have d0 := hmT.cell m1 0 rfl
                have d1 := hmT.cell m1 1 rfl
                try go_wp2_with fail
                refine (sizeC_ok w1 _ _ (fh g j A1 c1 (t.queue A3 n3 c3 (q ++ [x.x]) false)) hmT ⟨fh_ok hj A1 c1 (hokk _ _ _ _ _ (by rw [hmQ.out]; omega))⟩ 9 0 0 (fh_nm g j A1 c1 (by rw [hob.out _ _ _ _ _])) (t.queue A3 n3 c3 (q ++ [x.x]) false) ⟨rfl⟩ ⟨by rw [hob.out _ _ _ _ _]⟩).mono ?_
                rintro e w9 ⟨rfl, hmU⟩
                rw [show ((t.queue A3 n3 c3 (q ++ [x.x]) false)).ob.items.length = q.length + 1 from (congrArg (fun o : Ob => o.items.length) (hob.out _ _ _ _ _)).trans (by first | exact hmQ.out | rfl)]
                go_wp2_with fail
                go_roundw
                case rel => exact ⟨k + 1, A5, c5, (t.queue A3 n3 c3 (q ++ [x.x]) false), (q ++ [x.x]), _, by first | rfl | rw [hmQ.out], rfl, by go_num, by omega, hokk _ _ _ _ _ (by rw [hmQ.out]; omega), hob.out _ _ _ _ _, by first | omega | (simp; omega), hmU.swap⟩
                case measure => exact meas_lt hlt wrapk
            · have hf' : decide ((q.length : Int) < 1 + j) = false := decide_eq_false hfull
              rw [show sendR t.ob = .tuple #[.bool false, .int .i64 0] by rw [htob.out]; simp [sendR, hfull]]
              rw [show sendO t.ob (x.x.1, x.x.2) = q by rw [htob.out]; simp [sendO, hfull], hsh] at hm8
              have hmT := hm8.drop2
              as_aux_lemma =>
                try clear d0 d1
                have d0 := hmT.cell m1 0 rfl
                have d1 := hmT.cell m1 1 rfl
                try go_wp2_with fail
                refine (sizeC_ok w1 _ _ (fh g j A1 c1 (t.queue A3 n3 c3 q false)) hmT ⟨fh_ok hj A1 c1 (hokk _ _ _ _ _ (by omega))⟩ 9 0 0 (fh_nm g j A1 c1 (by rw [hob.out _ _ _ _ _])) (t.queue A3 n3 c3 q false) ⟨rfl⟩ ⟨by rw [hob.out _ _ _ _ _]⟩).mono ?_
                rintro e w9 ⟨rfl, hmU⟩
                rw [show ((t.queue A3 n3 c3 q false)).ob.items.length = q.length from (congrArg (fun o : Ob => o.items.length) (hob.out _ _ _ _ _)).trans (by first | exact hmQ.out | rfl)]
                go_wp2_with fail
                go_roundw
                case rel => exact ⟨k + 1, A', c', (t.queue A3 n3 c3 q false), q, _, by first | rfl | rw [hmQ.out], rfl, by go_num, by omega, hokk _ _ _ _ _ (by omega), hob.out _ _ _ _ _, by first | omega | (simp; omega), hmU.swap⟩
                case measure => exact meas_lt hlt wrapk
    · obtain rfl : k = m := by omega
      have e3 : IntKind.i64.wrap (2 + (1 + (j : Int))) = 3 + j := by rw [IntWalk.i64_in _ (by omega)]; omega
      go_wp2_with fail
      refine (heapSpent_ok w1 _ _ (fh g j A1 c1 t) hm m1).mono ?_
      rintro e w8 ⟨rfl, rfl⟩
      simp only [fh]
      go_wp2_with fail
      refine (heapLen_ok w1 _ _ (fh g j A1 c1 t) hm m1).mono ?_
      rintro e w8 ⟨rfl, rfl⟩
      simp only [fh, List.length_cons, List.length_nil]
      go_wp2_with fail
      go_ret
      exact ⟨rfl, hm.below⟩
end Go.Proofs.Ytpibchjkmaghnaa
