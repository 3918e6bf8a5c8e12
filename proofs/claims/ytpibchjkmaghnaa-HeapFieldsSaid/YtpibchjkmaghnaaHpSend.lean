/- A heap's channels: Send. -/
import Derived.Test.YtpibchjkmaghnaaHpChs
namespace Go.Proofs.Ytpibchjkmaghnaa
open Go.RowKit Go.Mm
set_option maxHeartbeats 4000000
set_option maxRecDepth 100000
set_option linter.unusedSimpArgs false
def sendR (o : Ob) : Value := if o.shut then .tuple #[.bool false, .int .i64 7] else if (o.items.length : Int) < o.cap then .tuple #[.bool true, .int .i64 0] else .tuple #[.bool false, .int .i64 0]
def sendO (o : Ob) (x : V2) : List V2 := if o.shut then o.items else if (o.items.length : Int) < o.cap then o.items ++ [x] else o.items
theorem send_ok (w0 w : World) (L : List Chunk) (h : Hp) (hm : Mem w0 w (HpC h :: L)) (hok : Fact h.Ok) (K N X Y : Int) (i : Nat) (hn : nm h.objs (K, N) = some i) (t : Th) (ht : Fact (h.ths.getD i th0 = t)) (hk : Fact (t.ob.kind = 9)) (hsz : t.ob.items.length ≤ 1048576) :
    Calls Try.prog 15 #[.pointer (some ⟨h.g, 0, none⟩), .agg #[.int .i64 K, .int .i64 N], .agg #[.int .i64 X, .int .i64 Y]] w fun e w' => e = .returned (sendR t.ob) ∧ ∃ A n c, Mem w0 w' (HpC (h.upd i (t.queue A n c (sendO t.ob (X, Y)) t.ob.shut)) :: L) := by
  have hil := (nm_in hn).1
  have has := Fact.mk (asK_yes hn ht.out 9 hk.out)
  obtain ⟨iV, hi, hz0, hz1, hz2⟩ := info_parts inf_V
  clear hn
  go_enter Try.func15, Try.ntmps15
  go_upto_region 1 with (fail)
  have hm1 := (hm.alloc (.cells [.int .i64 K, .int .i64 N].toArray 27)).alloc (.cells [.int .i64 X, .int .i64 Y].toArray 27)
  simp only [World.size_alloc] at hm1
  generalize hgb : w.heap.size = gb at hm1 ⊢
  generalize hw1 : (w.alloc (.cells [.int .i64 K, .int .i64 N].toArray 27)).alloc (.cells [.int .i64 X, .int .i64 Y].toArray 27) = w1 at hm1
  try refine wp_world hw1 ?_
  clear hw1 hgb
  go_wp2_with (refine wp_rng rfl 27 _ rfl gb 0 rfl (cV (K, N)) (rng_blk hm1 m1) row_V sz_V ?_)
  refine (channel_ok w0 w1 _ h hm1 m2 hok K N).mono ?_
  rintro e w2 ⟨rfl, hg2⟩
  rw [has.out]
  have hm2 := Hp.opnC ((hm1.gr hg2).perm ((List.Perm.swap _ _ _).trans (((List.Perm.swap _ _ _).cons _).trans (List.Perm.swap _ _ _)))) i hil t ht.out hk.out
  obtain ⟨R, hR⟩ : ∃ R, R = t.more ++ (h.rest i ++ Blk gb (.cells [.int .i64 K, .int .i64 N].toArray 27) :: Blk (gb + 1) (.cells [.int .i64 X, .int .i64 Y].toArray 27) :: L) := ⟨_, rfl⟩
  rw [← hR] at hm2
  have hxR : Blk (gb + 1) (.cells [.int .i64 X, .int .i64 Y].toArray 27) ∈ R := by rw [hR]; exact List.mem_append_right _ (List.mem_append_right _ m1)
  replace hR := Fact.mk hR
  have hl : t.ob.items.length = t.n := rdV_len (hm2.rd m1)
  have hcap := OwnAt.cap (hm2.ok _ m1)
  have c1 := hm2.cell m0 1 rfl
  have c2 := hm2.cell m0 2 rfl
  simp only [trapK]
  have key : Fact (∀ (W : World) (A : Option Addr) (n c : Nat) (its : List V2), Mem w0 W (Blk t.g (.cells [.int .i64 t.ob.cap, .slice A n c, .bool t.ob.shut].toArray 97) :: Own 2 (.slice A n c) (fV its) :: R) → Mem w0 W (HpC (h.upd i (t.queue A n c its t.ob.shut)) :: L)) := ⟨fun W A n c its hM => by
    rw [hR.out] at hM
    exact (Hp.clsC i hil t ht.out hk.out A n c its t.ob.shut hM).drop2.drop2⟩
  cases hs : t.ob.shut with
  | true =>
    have hs' := Fact.mk hs
    rw [hs] at c2
    clear hs
    go_wp2
    go_ret2
    refine ⟨by unfold sendR; rw [hs'.out]; rfl, t.A, t.n, t.c, ?_⟩
    have e : sendO t.ob (X, Y) = t.ob.items := by unfold sendO; rw [hs'.out]; rfl
    rw [e]
    exact key.out w2 t.A t.n t.c t.ob.items hm2
  | false =>
    have hs' := Fact.mk hs
    rw [hs] at c2 hm2
    clear hs
    replace key : Fact (∀ (W : World) (A : Option Addr) (n c : Nat) (its : List V2), Mem w0 W (Blk t.g (.cells [.int .i64 t.ob.cap, .slice A n c, .bool false].toArray 97) :: Own 2 (.slice A n c) (fV its) :: R) → Mem w0 W (HpC (h.upd i (t.queue A n c its t.ob.shut)) :: L)) := ⟨fun W A n c its hM => key.out W A n c its (by rw [hs'.out]; exact hM)⟩
    have c0 := hm2.cell m0 0 rfl
    go_upto_region 6 with (fail)
    by_cases hfull : t.ob.cap ≤ (t.n : Int)
    · have hf' : decide ((t.n : Int) ≥ t.ob.cap) = true := decide_eq_true hfull
      go_quiet (fail)
      go_wp2
      go_ret2
      have hlt : ¬ ((t.ob.items.length : Int) < t.ob.cap) := by rw [hl]; omega
      refine ⟨by unfold sendR; rw [hs'.out, if_neg (by simp), if_neg hlt]; rfl, t.A, t.n, t.c, ?_⟩
      have e : sendO t.ob (X, Y) = t.ob.items := by unfold sendO; rw [hs'.out, if_neg (by simp), if_neg hlt]
      rw [e]
      exact key.out _ t.A t.n t.c t.ob.items (hm2.drewN _)
    · have hf' : decide ((t.n : Int) ≥ t.ob.cap) = false := decide_eq_false hfull
      have hlt : Fact ((t.ob.items.length : Int) < t.ob.cap) := ⟨by rw [hl]; omega⟩
      go_quiet (fail)
      clear c0 c1 c2 hf'
      have hm3 := hm2.drewN nq
      generalize w2.drewN nq = w3 at hm3 ⊢
      have c1 := hm3.cell m0 1 rfl
      have x0 := hm3.cell (.tail _ (.tail _ hxR)) 0 rfl
      have x1 := hm3.cell (.tail _ (.tail _ hxR)) 1 rfl
      go_upto_region 8 with (fail)
      have hS := And.intro (Gr.cell (Gr.refl w3).drew c1) (And.intro (Gr.cell (Gr.refl w3).drew x0) (Gr.cell (Gr.refl w3).drew x1))
      have hm4 := hm3.drew
      refine wp_region_until (S := fun W => W.cell? ⟨t.g, 1, none⟩ = some (.slice t.A t.n t.c) ∧ W.cell? ⟨gb + 1, 0, none⟩ = some (.int .i64 X) ∧ W.cell? ⟨gb + 1, 1, none⟩ = some (.int .i64 Y)) 8 (by kernel_rfl) ?_
      refine wpAnyU_take 0 (v := ?vsa0) rfl (by kernel_rfl) (by kernel_rfl) (fun _ _ _ h => h) hS (Or.inl ⟨rfl, ?ysa0⟩) ?rsa0
      case ysa0 =>
        intro W hW
        obtain ⟨hW0, hW1, hW2⟩ := hW
        go_simp
        try with_reducible rfl
      try simp only [Act.put, List.setIfInBounds_toArray, List.set_cons_zero, List.set_cons_succ]
      refine wpAnyU_take 1 (v := ?vsa1) rfl (by kernel_rfl) (by kernel_rfl) (fun _ _ _ h => h) hS (Or.inl ⟨rfl, ?ysa1⟩) ?rsa1
      case ysa1 =>
        intro W hW
        obtain ⟨hW0, hW1, hW2⟩ := hW
        go_simp
        try with_reducible rfl
      try simp only [Act.put, List.setIfInBounds_toArray, List.set_cons_zero, List.set_cons_succ]
      refine wpAnyU_take 2 (v := ?vsa2) rfl (by kernel_rfl) (by kernel_rfl) (fun _ _ _ h => h) hS (Or.inl ⟨rfl, ?ysa2⟩) ?rsa2
      case ysa2 =>
        intro W hW
        obtain ⟨hW0, hW1, hW2⟩ := hW
        go_simp
        try with_reducible rfl
      try simp only [Act.put, List.setIfInBounds_toArray, List.set_cons_zero, List.set_cons_succ]
      refine wpAnyU_take 3 (v := ?vsa3) rfl (by kernel_rfl) (by kernel_rfl) (fun _ _ _ h => h) hS (Or.inl ⟨rfl, ?ysa3⟩) ?rsa3
      case ysa3 =>
        intro W hW
        obtain ⟨hW0, hW1, hW2⟩ := hW
        go_simp
        try with_reducible rfl
      try simp only [Act.put, List.setIfInBounds_toArray, List.set_cons_zero, List.set_cons_succ]
      refine wpAnyU_take 4 (v := ?vsa4) rfl (by kernel_rfl) (by kernel_rfl) (fun _ _ _ h => h) hS (Or.inl ⟨rfl, ?ysa4⟩) ?rsa4
      case ysa4 =>
        intro W hW
        obtain ⟨hW0, hW1, hW2⟩ := hW
        go_simp
        try with_reducible rfl
      try simp only [Act.put, List.setIfInBounds_toArray, List.set_cons_zero, List.set_cons_succ]
      refine wpAnyU_take 5 (v := ?vsa5) rfl (by kernel_rfl) (by kernel_rfl) (fun _ _ _ h => h) hS (Or.inl ⟨rfl, ?ysa5⟩) ?rsa5
      case ysa5 =>
        intro W hW
        obtain ⟨hW0, hW1, hW2⟩ := hW
        go_simp
        try with_reducible rfl
      try simp only [Act.put, List.setIfInBounds_toArray, List.set_cons_zero, List.set_cons_succ]
      refine wpAnyU_one 6 (by kernel_rfl) rfl (fun K hK => ?_)
      go_simp
      have hm5 := hm4.alloc (.cells [.int .i64 X, .int .i64 Y].toArray 27)
      refine hK _ _ (fun _ => ⟨hm5.cell m1 1 rfl, hm5.cell (.tail _ (.tail _ (.tail _ hxR))) 0 rfl, hm5.cell (.tail _ (.tail _ (.tail _ hxR))) 1 rfl⟩) ?_
      clear hK K
      try simp only [Act.put, List.setIfInBounds_toArray, List.set_cons_zero, List.set_cons_succ]
      refine wpAnyU_one 7 (by kernel_rfl) rfl (fun K hK => ?_)
      refine step_app rfl _ _ _ rfl 27 iV _ 2 16 ty_Vs hi hz0 hz1 hz2 rfl t.A t.n t.c _ rfl hm5.pull2 _ 1 1 [.int .i64 X, .int .i64 Y] rfl (RdC.lit _ _ _ _ _ rfl (by simp [maxLen]) (cV_one (X, Y))) (by unfold maxLen; omega) (by omega) ?_
      intro A1 c3 w6 HM1
      have HM2 := HM1.back2.tail
      refine hK _ _ (fun _ => ⟨HM2.cell m0 1 rfl, HM2.cell (.tail _ (.tail _ hxR)) 0 rfl, HM2.cell (.tail _ (.tail _ hxR)) 1 rfl⟩) ?_
      clear hK K
      have c1 := HM2.cell m0 1 rfl
      have f1 := HM2.free m0 1
      try simp only [Act.put, List.setIfInBounds_toArray, List.set_cons_zero, List.set_cons_succ]
      refine wpAnyU_one 8 (by kernel_rfl) rfl (fun K hK => ?_)
      go_simp
      refine hK _ _ (fun h => absurd h (by decide)) ?_
      clear hK K
      refine wpAnyU_one 9 (by kernel_rfl) rfl (fun K hK => ?_)
      go_simp
      refine hK _ _ (fun h => absurd h (by decide)) ?_
      clear hK K
      refine wpAnyU_one 10 (by kernel_rfl) rfl (fun K hK => ?_)
      go_simp
      refine hK _ _ (fun h => absurd h (by decide)) ?_
      clear hK K
      refine wpAnyU_done (by kernel_rfl) ?_ _
      have HM3 := HM2.set 1 (.slice A1 (t.n + 1) c3)
      simp only [List.set_cons_succ, List.set_cons_zero] at HM3
      go_wp2
      go_ret2
      refine ⟨by unfold sendR; rw [hs'.out, if_neg (by simp), if_pos hlt.out]; rfl, A1, t.n + 1, c3, ?_⟩
      have e : sendO t.ob (X, Y) = t.ob.items ++ [(X, Y)] := by unfold sendO; rw [hs'.out, if_neg (by simp), if_pos hlt.out]
      rw [e]
      refine key.out _ A1 (t.n + 1) c3 _ ?_
      rw [fV_app]
      exact HM3
end Go.Proofs.Ytpibchjkmaghnaa
