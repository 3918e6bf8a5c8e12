/- Lemmas for the row HeapChansRow (contracts of functions, laws of memory). Conditions: those that each lemma states. -/
import Derived.OwnWalk
import Derived.Test.YtpibchjkmaghnaaGreatHGe
namespace Go.Proofs.YtpibchjkmaghnaaGreat
open Go.RowKit Go.Mm
set_option maxHeartbeats 4000000
set_option maxRecDepth 100000
set_option linter.unusedSimpArgs false
theorem getD_mem {α : Type} (xs : List α) (k : Nat) (d : α) (hk : k < xs.length) : xs.getD k d ∈ xs := by
  rw [List.getD_eq_getElem?_getD, List.getElem?_eq_getElem hk]
  exact List.getElem_mem _
theorem copyObjects_ok (w0 w : World) (L : List Chunk) (hm : Mem w0 w L) (A : Option Addr) (n c : Nat) (xs : List RO) (hx : Fact (ObsR w A n c xs)) (hn : n ≤ 2097152) (hsz : ∀ x, x ∈ xs → x.ob.items.length ≤ 1048576 ∧ x.ob.keys.length ≤ 1048576) :
    Calls Tryz.prog 15 #[.slice A n c] w fun e w' => ∃ (A' : Option Addr) (c' : Nat) (ys : List RO), e = .returned (.slice A' n c') ∧ ys.map (·.ob) = xs.map (·.ob) ∧ Mem w0 w' (Own 6 (.slice A' n c') (ys.flatMap cRO) :: (ys.map RoC ++ L)) := by
  obtain ⟨iO, hiO, hz0, hz1, hz2⟩ := info_parts inf_O
  have hl := Fact.mk hx.out.len
  replace hsz := Fact.mk hsz
  go_enter Tryz.func15, Tryz.ntmps15
  go_wp2
  go_loopw [3, 4] (fun s3 s4 W => ∃ (k : Nat) (B : Option Addr) (d : Nat) (ys : List RO), s4 = .int .i64 k ∧ k ≤ n ∧ s3 = .slice B k d ∧ Fact (ys.map (·.ob) = (xs.take k).map (·.ob)) ∧ Mem w W (Own 6 (.slice B k d) (ys.flatMap cRO) :: (ys.map RoC ++ []))) (fun _ s4 _ => n - (intOf s4).toNat)
  case atStart => exact ⟨0, none, 0, [], rfl, by omega, rfl, ⟨rfl⟩, (Mem.start w).nil 6 none⟩
  case round =>
    obtain ⟨k, B, d, ys, rfl, hk, rfl, hys, hmr⟩ := hrel
    by_cases hlt : k < n
    · obtain ⟨bb, o, rfl, hc, hkl, hrd⟩ := (hx.out.gr hmr.below).at k hlt
      have hszx := hsz.out _ (getD_mem xs k ro0 hkl)
      have htk : xs.take (k + 1) = xs.take k ++ [xs.getD k ro0] := by rw [List.take_succ_eq_append_getElem hkl]; simp [hkl]
      generalize xs.getD k ro0 = x at hc hrd hszx htk
      have hcp := copyObject_ok w wr _ hmr x ⟨hrd⟩ hszx.1 hszx.2
      replace hcp := Fact.mk hcp
      replace hc := Fact.mk hc
      replace htk := Fact.mk htk
      go_wp2_with (refine wp_rng rfl 41 _ rfl bb (o + k * 6) rfl (cRO x) hc.out row_O sz_O ?_)
      refine hcp.out.mono ?_
      rintro e w2 ⟨y, rfl, hyo, hm3⟩
      clear hmr hcp
      replace hyo := Fact.mk hyo
      go_wp2_with (first | (refine wp_setrow rfl 41 _ _ rfl w2.heap.size rfl 41 _ (cRO y) rfl (hm3.alloc (.cells (obC 0 none 0 0 none 0 0 0 0 false).toArray 41)) sz_O rfl (cRO_one y) ?_; intro w4 hm4) | (refine wp_rng rfl 41 _ rfl w2.heap.size 0 rfl [.int .i64 y.ob.kind, .slice y.A y.ob.items.length y.c, .slice y.KA y.ob.keys.length y.kc, .int .i64 y.ob.fn, .int .i64 y.ob.cap, .bool y.ob.shut] (rng_blk hm4 m0) row_O sz_O ?_) | (at_builtin; refine wp_app rfl _ _ _ rfl 41 iO _ 6 80 ty_Os hiO hz0 hz1 hz2 rfl B k d _ rfl (hm4.alloc _).pull3 _ 1 1 [.int .i64 y.ob.kind, .slice y.A y.ob.items.length y.c, .slice y.KA y.ob.keys.length y.kc, .int .i64 y.ob.fn, .int .i64 y.ob.cap, .bool y.ob.shut] rfl (RdC.lit _ _ _ _ _ rfl (by simp [maxLen]) (cRO_one y)) (by unfold maxLen; omega) (by omega) ?_; intro A5 c5 w5 hm5))
      have hz : Mem w w5 (Own 6 (.slice A5 (k + 1) c5) ((ys ++ [y]).flatMap cRO) :: ((ys ++ [y]).map RoC ++ [])) := by
        have h1 := hm5.sub (List.Sublist.cons_cons _ ((List.sublist_cons_self _ _).trans (List.sublist_cons_self _ _)))
        have e1 : (ys ++ [y]).flatMap cRO = ys.flatMap cRO ++ cRO y := by simp
        have e2 : (ys ++ [y]).map RoC ++ [] = ys.map RoC ++ RoC y :: [] := by simp
        rw [e1, e2]
        exact h1.perm (List.perm_middle.symm.cons _)
      go_roundw
      case rel => exact ⟨k + 1, A5, c5, ys ++ [y], by go_num, by omega, rfl, ⟨by rw [htk.out, List.map_append, List.map_append, hys.out]; simp [hyo.out]⟩, hz⟩
      case measure => exact measP_lt hlt
    · obtain rfl : k = n := by omega
      rw [List.take_of_length_le (by rw [hl.out]; exact Nat.le_refl _)] at hys
      go_wp2
      go_ret
      refine ⟨B, d, rfl, ys, hys.out, ?_⟩
      have := hm.join hmr
      simpa using this
/-- Whether objects make a heap, as the document says it. -/
def loadB (l : List Ob) : Bool := l.all (refB l)
theorem refB_eq (l : List Ob) (o : Ob) : refB l o = (madeB o && (limB o && o.items.all (rightV l))) := by
  unfold refB tabB madeB limB rightKeysB
  by_cases h6 : o.kind = 6
  · simp only [h6, if_true]
    rw [show decide ((o.items.length : Int) ≤ 4096) = decide (o.items.length ≤ 4096) from decide_eq_decide.2 (by omega)]
    have e : (((o.keys.length : Int) == 0) : Bool) = (o.keys.length == 0) := by rw [Bool.eq_iff_iff]; simp
    rw [e]
    cases o.items.all (rightV l) <;> cases decide (o.items.length ≤ 4096) <;> cases (o.keys.length == 0) <;> cases (o.cap == 0 && !o.shut) <;> cases (o.fn == 0) <;> rfl
  by_cases h8 : o.kind = 8
  · simp only [h8, if_true]
    rw [show decide ((o.items.length : Int) ≤ 4096) = decide (o.items.length ≤ 4096) from decide_eq_decide.2 (by omega)]
    have e : (((o.keys.length : Int) == 0) : Bool) = (o.keys.length == 0) := by rw [Bool.eq_iff_iff]; simp
    rw [e, if_neg (by decide), if_neg (by decide), if_neg (by decide), if_neg (by decide)]
    cases o.items.all (rightV l) <;> cases decide (o.items.length ≤ 4096) <;> cases (o.keys.length == 0) <;> cases (o.cap == 0 && !o.shut) <;> cases decide (0 ≤ o.fn) <;> rfl
  by_cases h9 : o.kind = 9
  · simp only [h9]
    have e : (((o.keys.length : Int) == 0) : Bool) = (o.keys.length == 0) := by rw [Bool.eq_iff_iff]; simp
    rw [e]
    simp only [show ¬ (9 : Int) = 6 by decide, show ¬ (9 : Int) = 7 by decide, show ¬ (9 : Int) = 8 by decide, if_false, if_true]
    cases o.items.all (rightV l) <;> cases decide ((o.items.length : Int) ≤ o.cap) <;> cases (o.keys.length == 0) <;> cases decide (1 ≤ o.cap) <;> cases decide (o.cap ≤ 64) <;> cases (o.fn == 0) <;> rfl
  by_cases h7 : o.kind = 7
  · simp only [h7]
    have e : (((o.keys.length : Int) == o.items.length) : Bool) = (o.keys.length == o.items.length) := by rw [Bool.eq_iff_iff]; simp; omega
    rw [e]
    simp only [show ¬ (7 : Int) = 6 by decide, show ¬ (7 : Int) = 9 by decide, show ¬ (7 : Int) = 8 by decide, if_false, if_true]
    cases o.items.all (rightV l) <;> cases decide (o.keys.length ≤ 256) <;> cases (o.keys.length == o.items.length) <;> cases o.keys.all (fun k => decide (0 ≤ k)) <;> cases decide o.keys.Nodup <;> cases (o.cap == 0 && !o.shut) <;> cases (o.fn == 0) <;> rfl
  · simp [h6, h7, h8, h9]
theorem madeB_kind {o : Ob} (h : madeB o = true) : o.kind = 6 ∨ o.kind = 7 ∨ o.kind = 8 ∨ o.kind = 9 := by
  unfold madeB at h
  by_cases h6 : o.kind = 6
  · exact .inl h6
  by_cases h8 : o.kind = 8
  · exact .inr (.inr (.inl h8))
  by_cases h9 : o.kind = 9
  · exact .inr (.inr (.inr h9))
  by_cases h7 : o.kind = 7
  · exact .inr (.inl h7)
  rw [if_neg h6, if_neg h8, if_neg h9, if_neg h7] at h
  cases h
theorem load_eq (l : List Ob) : loadP l = loadB l := by
  unfold loadP loadB
  cases hm : l.all madeB with
  | false =>
    rw [Bool.false_and]
    symm
    rw [List.all_eq_false] at hm ⊢
    obtain ⟨o, ho, hn⟩ := hm
    refine ⟨o, ho, ?_⟩
    rw [refB_eq]
    simp only [Bool.not_eq_true] at hn
    rw [hn, Bool.false_and]
    decide
  | true =>
    rw [Bool.true_and]
    have hk : ∀ o, o ∈ l → o.kind = 6 ∨ o.kind = 7 ∨ o.kind = 8 ∨ o.kind = 9 := fun o ho => madeB_kind (List.all_eq_true.1 hm o ho)
    have hp : rightP l = rightV l := funext fun v => rightP_eq hk v
    rw [hp, Bool.eq_iff_iff, List.all_eq_true, List.all_eq_true]
    constructor
    · intro h o ho
      rw [refB_eq, List.all_eq_true.1 hm o ho, Bool.true_and]
      exact h o ho
    · intro h o ho
      have := h o ho
      rw [refB_eq, Bool.and_eq_true] at this
      exact this.2
def RLoadQ (w0 : World) (L : List Chunk) (b s : Int) (l : List Ob) (e : Ending) (w : World) : Prop :=
  (loadB l = true ∧ ∃ r : Rf, r.abs = ⟨b, s, l⟩ ∧ r.Ok ∧ e = .returned (.tuple #[.pointer (some ⟨r.g, 0, none⟩), .bool true]) ∧ Mem w0 w (RfC r :: L)) ∨ (loadB l = false ∧ e = .returned (.tuple #[.pointer none, .bool false]) ∧ Mem w0 w L)
theorem refLoad_ok (w0 w : World) (L : List Chunk) (hm : Mem w0 w L) (b s : Int) (hb : b ≤ 9223372036854775807) (hs : s ≤ 9223372036854775807) (A : Option Addr) (n c : Nat) (xs : List RO) (hx : Fact (ObsR w A n c xs)) (hn : n ≤ 2097152)
    (hsz : ∀ x, x ∈ xs → x.ob.items.length ≤ 1048576 ∧ x.ob.keys.length ≤ 1048576) (hwf : ∀ x, x ∈ xs → ∀ v, v ∈ x.ob.items → -9223372036854775808 ≤ v.2 ∧ v.2 ≤ 9223372036854775807) :
    Calls Tryz.prog 19 #[.int .i64 b, .int .i64 s, .slice A n c] w fun e w' => RLoadQ w0 L (max b 0) (max s 0) (xs.map (·.ob)) e w' := by
  have hl := Fact.mk hx.out.len
  replace hsz := Fact.mk hsz
  replace hwf := Fact.mk hwf
  obtain ⟨obs, hobs⟩ : ∃ obs, xs.map (·.ob) = obs := ⟨_, rfl⟩
  have hol : Fact (obs.length = n) := ⟨by rw [← hobs, List.length_map]; exact hl.out⟩
  have hoa : Fact (∀ k, k < n → obs.getD k ob0 = (xs.getD k ro0).ob) := ⟨fun k hk => by rw [← hobs]; simp [show k < xs.length by rw [hl.out]; exact hk]⟩
  have hright := fun (W : World) (hg : Gr w W) (k : Nat) (hk : k < n) => refRightO_ok W A n c xs ⟨hx.out.gr hg⟩ hn (xs.getD k ro0) ⟨hx.out.gr hg |>.at k hk |>.choose_spec.choose_spec.2.2.2⟩ (hsz.out _ (getD_mem xs k ro0 (by rw [hl.out]; exact hk))).1 (hsz.out _ (getD_mem xs k ro0 (by rw [hl.out]; exact hk))).2 (hwf.out _ (getD_mem xs k ro0 (by rw [hl.out]; exact hk)))
  rw [hobs] at hright ⊢
  replace hobs := Fact.mk hobs
  replace hright := Fact.mk hright
  go_enter Tryz.func19, Tryz.ntmps19
  go_wp2
  go_loopw [8] (fun s8 W => ∃ k : Nat, s8 = .int .i64 k ∧ k ≤ n ∧ Fact ((obs.take k).all (refB obs) = true) ∧ Gr w W) (fun s8 _ => n - (intOf s8).toNat)
  case atStart => exact ⟨0, rfl, by omega, ⟨rfl⟩, Gr.refl w⟩
  case round =>
    obtain ⟨k, rfl, hk, hall, hgr⟩ := hrel
    by_cases hlt : k < n
    · have hr := hright.out wr hgr k hlt
      obtain ⟨bb, o, rfl, hc, hkl, hrd⟩ := (hx.out.gr hgr).at k hlt
      have hsn := take_all (refB obs) obs k ob0 (by rw [hol.out]; exact hlt)
      have hno := take_all_no (p := refB obs) (xs := obs) (k := k) (d := ob0) (by rw [hol.out]; exact hlt)
      rw [hoa.out k hlt] at hsn hno
      generalize xs.getD k ro0 = x at hr hc hrd hsn hno
      replace hc := Fact.mk hc
      cases hv : refB obs x.ob with
      | false =>
        have hfin : Fact (loadB obs = false) := ⟨hno hv⟩
        rw [hv] at hr
        replace hr := Fact.mk hr
        clear hno hsn hv
        go_wp2_with (refine wp_rng rfl 41 _ rfl bb (o + k * 6) rfl (cRO x) hc.out row_O sz_O ?_)
        refine hr.out.mono ?_
        rintro e w2 ⟨rfl, hg2⟩
        go_wp2
        go_ret2
        exact .inr ⟨hfin.out, rfl, hm.gr (Gr.trans hgr hg2)⟩
      | true =>
        rw [hv, hall.out] at hsn
        rw [hv] at hr
        replace hr := Fact.mk hr
        replace hsn := Fact.mk hsn
        clear hno hv
        go_wp2_with (refine wp_rng rfl 41 _ rfl bb (o + k * 6) rfl (cRO x) hc.out row_O sz_O ?_)
        refine hr.out.mono ?_
        rintro e w2 ⟨rfl, hg2⟩
        go_wp2
        go_roundw
        case rel => exact ⟨k + 1, by go_num, by omega, ⟨hsn.out⟩, Gr.trans hgr hg2⟩
        case measure => exact measP_lt hlt
    · obtain rfl : k = n := by omega
      rw [List.take_of_length_le (by rw [hol.out]; exact Nat.le_refl _)] at hall
      have hfin : Fact (loadB obs = true) := ⟨hall.out⟩
      go_wp2_with fail
      refine (refNew_ok wr wr [] (Mem.start wr) b s).mono ?_
      rintro e w3 ⟨g, rfl, hm3⟩
      have hcp := copyObjects_ok wr w3 _ hm3 A k c xs ⟨hx.out.gr (Gr.trans hgr hm3.below)⟩ hn hsz.out
      replace hcp := Fact.mk hcp
      go_wp2_with fail
      refine hcp.out.mono ?_
      rintro e w4 ⟨A4, c4, ys, rfl, hys, hm4⟩
      clear hcp hm3
      rw [hobs.out] at hys
      have hyl : ys.length = k := by rw [← hol.out, ← hys, List.length_map]
      replace hys := Fact.mk hys
      replace hyl := Fact.mk hyl
      have hm5 : Mem wr w4 (Blk g (.cells [.int .i64 (max b 0), .int .i64 (max s 0), .slice none 0 0].toArray 51) :: Own 6 (.slice none 0 0) [] :: Own 6 (.slice A4 k c4) (ys.flatMap cRO) :: (ys.map RoC ++ [])) := by
        have h1 : Mem wr w4 (RfC ⟨g, max b 0, max s 0, none, 0, []⟩ :: (Own 6 (.slice A4 k c4) (ys.flatMap cRO) :: ys.map RoC ++ [])) := Mem.mid (A := Own 6 (.slice A4 k c4) (ys.flatMap cRO) :: ys.map RoC) hm4
        exact Mem.opn h1
      clear hm4
      go_wp2_with (refine wp_setat rfl 22 _ _ rfl g 2 rfl 51 _ [.slice A4 k c4] [.int .i64 (max b 0), .int .i64 (max s 0), .slice A4 k c4] (.slice A4 k c4) rfl rfl hm5 sz_Os (by simp) (one_one rfl) rfl ?_; intro w6 hm6)
      go_ret2
      have hz : Mem wr w6 (RfC ⟨g, max b 0, max s 0, A4, c4, ys⟩ :: []) := by
        have h1 := hm6.drop2
        refine Mem.sht (Rf.chunks ⟨g, max b 0, max s 0, A4, c4, ys⟩) ?_
        unfold Rf.chunks Rf.cells
        simp only [hyl.out]
        exact h1
      refine .inl ⟨hfin.out, ⟨g, max b 0, max s 0, A4, c4, ys⟩, by unfold Rf.abs; rw [hys.out], ⟨fun x hxm => ?_, by simp only [hyl.out]; omega, by show (0 : Int) ≤ max b 0; omega, by show max b 0 ≤ _; omega, by show (0 : Int) ≤ max s 0; omega, by show max s 0 ≤ _; omega⟩, rfl, (hm.gr hgr).join hz⟩
      have h1 : x.ob ∈ obs := by rw [← hys.out]; exact List.mem_map_of_mem hxm
      rw [← hobs.out] at h1
      obtain ⟨z, hz1, hz2⟩ := List.mem_map.1 h1
      rw [← hz2]
      exact hsz.out z hz1
end Go.Proofs.YtpibchjkmaghnaaGreat
namespace Go.Proofs.YtpibchjkmaghnaaGreat
open Go.RowKit Go.Mm
set_option maxHeartbeats 8000000
set_option maxRecDepth 100000
set_option linter.unusedSimpArgs false
theorem sz_ST : (Tryz.prog.info? 24).map (·.size) = some 3 := by kernel_rfl
theorem row_ST : (Tryz.prog.underlying 24).map (·.isRow) = some true := by kernel_rfl
theorem inf_Vs : (Tryz.prog.info? 36).map (fun i => (i.zero, i.size, i.bytes)) = some (some (.slice none 0 0), 1, 24) := by kernel_rfl
theorem ty_VVs : Tryz.prog.underlying 57 = some (.slice 36) := by kernel_rfl
def stC (b s : Int) (A : Option Addr) (n c : Nat) : List Value := [.int .i64 b, .int .i64 s, .slice A n c]
/-- A list lent: marks behind it. -/
def roomV (y : RO) : Value := .slice y.A (y.ob.items.length + 64) y.c
def LentC (y : RO) : Chunk := Chunk.all [Own 2 (roomV y) (fV (y.ob.items ++ marksV 64)), Own 1 (.slice y.KA y.ob.keys.length y.kc) (nums .i64 y.ob.keys)]
theorem LentC.room {y : RO} {w : World} (h : (LentC y).ok w) : RdC w 2 (.slice y.A (y.ob.items.length + 64) y.c) (fV (y.ob.items ++ marksV 64)) := (h.1 _ (.head _) : OwnAt _ _ _ w).rd
theorem LentC.reads {y : RO} {w : World} (h : (LentC y).ok w) : y.reads w := ⟨rd_pre cV_len (LentC.room h) rfl, (h.1 _ (.tail _ (.head _)) : OwnAt _ _ _ w).rd⟩
theorem roomV_one (y : RO) : One [roomV y] := one_one rfl
theorem mem_in2 {w0 w : World} {h a b d : Chunk} {M X : List Chunk} (hm : Mem w0 w (h :: a :: b :: (M ++ d :: X))) : Mem w0 w (a :: b :: (M ++ d :: (h :: X))) := by
  have hp : (h :: (M ++ d :: X)).Perm (M ++ d :: (h :: X)) := by
    have := (List.perm_middle (a := h) (l₁ := M ++ [d]) (l₂ := X)).symm
    simpa using this
  exact hm.back2.swap.swap.pull2.back2.perm ((hp.cons _).cons _)
/-- What the document's and the program's Load say, of one outcome. -/
def TwoQ (w : World) (L : List Chunk) (b s : Int) (l : List Ob) (e : Ending) (w' : World) : Prop :=
  (loadB l = true ∧ ∃ (h : Hp) (r : Rf), h.abs = ⟨b, s, l⟩ ∧ r.abs = h.abs ∧ h.Ok ∧ r.Ok ∧ e = .returned (.tuple #[.pointer (some ⟨h.g, 0, none⟩), .pointer (some ⟨r.g, 0, none⟩), .bool true]) ∧ Mem w w' (HpC h :: RfC r :: L)) ∨
  (loadB l = false ∧ e = .returned (.tuple #[.pointer none, .pointer none, .bool true]) ∧ Mem w w' L)
theorem splice2_len {C : List Value} {q n : Nat} (a b : Value) (hC : C.length = n * 2) (hq : q < n) : (C.take (q * 2) ++ [a, b] ++ C.drop (q * 2 + 2)).length = n * 2 := by
  simp only [List.length_append, List.length_take, List.length_drop, List.length_cons, List.length_nil, hC]; omega
theorem splice2_le {C : List Value} {q n : Nat} {a b : Value} (hC : C.length = n * 2) (hq : q < n) : q * 2 + [a, b].length ≤ C.length := by
  rw [hC]; simp only [List.length_cons, List.length_nil]; omega
theorem splice1_len {C : List Value} {q n : Nat} (a : Value) (hC : C.length = n) (hq : q < n) : (C.take q ++ [a] ++ C.drop (q + 1)).length = n := by
  simp only [List.length_append, List.length_take, List.length_drop, List.length_cons, List.length_nil, hC]; omega
theorem splice1_le {C : List Value} {q n : Nat} {a : Value} (hC : C.length = n) (hq : q < n) : q + [a].length ≤ C.length := by
  rw [hC]; simp only [List.length_cons, List.length_nil]; omega
theorem both_ok (w0 w : World) (L : List Chunk) (hm : Mem w0 w L) (b s : Int) (hb : b ≤ 9223372036854775807) (hs : s ≤ 9223372036854775807) (A : Option Addr) (n c : Nat) (xs : List RO) (hx : Fact (ObsR w A n c xs)) (hn : n ≤ 1048576)
    (hsz : Fact (∀ x, x ∈ xs → x.ob.items.length ≤ 1048576 ∧ x.ob.keys.length ≤ 1048576)) (hwf : Fact (∀ x, x ∈ xs → (∀ k, k ∈ x.ob.keys → (Lit.int .i64 k).wf = true) ∧ ∀ v, v ∈ x.ob.items → -9223372036854775808 ≤ v.2 ∧ v.2 ≤ 9223372036854775807)) :
    Calls Tryz.prog 8 #[.agg (stC b s A n c).toArray] w fun e w' => TwoQ w0 L (max b 0) (max s 0) (xs.map (·.ob)) e w' := by
  obtain ⟨iO, hiO, oz0, oz1, oz2⟩ := info_parts inf_O
  obtain ⟨iS, hiS, sz0, sz1, sz2⟩ := info_parts inf_Vs
  have hl := Fact.mk hx.out.len
  have hrl := fun (W : World) (M : List Chunk) (hg : Mem w W M) => refLoad_ok w W M hg b s hb hs A n c xs ⟨hx.out.gr hg.below⟩ (by omega) hsz.out (fun x hxm => (hwf.out x hxm).2)
  have hpl := fun (W : World) (M : List Chunk) (hg : Mem w W M) (Ai : Option Addr) (ci : Nat) (ys : List RO) (hys : ys.map (·.ob) = xs.map (·.ob)) (hyr : ObsR W Ai n ci ys) => load_ok w W M hg b s hb hs Ai n ci ys ⟨hyr⟩ (by omega)
    (fun y hy => by
      have : y.ob ∈ xs.map (·.ob) := by rw [← hys]; exact List.mem_map_of_mem hy
      obtain ⟨x, hx1, hx2⟩ := List.mem_map.1 this
      rw [← hx2]; exact hsz.out x hx1)
    (fun y hy => by
      have : y.ob ∈ xs.map (·.ob) := by rw [← hys]; exact List.mem_map_of_mem hy
      obtain ⟨x, hx1, hx2⟩ := List.mem_map.1 this
      rw [← hx2]; exact (hwf.out x hx1).1)
  have hfin : Fact (∀ e w', TwoQ w [] (max b 0) (max s 0) (xs.map (·.ob)) e w' → TwoQ w0 L (max b 0) (max s 0) (xs.map (·.ob)) e w') := ⟨fun e w' h => by
    rcases h with ⟨h1, h, r, h2, h3, h4, h5, h6, h7⟩ | ⟨h1, h2, h3⟩
    · exact .inl ⟨h1, h, r, h2, h3, h4, h5, h6, hm.join h7⟩
    · exact .inr ⟨h1, h2, hm.gr h3.below⟩⟩
  refine Calls.mono (R := fun e w' => TwoQ w [] (max b 0) (max s 0) (xs.map (·.ob)) e w') ?_ hfin.out
  clear hfin hm
  replace hrl := Fact.mk hrl
  replace hpl := Fact.mk hpl
  have hx1 := (Mem.start w).alloc (.cells (stC b s A n c).toArray 24)
  unfold stC at hx1 ⊢
  go_enter Tryz.func8, Tryz.ntmps8
  go_upto_region 1 with (fail)
  generalize hgb : w.heap.size = gb at hx1 ⊢
  generalize hw1 : w.alloc (.cells [.int .i64 b, .int .i64 s, .slice A n c].toArray 24) = w1 at hx1
  try refine wp_world hw1 ?_
  clear hw1 hgb
  have s0 := hx1.cell m0 0 rfl
  have s1 := hx1.cell m0 1 rfl
  have s2 := hx1.cell m0 2 rfl
  go_wp2_with fail
  refine (hrl.out w1 _ hx1).mono ?_
  intro e w2 hq
  obtain ⟨may, rv, X, rfl, hmay, hm2⟩ : ∃ (may : Bool) (rv : Value) (X : List Chunk), e = .returned (.tuple #[rv, .bool may]) ∧ Fact (may = loadB (xs.map (·.ob)) ∧ ((may = true ∧ ∃ r : Rf, r.abs = ⟨max b 0, max s 0, xs.map (·.ob)⟩ ∧ r.Ok ∧ rv = .pointer (some ⟨r.g, 0, none⟩) ∧ X = [RfC r]) ∨ (may = false ∧ rv = .pointer none ∧ X = []))) ∧ Mem w w2 (Blk gb (.cells [.int .i64 b, .int .i64 s, .slice A n c].toArray 24) :: X) := by
    rcases hq with ⟨h1, r, h2, h3, rfl, h4⟩ | ⟨h1, rfl, h4⟩
    · exact ⟨true, _, [RfC r], rfl, ⟨h1.symm, .inl ⟨rfl, r, h2, h3, rfl, rfl⟩⟩, h4.swap⟩
    · exact ⟨false, _, [], rfl, ⟨h1.symm, .inr ⟨rfl, rfl, rfl⟩⟩, h4⟩
  clear hq hrl hx1 s0 s1 s2
  go_wp2
  go_loopw [7, 8, 9] (fun s7 s8 s9 W => ∃ (k : Nat) (Ai : Option Addr) (ci : Nat) (Ar : Option Addr) (cr : Nat) (ys : List RO), s9 = .int .i64 k ∧ k ≤ n ∧ s7 = .slice Ai k ci ∧ s8 = .slice Ar k cr ∧ Fact (ys.map (·.ob) = (xs.take k).map (·.ob)) ∧ Mem w W (Own 6 (.slice Ai k ci) (ys.flatMap cRO) :: Own 1 (.slice Ar k cr) (ys.map roomV) :: (ys.map LentC ++ (Blk gb (.cells [.int .i64 b, .int .i64 s, .slice A n c].toArray 24) :: X)))) (fun _ _ s9 _ => n - (intOf s9).toNat)
  case atStart => exact ⟨0, none, 0, none, 0, [], rfl, by omega, rfl, rfl, ⟨rfl⟩, Mem.nil (Mem.nil hm2 1 none) 6 none⟩
  case round =>
    obtain ⟨k, Ai, ci, Ar, cr, ys, rfl, hk, rfl, rfl, hys, hmr⟩ := hrel
    clear hm2
    have s2 := hmr.cell (.tail _ (.tail _ (List.mem_append_right _ (.head _)))) 2 rfl
    by_cases hlt : k < n
    · obtain ⟨bb, o, hA, hc, hkl, hrd⟩ := (hx.out.gr hmr.below).at k hlt
      have hszx := hsz.out _ (getD_mem xs k ro0 hkl)
      have htk : xs.take (k + 1) = xs.take k ++ [xs.getD k ro0] := by rw [List.take_succ_eq_append_getElem hkl]; simp [hkl]
      have hcells : Fact (∀ W, Gr w W → W.cell? ⟨bb, o + k * 6 + 2, none⟩ = some (.slice (xs.getD k ro0).KA (xs.getD k ro0).ob.keys.length (xs.getD k ro0).kc) ∧ (xs.getD k ro0).reads W) := ⟨fun W hW => by
        obtain ⟨bb', o', hA', hc', _, hrd'⟩ := (hx.out.gr hW).at k hlt
        rw [hA] at hA'
        cases hA'
        exact ⟨hc' 2 _ rfl, hrd'⟩⟩
      generalize xs.getD k ro0 = x at hc hrd hszx htk hcells
      rw [hA] at s2
      replace hc := Fact.mk hc
      replace htk := Fact.mk htk
      replace hA := Fact.mk hA
      go_upto_region 8 with (first | (refine wp_rng rfl 41 _ rfl bb (o + k * 6) rfl (cRO x) hc.out row_O sz_O ?_) | (refine wp_setrow rfl 41 _ _ rfl wr.heap.size rfl 41 _ (cRO x) rfl (hmr.alloc (.cells (obC 0 none 0 0 none 0 0 0 0 false).toArray 41)) sz_O rfl (cRO_one x) ?_; intro w5 hm5))
      generalize wr.heap.size = g10 at hm5 ⊢
      clear hmr s2
      have z1 := hm5.cell m0 1 rfl
      go_wp2_with fail
      refine (lentValues_ok w5 x.A x.ob.items.length x.c x.ob.items ⟨(hcells.out w5 hm5.below).2.1⟩ (by omega)).mono ?_
      rintro e w6 ⟨B, d, rfl, hn6⟩
      have hm6 := hm5.new hn6
      clear hm5 hn6 z1 hrd
      have hcap := OwnAt.cap (hm6.ok _ m0)
      have hcap1 : x.ob.items.length ≤ d := by omega
      obtain ⟨bg, bo, hB⟩ := OwnAt.addr (hm6.ok _ m0) (by omega)
      subst hB
      have z1 := hm6.cell m1 1 rfl
      go_upto_region 11 with (first | (at_builtin; refine wp_app rfl _ _ _ rfl 36 iS _ 1 24 ty_VVs hiS sz0 sz1 sz2 rfl Ar k cr _ rfl (hm6.alloc _).pull4 _ 1 1 [.slice (some ⟨bg, bo, none⟩) (x.ob.items.length + 64) d] rfl (RdC.lit _ _ _ _ _ rfl (by simp [maxLen]) (one_one rfl)) (by unfold maxLen; omega) (by omega) ?_; intro A7 c7 w7 HM7; have hm7 := HM7.drop2.pull2; have z7 := hm7.cell m0 1 rfl) | (refine wp_setat rfl 36 _ _ rfl g10 1 rfl 41 _ [.slice (some ⟨bg, bo, none⟩) x.ob.items.length d] (obC x.ob.kind (some ⟨bg, bo, none⟩) x.ob.items.length d x.KA x.ob.keys.length x.kc x.ob.fn x.ob.cap x.ob.shut) (.slice (some ⟨bg, bo, none⟩) x.ob.items.length d) rfl rfl hm7 sz_Vs (by simp [cRO, obC]) (one_one rfl) rfl ?_; intro w8 hm8))
      clear HM7 hm6 hm7 z1 z7
      have s2 := hm8.cell (.tail _ (.tail _ (.tail _ (.tail _ (List.mem_append_right _ (.head _)))))) 2 rfl
      rw [hA.out] at s2
      have f2 := (hcells.out w8 hm8.below).1
      go_wp2_with fail
      refine (copyLongs_ok w8 x.KA x.ob.keys.length x.kc x.ob.keys ⟨(hcells.out w8 hm8.below).2.2⟩ (by omega)).mono ?_
      rintro e w9 ⟨K9, c9, rfl, hn9⟩
      have hm9 := hm8.new hn9
      clear hm8 hn9 s2 f2
      obtain ⟨y, hy⟩ : ∃ y : RO, y = ⟨some ⟨bg, bo, none⟩, d, K9, c9, x.ob⟩ := ⟨_, rfl⟩
      have hyc : obC x.ob.kind (some ⟨bg, bo, none⟩) x.ob.items.length d K9 x.ob.keys.length c9 x.ob.fn x.ob.cap x.ob.shut = cRO y := by rw [hy]; rfl
      go_upto_region 12 with (refine wp_setat rfl 39 _ _ rfl g10 2 rfl 41 _ [.slice K9 x.ob.keys.length c9] (obC x.ob.kind (some ⟨bg, bo, none⟩) x.ob.items.length d K9 x.ob.keys.length c9 x.ob.fn x.ob.cap x.ob.shut) (.slice K9 x.ob.keys.length c9) rfl rfl hm9.swap sz_Is (by simp [obC]) (one_one rfl) rfl ?_; intro w10 hm10)
      clear hm9
      go_wp2_with (first | (refine wp_rng rfl 41 _ rfl g10 0 rfl [.int .i64 x.ob.kind, .slice (some ⟨bg, bo, none⟩) x.ob.items.length d, .slice K9 x.ob.keys.length c9, .int .i64 x.ob.fn, .int .i64 x.ob.cap, .bool x.ob.shut] (rng_blk hm10 m0) row_O sz_O ?_) | (at_builtin; refine wp_app rfl _ _ _ rfl 41 iO _ 6 80 ty_Os hiO oz0 oz1 oz2 rfl Ai k ci _ rfl (hm10.alloc _).pull5 _ 1 1 [.int .i64 x.ob.kind, .slice (some ⟨bg, bo, none⟩) x.ob.items.length d, .slice K9 x.ob.keys.length c9, .int .i64 x.ob.fn, .int .i64 x.ob.cap, .bool x.ob.shut] rfl (RdC.lit _ _ _ _ _ rfl (by simp [maxLen]) (obC_one _ _ _ _ _ _ _ _ _ _)) (by unfold maxLen; omega) (by omega) ?_; intro A11 c11 w11 HM11))
      have hz : Mem w w11 (Own 6 (.slice A11 (k + 1) c11) ((ys ++ [y]).flatMap cRO) :: Own 1 (.slice A7 (k + 1) c7) ((ys ++ [y]).map roomV) :: ((ys ++ [y]).map LentC ++ (Blk gb (.cells [.int .i64 b, .int .i64 s, .slice A n c].toArray 24) :: X))) := by
        have h1 := HM11.drop2.drop2
        have e1 : (ys ++ [y]).flatMap cRO = ys.flatMap cRO ++ cRO y := by simp
        have e2 : (ys ++ [y]).map roomV = ys.map roomV ++ [.slice (some ⟨bg, bo, none⟩) (x.ob.items.length + 64) d] := by rw [List.map_append, hy]; rfl
        have e3 : (ys ++ [y]).map LentC ++ (Blk gb (.cells [.int .i64 b, .int .i64 s, .slice A n c].toArray 24) :: X) = ys.map LentC ++ LentC y :: (Blk gb (.cells [.int .i64 b, .int .i64 s, .slice A n c].toArray 24) :: X) := by simp
        rw [e1, e2, e3, ← hyc]
        have h4 : Mem w w11 (LentC y :: Own 6 (.slice A11 (k + 1) c11) (ys.flatMap cRO ++ obC x.ob.kind (some ⟨bg, bo, none⟩) x.ob.items.length d K9 x.ob.keys.length c9 x.ob.fn x.ob.cap x.ob.shut) :: Own 1 (.slice A7 (k + 1) c7) (ys.map roomV ++ [.slice (some ⟨bg, bo, none⟩) (x.ob.items.length + 64) d]) :: (ys.map LentC ++ (Blk gb (.cells [.int .i64 b, .int .i64 s, .slice A n c].toArray 24) :: X))) := by
          have h5 := h1.pull3.perm ((List.Perm.swap _ _ _).cons _)
          rw [hy]
          exact Mem.sht [Own 2 (roomV ⟨some ⟨bg, bo, none⟩, d, K9, c9, x.ob⟩) (fV (x.ob.items ++ marksV 64)), Own 1 (.slice K9 x.ob.keys.length c9) (nums .i64 x.ob.keys)] h5
        exact h4.back2.perm ((List.perm_middle.symm.cons _).cons _)
      go_roundw
      case rel => exact ⟨k + 1, A11, c11, A7, c7, ys ++ [y], by go_num, by omega, rfl, rfl, ⟨by rw [htk.out, List.map_append, List.map_append, hys.out, hy]; rfl⟩, hz⟩
      case measure => exact measP_lt hlt
    · obtain rfl : k = n := by omega
      rw [List.take_of_length_le (by rw [hl.out]; exact Nat.le_refl _)] at hys
      have hyl : ys.length = k := by rw [← hl.out]; have := congrArg List.length hys.out; simpa using this
      have hld := hpl.out wr _ hmr Ai ci ys hys.out ⟨hmr.rd m0, fun y hy => LentC.reads (hmr.ok _ (.tail _ (.tail _ (List.mem_append_left _ (List.mem_map_of_mem hy)))))⟩
      rw [hys.out] at hld
      replace hld := Fact.mk hld
      have s0 := hmr.cell (.tail _ (.tail _ (List.mem_append_right _ (.head _)))) 0 rfl
      have s1 := hmr.cell (.tail _ (.tail _ (List.mem_append_right _ (.head _)))) 1 rfl
      go_wp2_with fail
      refine hld.out.mono ?_
      intro e w12 hq
      clear hld hpl s0 s1 s2
      have hmay2 := hmay.out.1
      obtain ⟨hv, Y, rfl, hhv, hm13⟩ : ∃ (hv : Value) (Y : List Chunk), e = .returned (.tuple #[hv, .bool may]) ∧ Fact ((may = true ∧ ∃ h : Hp, h.abs = ⟨max b 0, max s 0, xs.map (·.ob)⟩ ∧ h.Ok ∧ hv = .pointer (some ⟨h.g, 0, none⟩) ∧ Y = [HpC h]) ∨ (may = false ∧ hv = .pointer none ∧ Y = [])) ∧ Mem w w12 (Own 6 (.slice Ai k ci) (ys.flatMap cRO) :: Own 1 (.slice Ar k cr) (ys.map roomV) :: (ys.map LentC ++ (Blk gb (.cells [.int .i64 b, .int .i64 s, .slice A k c].toArray 24) :: (Y ++ X)))) := by
        rcases hq with ⟨h1, h, h2, h3, rfl, h4⟩ | ⟨h1, rfl, h4⟩
        · rw [load_eq] at h1
          rw [hmay2, h1]
          refine ⟨_, [HpC h], rfl, ⟨.inl ⟨rfl, h, h2, h3, rfl, rfl⟩⟩, ?_⟩
          exact mem_in2 h4
        · rw [load_eq] at h1
          rw [hmay2, h1]
          exact ⟨_, [], rfl, ⟨.inr ⟨rfl, rfl, rfl⟩⟩, h4⟩
      clear hmr hq
      have hneq : ∀ W, (binOp .neq 26 hv (.pointer none)).run Tryz.prog W = .ok (.bool may) W := by
        rcases hhv.out with ⟨h1, h, _, _, h2, _⟩ | ⟨h1, h2, _⟩ <;> rw [h1, h2] <;> intro W <;> first | rfl | kernel_rfl
      have hneg : ∀ (x y : Operand) W, (eqGuard .neq 26 x y hv (.pointer none)).run Tryz.prog W = .ok () W := by
        rcases hhv.out with ⟨h1, h, _, _, h2, _⟩ | ⟨h1, h2, _⟩ <;> rw [h2] <;> intro x y W <;> first | rfl | kernel_rfl
      have s2 := hm13.cell (.tail _ (.tail _ (List.mem_append_right _ (.head _)))) 2 rfl
      replace hyl := Fact.mk hyl
      replace hmay2 := Fact.mk hmay2
      have hobB : Fact (∀ y, y ∈ ys → y.ob.items.length ≤ 1048576 ∧ y.ob.keys.length ≤ 1048576) := ⟨fun y hy => by
        have : y.ob ∈ xs.map (·.ob) := by rw [← hys.out]; exact List.mem_map_of_mem hy
        obtain ⟨x, hx1, hx2⟩ := List.mem_map.1 this
        rw [← hx2]; exact hsz.out x hx1⟩
      go_wp2_with fail
      refine (sameObjects_ok w12 Ai A k ci c ys xs ⟨⟨hm13.rd m0, fun y hy => LentC.reads (hm13.ok _ (.tail _ (.tail _ (List.mem_append_left _ (List.mem_map_of_mem hy)))))⟩⟩ ⟨hx.out.gr hm13.below⟩ ⟨hys.out⟩ ⟨fun y hy => by have := hobB.out y hy; omega⟩ (by omega)).mono ?_
      rintro e w14 ⟨rfl, hg14⟩
      have hm14 := hm13.gr hg14
      clear hm13 hg14 s2
      go_wp2
      clear hneq hneg
      go_loopw [14] (fun s14 W => ∃ (i : Nat) (zs : List RO), s14 = .int .i64 i ∧ i ≤ k ∧ Fact (zs.length = k ∧ ∀ j, i ≤ j → zs.getD j ro0 = ys.getD j ro0) ∧ Mem w W (Own 6 (.slice Ai k ci) (zs.flatMap cRO) :: Own 1 (.slice Ar k cr) (ys.map roomV) :: ((ys.drop i).map LentC ++ (Blk gb (.cells [.int .i64 b, .int .i64 s, .slice A k c].toArray 24) :: (Y ++ X))))) (fun s14 _ => k - (intOf s14).toNat)
      case atStart => exact ⟨0, ys, rfl, by omega, ⟨hyl.out, fun _ _ => rfl⟩, hm14⟩
      case round =>
        obtain ⟨i, zs, rfl, hi, hzs, hmq⟩ := hrel
        clear hm14
        by_cases hit : i < k
        · have hyi : i < ys.length := by rw [hyl.out]; exact hit
          have hdr : ys.drop i = ys.getD i ro0 :: ys.drop (i + 1) := by rw [List.drop_eq_getElem_cons hyi]; simp [hyi]
          rw [hdr, List.map_cons, List.cons_append] at hmq
          have hzi := hzs.out.2 i (Nat.le_refl _)
          have hyx : (xs.getD i ro0).ob = (ys.getD i ro0).ob := by
            have h := congrArg (fun l => l.getD i ob0) hys.out
            simpa [hyi, show i < xs.length by rw [hl.out]; exact hit] using h.symm
          obtain ⟨bx, ox, hA, hcx, hxl, hrx⟩ := (hx.out.gr hmq.below).at i hit
          have hbd := hobB.out _ (getD_mem ys i ro0 hyi)
          obtain ⟨br, orr, c0, hAr, h1, h2, _⟩ := (hmq.rd m1).at1 i hit
          have h3 : c0 = roomV (ys.getD i ro0) := by
            rw [List.getElem?_map, List.getElem?_eq_getElem hyi] at h2
            simpa [hyi] using h2.symm
          have hz30 : ∀ y', (∀ j, i + 1 ≤ j → (zs.set i y').getD j ro0 = ys.getD j ro0) := fun y' j hj => by
            rw [← hzs.out.2 j (by omega), List.getD_eq_getElem?_getD, List.getElem?_set_ne (by omega), ← List.getD_eq_getElem?_getD]
          generalize ys.getD i ro0 = y at hmq hzi hyx hbd h3
          generalize xs.getD i ro0 = x at hyx hcx hrx
          rw [h3] at h1
          have f1 : wr.cell? ⟨bx, ox + i * 6 + 1, none⟩ = some (.slice x.A y.ob.items.length x.c) := by rw [← hyx]; exact hcx 1 _ rfl
          have hrx1 : RdC wr 2 (.slice x.A y.ob.items.length x.c) (fV y.ob.items) := by rw [← hyx]; exact hrx.1
          have s2 := hmq.cell (.tail _ (.tail _ (.tail _ (List.mem_append_right _ (.head _))))) 2 rfl
          rw [hA] at s2
          replace hA := Fact.mk hA
          replace hAr := Fact.mk hAr
          replace hz30 := Fact.mk hz30
          replace hzi := Fact.mk hzi
          unfold roomV at h1
          rw [hAr.out]
          clear hcx hrx hxl h2 h3 hyx hdr
          go_wp2_with fail
          refine (keptValues_ok wr y.A y.ob.items.length y.c x.A x.c y.ob.items ⟨LentC.room (hmq.ok _ m2)⟩ ⟨hrx1⟩ (by omega)).mono ?_
          rintro e w16 ⟨rfl, hg16⟩
          have hm17 := (hmq.gr hg16).pull2
          clear hmq hg16 s2 f1 h1 hrx1
          obtain ⟨Z, hZ⟩ : ∃ Z, Z = Own 6 (.slice Ai k ci) (zs.flatMap cRO) :: Own 1 (.slice Ar k cr) (ys.map roomV) :: ((ys.drop (i + 1)).map LentC ++ (Blk gb (.cells [.int .i64 b, .int .i64 s, .slice A k c].toArray 24) :: (Y ++ X))) := ⟨_, rfl⟩
          have hm18 : Mem w w16 (Own 2 (.slice y.A (y.ob.items.length + 64) y.c) (fV (y.ob.items ++ marksV 64)) :: Own 1 (.slice y.KA y.ob.keys.length y.kc) (nums .i64 y.ob.keys) :: Z) := by rw [hZ]; exact Mem.opn hm17
          clear hm17
          have hcap := OwnAt.cap (hm18.ok _ m0)
          obtain ⟨bg, bo, hB⟩ := OwnAt.addr (hm18.ok _ m0) (by omega)
          rw [hB] at hm18
          have hCl : (fV (y.ob.items ++ marksV 64)).length = (y.ob.items.length + 64) * 2 := OwnAt.len (hm18.ok _ m0)
          rw [hB]
          clear hB
          generalize fV (y.ob.items ++ marksV 64) = C0 at hm18 hCl
          go_wp2
          go_loopw [16] (fun s16 W => ∃ (q : Nat) (C : List Value), s16 = .int .i64 q ∧ q ≤ y.ob.items.length + 64 ∧ C.length = (y.ob.items.length + 64) * 2 ∧ Mem w W (Own 2 (.slice (some ⟨bg, bo, none⟩) (y.ob.items.length + 64) y.c) C :: Own 1 (.slice y.KA y.ob.keys.length y.kc) (nums .i64 y.ob.keys) :: Z)) (fun s16 _ => y.ob.items.length + 64 - (intOf s16).toNat)
          case atStart => exact ⟨0, C0, rfl, by omega, hCl, hm18⟩
          case round =>
            obtain ⟨q, C, rfl, hq, hC, hmw⟩ := hrel
            clear hm18 hCl
            by_cases hqt : q < y.ob.items.length + 64
            · have hC' := Fact.mk (splice2_len (.int .i64 77) (.int .i64 5) hC hqt)
              have hq2 := Fact.mk (splice2_le (a := .int .i64 77) (b := .int .i64 5) hC hqt)
              replace hC := Fact.mk hC
              go_wp2_with (refine wp_ownrow rfl 35 _ _ rfl (bo + q * 2) (q * 2) rfl rfl [.int .i64 77, .int .i64 5] rfl hmw sz_V hq2.out (cV_one (77, 5)) ?_; intro w19 hm19)
              go_roundw
              case rel => exact ⟨q + 1, _, by go_num, hqt, hC'.out, hm19⟩
              case measure => exact measP_lt hqt
            · have hqf : ((q : Int) < (y.ob.items.length : Int) + 64) = False := eq_false (by omega)
              clear hq hqt
              have hm20 := hmw.tail
              clear hmw hC
              have hK0 : (nums .i64 y.ob.keys).length = y.ob.keys.length := by simp
              generalize nums .i64 y.ob.keys = K0 at hm20 hK0
              go_wp2
              clear hqf
              go_loopw [17] (fun s17 W => ∃ (p : Nat) (C : List Value), s17 = .int .i64 p ∧ p ≤ y.ob.keys.length ∧ C.length = y.ob.keys.length ∧ Mem w W (Own 1 (.slice y.KA y.ob.keys.length y.kc) C :: Z)) (fun s17 _ => y.ob.keys.length - (intOf s17).toNat)
              case atStart => exact ⟨0, K0, rfl, by omega, hK0, hm20⟩
              case round =>
                obtain ⟨p, C, rfl, hq, hC, hmv⟩ := hrel
                clear hm20 hK0
                rw [hZ] at hmv
                obtain ⟨bi, oi, hAi, hci, _, _⟩ := rd_at cRO_len (by omega) ro0 (hmv.rd m1) i hit
                rw [hzi.out] at hci
                have f2 : wr.cell? ⟨bi, oi + i * 6 + 2, none⟩ = some (.slice y.KA y.ob.keys.length y.kc) := hci 2 _ rfl
                clear hci
                by_cases hqt : p < y.ob.keys.length
                · have hq2 := Fact.mk (splice1_le (a := .int .i64 (1000 - (p : Int))) hC hqt)
                  have hC' := Fact.mk (splice1_len (.int .i64 (1000 - (p : Int))) hC hqt)
                  have hq5 : (p : Int) ≤ 1048576 := by have := hbd.2; omega
                  have hcap2 := OwnAt.cap (hmv.ok _ m0)
                  obtain ⟨bk, ok, hKA⟩ := OwnAt.addr (hmv.ok _ m0) (by omega)
                  rw [hKA] at hmv f2
                  replace hKA := Fact.mk hKA
                  clear hcap2 hC
                  rw [hAi]
                  replace hAi := Fact.mk hAi
                  go_wp2_with (refine wp_ownat rfl 2 _ _ rfl (ok + p) p rfl rfl [.int .i64 (1000 - (p : Int))] _ rfl rfl hmv sz_i64 hq2.out (one_one rfl) ?_; intro w21 hm21)
                  try rw [← hAi.out]
                  go_roundw
                  case rel => exact ⟨p + 1, _, by go_num, hqt, hC'.out, by rw [hZ, hKA.out]; exact hm21⟩
                  case measure => exact measP_lt hqt
                · obtain rfl : p = y.ob.keys.length := by omega
                  have hmu := hmv.tail
                  clear hmv hC
                  rw [hAi] at hmu
                  obtain ⟨y', hy'⟩ : ∃ y' : RO, y' = { y with ob := { y.ob with kind := 77 } } := ⟨_, rfl⟩
                  have hfs := flat_set zs i (by rw [hzs.out.1]; exact hit) y' 0 [.int .i64 77] (by simp) (by rw [hzi.out, hy']; rfl)
                  replace hfs := Fact.mk hfs
                  have hfl := Fact.mk (show i * 6 + 0 + [(.int .i64 77 : Value)].length ≤ (zs.flatMap cRO).length by rw [flat_len, hzs.out.1]; simp only [List.length_singleton]; omega)
                  rw [hAi]
                  replace hAi := Fact.mk hAi
                  clear hy'
                  go_wp2_with (refine wp_ownat rfl 3 _ _ rfl (oi + i * 6) (i * 6 + 0) rfl rfl [.int .i64 77] _ rfl rfl hmu sz_int hfl.out (one_one rfl) ?_; intro w22 hm22)
                  try rw [← hAi.out]
                  try rw [← hAr.out]
                  go_roundw
                  case rel => exact ⟨i + 1, zs.set i y', by go_num, hit, ⟨by rw [List.length_set]; exact hzs.out.1, hz30.out y'⟩, by rw [← hfs.out, hAi.out]; exact hm22⟩
                  case measure => exact measP_lt hit
        · obtain rfl : i = k := by omega
          rw [List.drop_of_length_le (by rw [hyl.out]; exact Nat.le_refl _)] at hmq
          have hmz : Mem w wr (Y ++ X) := hmq.tail.tail.tail
          clear hmq
          rcases hhv.out with ⟨h1, h, ha, hok, h2, h3⟩ | ⟨h1, h2, h3⟩
          · rcases hmay.out.2 with ⟨_, r, hra, rok, h5, h6⟩ | ⟨h4, _⟩
            · rw [h3, h6] at hmz
              rw [h1, h2, h5]
              have hmb : loadB (xs.map (·.ob)) = true := by rw [← hmay2.out, h1]
              have habs : r.abs = h.abs := by rw [ha, hra]
              have hal := alike_ok w wr [] h r hmz ⟨hok⟩ ⟨rok⟩ ⟨by rw [habs]⟩ (congrArg Hs.spent habs)
              replace hal := Fact.mk hal
              replace hmb := Fact.mk hmb
              replace ha := Fact.mk ha
              replace habs := Fact.mk habs
              clear h1 h2 h3 h5 h6 hra hmay hmay2 hhv
              go_wp2_with fail
              refine hal.out.mono ?_
              rintro e w30 ⟨rfl, hm30⟩
              go_wp2
              go_ret3
              exact .inl ⟨hmb.out, h, r, ha.out, habs.out, hok, rok, rfl, hm30⟩
            · rw [h1] at h4; cases h4
          · rw [h1]
            have hmb : Fact (loadB (xs.map (·.ob)) = false) := ⟨by rw [← hmay2.out, h1]⟩
            rcases hmay.out.2 with ⟨h4, _⟩ | ⟨_, h5, h6⟩
            · rw [h1] at h4; cases h4
            · rw [h3, h6] at hmz
              clear h1 h2 h3 h5 h6 hmay hmay2 hhv
              go_wp2
              go_ret3
              exact .inr ⟨hmb.out, rfl, hmz⟩
end Go.Proofs.YtpibchjkmaghnaaGreat
namespace Go.Proofs.YtpibchjkmaghnaaGreat
open Go.RowKit Go.Mm Go.WideShapes Go.ChangeShapes
set_option maxHeartbeats 1000000
set_option maxRecDepth 100000
theorem struct_of {P : Program} {t : TypeId} {fl : List (TypeId × Nat)} (h : fieldsOf P t = some fl) : ∃ fs, P.underlying t = some (.struct fs) := by
  unfold fieldsOf at h
  split at h
  · rename_i fs hfs; exact ⟨fs, hfs⟩
  · cases h
theorem wf_rng {n : Int} (h : (Lit.int .i64 n).wf = true) : -9223372036854775808 ≤ n ∧ n ≤ 9223372036854775807 := by
  simpa [Lit.wf, IntKind.has, IntKind.min, IntKind.max, IntKind.signed, IntKind.bits] using h
def cN (k : Int) : List Value := [.int .i64 k]
theorem flat_nums (ks : List Int) : ks.flatMap cN = nums .i64 ks := by
  induction ks with
  | nil => rfl
  | cons a ks ih => rw [List.flatMap_cons, ih]; rfl
theorem list6 {α : Type} {l : List α} (h : l.length = 6) : ∃ a b c d e f, l = [a, b, c, d, e, f] := by
  match l with
  | [a, b, c, d, e, f] => exact ⟨a, b, c, d, e, f, rfl⟩
section
variable {H : Type} {enc : TypeId × Value → H} {w : World}
theorem fl_O : fieldsOf Tryz.prog 41 = some [(3, 0), (36, 1), (39, 2), (3, 3), (3, 4), (4, 5)] := by kernel_rfl
theorem fl_ST : fieldsOf Tryz.prog 24 = some [(3, 0), (3, 1), (22, 2)] := by kernel_rfl
theorem co_Is : Tryz.prog.cellsOf 39 = 1 := by kernel_rfl
theorem co_O : Tryz.prog.cellsOf 41 = 6 := by kernel_rfl
theorem co_Os : Tryz.prog.cellsOf 22 = 1 := by kernel_rfl
theorem co_bool : Tryz.prog.cellsOf 4 = 1 := by kernel_rfl
theorem co_ST : Tryz.prog.cellsOf 24 = 3 := by kernel_rfl
theorem hel_Vw (fuel : Nat) (cs : List Value) (d : DataW H) (ps : List MemPlace) (h : DataW.trod enc Tryz.prog w 0 (fun _ => true) true fuel 35 cs = some (d, ps)) : ∃ x, cs = cV x ∧ (Lit.int .i64 x.2).wf = true := by
  obtain ⟨xs, n, rfl, hl, hx, hi⟩ := open_struct fl_V h
  rw [co_V] at hl
  obtain ⟨a, b, rfl⟩ := list2 hl
  obtain ⟨⟨d1, p1⟩, ⟨d2, p2⟩, rfl⟩ := list2 hx
  have h1 := hi 0 _ _ rfl
  have h2 := hi 1 _ _ rfl
  rw [co_int] at h1
  rw [co_i64] at h2
  obtain ⟨x, rfl, _⟩ := open_i ty_int h1
  obtain ⟨y, rfl, _, hw⟩ := open_i ty_i64 h2
  exact ⟨(x, y), rfl, hw⟩
theorem hel_N (fuel : Nat) (cs : List Value) (d : DataW H) (ps : List MemPlace) (h : DataW.trod enc Tryz.prog w 0 (fun _ => true) true fuel 2 cs = some (d, ps)) : ∃ x, cs = cN x ∧ (Lit.int .i64 x).wf = true := by
  obtain ⟨n, rfl, _, hw⟩ := DataW.trod_int ty_i64 h
  exact ⟨n, rfl, hw⟩
/-- What is known of an object that came in. -/
def InOk (w : World) (b : Nat) (x : RO) : Prop := x.reads w ∧ x.ob.items.length + 2 ≤ b ∧ x.ob.keys.length + 2 ≤ b ∧ (∀ k, k ∈ x.ob.keys → (Lit.int .i64 k).wf = true) ∧ ∀ v, v ∈ x.ob.items → -9223372036854775808 ≤ v.2 ∧ v.2 ≤ 9223372036854775807
theorem hel_O (fuel : Nat) (cs : List Value) (d : DataW H) (ps : List MemPlace) (h : DataW.trod enc Tryz.prog w 0 (fun _ => true) true fuel 41 cs = some (d, ps)) : ∃ x, cs = cRO x ∧ InOk w (Rows.uptoBulk d) x := by
  obtain ⟨xs, n, rfl, hl, hx, hi⟩ := open_struct fl_O h
  rw [co_O] at hl
  obtain ⟨a, b, c, e, f, g, rfl⟩ := list6 hl
  obtain ⟨⟨d1, p1⟩, ⟨d2, p2⟩, ⟨d3, p3⟩, ⟨d4, p4⟩, ⟨d5, p5⟩, ⟨d6, p6⟩, rfl⟩ := list6 hx
  have h1 := hi 0 _ _ rfl
  have h2 := hi 1 _ _ rfl
  have h3 := hi 2 _ _ rfl
  have h4 := hi 3 _ _ rfl
  have h5 := hi 4 _ _ rfl
  have h6 := hi 5 _ _ rfl
  rw [co_int] at h1 h4 h5
  rw [co_Vs] at h2
  rw [co_Is] at h3
  rw [co_bool] at h6
  obtain ⟨x1, rfl, _⟩ := open_i ty_int h1
  obtain ⟨x4, rfl, _⟩ := open_i ty_int h4
  obtain ⟨x5, rfl, _⟩ := open_i ty_int h5
  obtain ⟨A, m, k, zs, e2, r2, l2, g2⟩ := open_cells (cV) (fun _ x => (Lit.int .i64 x.2).wf = true) 2 (by omega) ty_Vs co_V (fun x => ⟨cV_len x, cV_one x⟩) hel_Vw h2
  obtain ⟨B, m', k', us, e3, r3, l3, g3⟩ := open_cells (cN) (fun _ x => (Lit.int .i64 x).wf = true) 1 (by omega) ty_Is co_i64 (fun x => ⟨rfl, one_one rfl⟩) hel_N h3
  obtain ⟨x6, e6, _⟩ := DataW.trod_bool ty_bool h6
  replace e2 : [b] = [.slice A m k] := e2
  replace e3 : [c] = [.slice B m' k'] := e3
  replace e6 : [g] = [.bool x6] := e6
  simp only [List.cons.injEq, and_true] at e2 e3 e6
  subst e2 e3 e6
  subst l2 l3
  rw [flat_nums] at r3
  have b2 := cells_len g2
  have b3 := cells_len g3
  have q2 := bulk_part (d := d2) (xs := [d1, d2, d3, d4, d5, d6]) (by simp)
  have q3 := bulk_part (d := d3) (xs := [d1, d2, d3, d4, d5, d6]) (by simp)
  refine ⟨⟨A, k, B, k', ⟨x1, zs, us, x4, x5, x6⟩⟩, rfl, ⟨r2, r3⟩, ?_, ?_, fun z hz => (cells_each g3 hz).elim fun y hy => hy.1, fun v hv => wf_rng ((cells_each g2 hv).elim fun y hy => hy.1)⟩
  · show zs.length + 2 ≤ _; simp at q2 ⊢; omega
  · show us.length + 2 ≤ _; simp at q3 ⊢; omega
theorem hel_HOw (fuel : Nat) (cs : List Value) (d : DataW H) (ps : List MemPlace) (h : DataW.trod enc Tryz.prog w 0 (fun _ => true) true fuel 38 cs = some (d, ps)) : ∃ x, cs = cHO x ∧ (Lit.int .i64 x.I).wf = true := by
  obtain ⟨xs, n, rfl, hl, hx, hi⟩ := open_struct fl_HO h
  rw [co_HO] at hl
  obtain ⟨a, b, c, e, f, g, x, y, z, rfl⟩ := list9 hl
  obtain ⟨⟨d1, p1⟩, ⟨d2, p2⟩, ⟨d3, p3⟩, ⟨d4, p4⟩, ⟨d5, p5⟩, ⟨d6, p6⟩, ⟨d7, p7⟩, rfl⟩ := list7 hx
  have h1 := hi 0 _ _ rfl
  have h2 := hi 1 _ _ rfl
  have h3 := hi 2 _ _ rfl
  have h4 := hi 3 _ _ rfl
  have h5 := hi 4 _ _ rfl
  have h6 := hi 5 _ _ rfl
  have h7 := hi 6 _ _ rfl
  rw [co_int] at h1 h2 h6
  rw [co_V] at h3 h4
  rw [co_i64] at h5
  rw [co_Vs] at h7
  obtain ⟨x1, rfl, _⟩ := open_i ty_int h1
  obtain ⟨x2, rfl, _⟩ := open_i ty_int h2
  obtain ⟨x3, e3, _⟩ := hel_V _ _ _ _ h3
  obtain ⟨x4, e4, _⟩ := hel_V _ _ _ _ h4
  obtain ⟨x5, rfl, _, hw⟩ := open_i ty_i64 h5
  obtain ⟨x6, rfl, _⟩ := open_i ty_int h6
  obtain ⟨A, m, k, zs, e7, _, _, _⟩ := open_cells (cV) (fun _ _ => True) 2 (by omega) ty_Vs co_V (fun x => ⟨cV_len x, cV_one x⟩) hel_V h7
  replace e3 : [c, e] = cV x3 := e3
  replace e4 : [f, g] = cV x4 := e4
  replace e7 : [z] = [.slice A m k] := e7
  simp only [cV, List.cons.injEq, and_true] at e3 e4 e7
  obtain ⟨rfl, rfl⟩ := e3
  obtain ⟨rfl, rfl⟩ := e4
  subst e7
  exact ⟨⟨x1, x2, x3, x4, x5, x6, A, m, k, zs⟩, rfl, hw⟩
theorem hel_HO2 (fuel : Nat) (cs : List Value) (d : DataW H) (ps : List MemPlace) (h : DataW.trod enc Tryz.prog w 0 (fun _ => true) true fuel 38 cs = some (d, ps)) : ∃ x, cs = cHO x ∧ ((RdC w 2 (.slice x.A x.n x.c) (fV x.items) ∧ x.n + 2 ≤ Rows.uptoBulk d) ∧ (Lit.int .i64 x.I).wf = true) := by
  obtain ⟨x, hx, h1⟩ := hel_HO fuel cs d ps h
  obtain ⟨y, hy, h2⟩ := hel_HOw fuel cs d ps h
  rw [hx] at hy
  simp only [cHO, List.cons.injEq, Value.int.injEq, true_and] at hy
  refine ⟨x, hx, h1, ?_⟩
  rw [hy.2.2.2.2.2.2.1]
  exact h2
/-- A script that came in. -/
theorem open_script {v : Value} {d : DataW H} {p : List MemPlace} {base : Nat} (h : DataW.Trod enc Tryz.prog w 0 (fun _ => true) true 25 v d p) (ok : Value.okWide Tryz.prog w .any base 25 v) (hb : Rows.uptoBulk d ≤ 1048576) :
    ∃ (A : Option Addr) (n c : Nat) (ops : List HOp), v = .slice A n c ∧ RdC w 9 (.slice A n c) (ops.flatMap cHO) ∧ OpsOk w ops ∧ n + 1 ≤ Rows.uptoBulk d := by
  obtain ⟨A, n, c, xs, rfl, hr, hl, hd⟩ := open_list cHO (fun d x => (RdC w 2 (.slice x.A x.n x.c) (fV x.items) ∧ x.n + 2 ≤ Rows.uptoBulk d) ∧ (Lit.int .i64 x.I).wf = true) 9 (by omega) ty_HOs co_HO (fun x => ⟨cHO_len x, cHO_one x⟩) hel_HO2 h ok
  refine ⟨A, n, c, xs, rfl, hr, fun f hf => ?_, cells_len hd⟩
  obtain ⟨y, hy, hb'⟩ := cells_each hd hf
  exact ⟨hy.1.1, by have := hy.1.2; omega, hy.2⟩
/-- How a heap begins, as it came in. -/
structure StOk (w : World) (b s : Int) (A : Option Addr) (n c : Nat) (xs : List RO) : Prop where
  hb : b ≤ 9223372036854775807
  hs : s ≤ 9223372036854775807
  rd : ObsR w A n c xs
  hn : n ≤ 1048576
  sz : ∀ x, x ∈ xs → x.ob.items.length ≤ 1048576 ∧ x.ob.keys.length ≤ 1048576
  wf : ∀ x, x ∈ xs → (∀ k, k ∈ x.ob.keys → (Lit.int .i64 k).wf = true) ∧ ∀ v, v ∈ x.ob.items → -9223372036854775808 ≤ v.2 ∧ v.2 ≤ 9223372036854775807
theorem open_start {v : Value} {d : DataW H} {p : List MemPlace} {base : Nat} (h : DataW.Trod enc Tryz.prog w 0 (fun _ => true) true 24 v d p) (ok : Value.okWide Tryz.prog w .any base 24 v) (hb : Rows.uptoBulk d ≤ 1048576) :
    ∃ (b s : Int) (A : Option Addr) (n c : Nat) (xs : List RO), v = .agg (stC b s A n c).toArray ∧ StOk w b s A n c xs := by
  obtain ⟨fs, hfs⟩ := struct_of fl_ST
  obtain ⟨cs, rfl, hcs⟩ := okWide_struct hfs ok
  obtain ⟨fuel, hfu⟩ := h
  obtain ⟨xs, n, rfl, hl, hx, hi⟩ := open_struct fl_ST hfu
  rw [co_ST] at hl
  obtain ⟨a, b, c, e⟩ := list3 hl
  rw [e] at hi
  obtain ⟨⟨d1, p1⟩, ⟨d2, p2⟩, ⟨d3, p3⟩, rfl⟩ := list3 hx
  have h1 := hi 0 _ _ rfl
  have h2 := hi 1 _ _ rfl
  have h3 := hi 2 _ _ rfl
  rw [co_int] at h1 h2
  rw [co_Os] at h3
  obtain ⟨x1, rfl, _, hw1⟩ := open_i ty_int h1
  obtain ⟨x2, rfl, _, hw2⟩ := open_i ty_int h2
  obtain ⟨A, m, k, zs, e3, r3, l3, g3⟩ := open_cells (cRO) (fun d x => InOk w (Rows.uptoBulk d) x) 6 (by omega) ty_Os co_O (fun x => ⟨cRO_len x, cRO_one x⟩) hel_O h3
  have e6 : c = .slice A m k := by simpa using e3
  clear e3
  subst e6
  have b3 := cells_len g3
  have q3 := bulk_part (d := d3) (xs := [d1, d2, d3]) (by simp)
  simp only [List.map_cons, List.map_nil] at hb
  refine ⟨x1, x2, A, m, k, zs, ?_, ⟨(wf_rng hw1).2, (wf_rng hw2).2, ⟨r3, fun x hxm => ?_⟩, by omega, fun x hxm => ?_, fun x hxm => ?_⟩⟩
  · have : cs.toList = [.int .i64 x1, .int .i64 x2, .slice A m k] := by simpa [Value.cells] using e
    show Value.agg cs = Value.agg _
    congr 1
    exact Array.toList_inj.1 (by simpa [stC] using this)
  · exact (cells_each g3 hxm).elim fun y hy => hy.1.1
  · obtain ⟨y, hy, hb2⟩ := cells_each g3 hxm
    have h4 := hy.2.1
    have h5 := hy.2.2.1
    omega
  · exact (cells_each g3 hxm).elim fun y hy => hy.1.2.2.2
end
end Go.Proofs.YtpibchjkmaghnaaGreat
namespace Go.Proofs.YtpibchjkmaghnaaGreat
open Go.RowKit Go.Mm
theorem load_few {l : List Ob} (h : loadB l = true) (b s : Int) : (⟨b, s, l⟩ : Hs).Few := fun o ho => by
  have hr := List.all_eq_true.1 h o ho
  rw [refB_eq, Bool.and_eq_true, Bool.and_eq_true] at hr
  have hl := hr.2.1
  unfold limB at hl
  refine ⟨fun h9 => ?_, fun h7 => ?_⟩
  · simp only [h9, show ¬ (9 : Int) = 6 by decide, show ¬ (9 : Int) = 7 by decide, show ¬ (9 : Int) = 8 by decide, if_false, Bool.and_eq_true, decide_eq_true_eq] at hl
    exact hl.1.2
  · simp only [h7, show ¬ (7 : Int) = 6 by decide, if_false, if_true, decide_eq_true_eq] at hl
    exact hl
end Go.Proofs.YtpibchjkmaghnaaGreat
