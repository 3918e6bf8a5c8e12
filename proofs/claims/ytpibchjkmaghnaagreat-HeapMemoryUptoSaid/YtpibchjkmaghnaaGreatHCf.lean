/- Lemmas for the row HeapMemoryRow (contracts of functions, laws of memory). Conditions: those that each lemma states. -/
import Derived.OwnWalk
import Derived.Test.YtpibchjkmaghnaaGreatHCa
import Derived.Test.YtpibchjkmaghnaaGreatHCb
import Derived.Test.YtpibchjkmaghnaaGreatHCc
import Derived.Test.YtpibchjkmaghnaaGreatHCe
namespace Go.Proofs.YtpibchjkmaghnaaGreat
open Go.RowKit Go.Mm
set_option maxHeartbeats 4000000
set_option maxRecDepth 100000
set_option linter.unusedSimpArgs false
theorem getD_mem {α : Type} (xs : List α) (k : Nat) (d : α) (hk : k < xs.length) : xs.getD k d ∈ xs := by
  rw [List.getD_eq_getElem?_getD, List.getElem?_eq_getElem hk]
  exact List.getElem_mem _
theorem copyObjects_ok (w0 w : World) (L : List Chunk) (hm : Mem w0 w L) (A : Option Addr) (n c : Nat) (xs : List RO) (hx : Fact (ObsR w A n c xs)) (hn : n ≤ 2097152) (hsz : ∀ x, x ∈ xs → x.ob.items.length ≤ 1048576 ∧ x.ob.keys.length ≤ 1048576) :
    Calls Tryz.prog 15 #[.slice A n c] w fun e w' => ∃ (A' : Option Addr) (c' : Nat) (ys : List RO), e = .returned (.slice A' n c') ∧ ys.map (·.ob) = xs.map (·.ob) ∧ Mem w0 w' (Own 6 (.slice A' n c') (ys.flatMap cRO) :: (ys.map RoC ++ L)) := by
  obtain ⟨iO, hiO, hz0, hz1, hz2⟩ := info_parts inf_O
  have hl := Fact.mk hx.out.len
  replace hsz := Fact.mk hsz
  go_enter Tryz.func15, Tryz.ntmps15
  go_wp2
  go_loopw [3, 4] (fun s3 s4 W => ∃ (k : Nat) (B : Option Addr) (d : Nat) (ys : List RO), s4 = .int .i64 k ∧ k ≤ n ∧ s3 = .slice B k d ∧ Fact (ys.map (·.ob) = (xs.take k).map (·.ob)) ∧ Mem w W (Own 6 (.slice B k d) (ys.flatMap cRO) :: (ys.map RoC ++ []))) (fun _ s4 _ => n - (intOf s4).toNat)
  case atStart => exact ⟨0, none, 0, [], rfl, by omega, rfl, ⟨rfl⟩, (Mem.start w).nil 6 none⟩
  case round =>
    obtain ⟨k, B, d, ys, rfl, hk, rfl, hys, hmr⟩ := hrel
    by_cases hlt : k < n
    · obtain ⟨bb, o, rfl, hc, hkl, hrd⟩ := (hx.out.gr hmr.below).at k hlt
      have hszx := hsz.out _ (getD_mem xs k ro0 hkl)
      have htk : xs.take (k + 1) = xs.take k ++ [xs.getD k ro0] := by rw [List.take_succ_eq_append_getElem hkl]; simp [hkl]
      generalize xs.getD k ro0 = x at hc hrd hszx htk
      have hcp := copyObject_ok w wr _ hmr x ⟨hrd⟩ hszx.1 hszx.2
      replace hcp := Fact.mk hcp
      replace hc := Fact.mk hc
      replace htk := Fact.mk htk
      go_wp2_with (refine wp_rng rfl 41 _ rfl bb (o + k * 6) rfl (cRO x) hc.out row_O sz_O ?_)
      refine hcp.out.mono ?_
      rintro e w2 ⟨y, rfl, hyo, hm3⟩
      clear hmr hcp
      replace hyo := Fact.mk hyo
      go_wp2_with (first | (refine wp_setrow rfl 41 _ _ rfl w2.heap.size rfl 41 _ (cRO y) rfl (hm3.alloc (.cells (obC 0 none 0 0 none 0 0 0 0 false).toArray 41)) sz_O rfl (cRO_one y) ?_; intro w4 hm4) | (refine wp_rng rfl 41 _ rfl w2.heap.size 0 rfl [.int .i64 y.ob.kind, .slice y.A y.ob.items.length y.c, .slice y.KA y.ob.keys.length y.kc, .int .i64 y.ob.fn, .int .i64 y.ob.cap, .bool y.ob.shut] (rng_blk hm4 m0) row_O sz_O ?_) | (at_builtin; refine wp_app rfl _ _ _ rfl 41 iO _ 6 80 ty_Os hiO hz0 hz1 hz2 rfl B k d _ rfl (hm4.alloc _).pull3 _ 1 1 [.int .i64 y.ob.kind, .slice y.A y.ob.items.length y.c, .slice y.KA y.ob.keys.length y.kc, .int .i64 y.ob.fn, .int .i64 y.ob.cap, .bool y.ob.shut] rfl (RdC.lit _ _ _ _ _ rfl (by simp [maxLen]) (cRO_one y)) (by unfold maxLen; omega) (by omega) ?_; intro A5 c5 w5 hm5))
      have hz : Mem w w5 (Own 6 (.slice A5 (k + 1) c5) ((ys ++ [y]).flatMap cRO) :: ((ys ++ [y]).map RoC ++ [])) := by
        have h1 := hm5.sub (List.Sublist.cons_cons _ ((List.sublist_cons_self _ _).trans (List.sublist_cons_self _ _)))
        have e1 : (ys ++ [y]).flatMap cRO = ys.flatMap cRO ++ cRO y := by simp
        have e2 : (ys ++ [y]).map RoC ++ [] = ys.map RoC ++ RoC y :: [] := by simp
        rw [e1, e2]
        exact h1.perm (List.perm_middle.symm.cons _)
      go_roundw
      case rel => exact ⟨k + 1, A5, c5, ys ++ [y], by go_num, by omega, rfl, ⟨by rw [htk.out, List.map_append, List.map_append, hys.out]; simp [hyo.out]⟩, hz⟩
      case measure => exact measP_lt hlt
    · obtain rfl : k = n := by omega
      rw [List.take_of_length_le (by rw [hl.out]; exact Nat.le_refl _)] at hys
      go_wp2
      go_ret
      refine ⟨B, d, rfl, ys, hys.out, ?_⟩
      have := hm.join hmr
      simpa using this
/-- Whether objects make a heap, as the document says it. -/
def loadB (l : List Ob) : Bool := l.all (refB l)
theorem refB_eq (l : List Ob) (o : Ob) : refB l o = (madeB o && (limB o && o.items.all (rightV l))) := by
  unfold refB tabB madeB limB rightKeysB
  by_cases h6 : o.kind = 6
  · simp only [h6, if_true]
    rw [show decide ((o.items.length : Int) ≤ 4096) = decide (o.items.length ≤ 4096) from decide_eq_decide.2 (by omega)]
    have e : (((o.keys.length : Int) == 0) : Bool) = (o.keys.length == 0) := by rw [Bool.eq_iff_iff]; simp
    rw [e]
    cases o.items.all (rightV l) <;> cases decide (o.items.length ≤ 4096) <;> cases (o.keys.length == 0) <;> cases (o.cap == 0 && !o.shut) <;> cases (o.fn == 0) <;> rfl
  by_cases h8 : o.kind = 8
  · simp only [h8, if_true]
    rw [show decide ((o.items.length : Int) ≤ 4096) = decide (o.items.length ≤ 4096) from decide_eq_decide.2 (by omega)]
    have e : (((o.keys.length : Int) == 0) : Bool) = (o.keys.length == 0) := by rw [Bool.eq_iff_iff]; simp
    rw [e, if_neg (by decide), if_neg (by decide), if_neg (by decide), if_neg (by decide)]
    cases o.items.all (rightV l) <;> cases decide (o.items.length ≤ 4096) <;> cases (o.keys.length == 0) <;> cases (o.cap == 0 && !o.shut) <;> cases decide (0 ≤ o.fn) <;> rfl
  by_cases h9 : o.kind = 9
  · simp only [h9]
    have e : (((o.keys.length : Int) == 0) : Bool) = (o.keys.length == 0) := by rw [Bool.eq_iff_iff]; simp
    rw [e]
    simp only [show ¬ (9 : Int) = 6 by decide, show ¬ (9 : Int) = 7 by decide, show ¬ (9 : Int) = 8 by decide, if_false, if_true]
    cases o.items.all (rightV l) <;> cases decide ((o.items.length : Int) ≤ o.cap) <;> cases (o.keys.length == 0) <;> cases decide (1 ≤ o.cap) <;> cases decide (o.cap ≤ 64) <;> cases (o.fn == 0) <;> rfl
  by_cases h7 : o.kind = 7
  · simp only [h7]
    have e : (((o.keys.length : Int) == o.items.length) : Bool) = (o.keys.length == o.items.length) := by rw [Bool.eq_iff_iff]; simp; omega
    rw [e]
    simp only [show ¬ (7 : Int) = 6 by decide, show ¬ (7 : Int) = 9 by decide, show ¬ (7 : Int) = 8 by decide, if_false, if_true]
    cases o.items.all (rightV l) <;> cases decide (o.keys.length ≤ 256) <;> cases (o.keys.length == o.items.length) <;> cases o.keys.all (fun k => decide (0 ≤ k)) <;> cases decide o.keys.Nodup <;> cases (o.cap == 0 && !o.shut) <;> cases (o.fn == 0) <;> rfl
  · simp [h6, h7, h8, h9]
theorem madeB_kind {o : Ob} (h : madeB o = true) : o.kind = 6 ∨ o.kind = 7 ∨ o.kind = 8 ∨ o.kind = 9 := by
  unfold madeB at h
  by_cases h6 : o.kind = 6
  · exact .inl h6
  by_cases h8 : o.kind = 8
  · exact .inr (.inr (.inl h8))
  by_cases h9 : o.kind = 9
  · exact .inr (.inr (.inr h9))
  by_cases h7 : o.kind = 7
  · exact .inr (.inl h7)
  rw [if_neg h6, if_neg h8, if_neg h9, if_neg h7] at h
  cases h
theorem load_eq (l : List Ob) : loadP l = loadB l := by
  unfold loadP loadB
  cases hm : l.all madeB with
  | false =>
    rw [Bool.false_and]
    symm
    rw [List.all_eq_false] at hm ⊢
    obtain ⟨o, ho, hn⟩ := hm
    refine ⟨o, ho, ?_⟩
    rw [refB_eq]
    simp only [Bool.not_eq_true] at hn
    rw [hn, Bool.false_and]
    decide
  | true =>
    rw [Bool.true_and]
    have hk : ∀ o, o ∈ l → o.kind = 6 ∨ o.kind = 7 ∨ o.kind = 8 ∨ o.kind = 9 := fun o ho => madeB_kind (List.all_eq_true.1 hm o ho)
    have hp : rightP l = rightV l := funext fun v => rightP_eq hk v
    rw [hp, Bool.eq_iff_iff, List.all_eq_true, List.all_eq_true]
    constructor
    · intro h o ho
      rw [refB_eq, List.all_eq_true.1 hm o ho, Bool.true_and]
      exact h o ho
    · intro h o ho
      have := h o ho
      rw [refB_eq, Bool.and_eq_true] at this
      exact this.2
def RLoadQ (w0 : World) (L : List Chunk) (b s : Int) (l : List Ob) (e : Ending) (w : World) : Prop :=
  (loadB l = true ∧ ∃ r : Rf, r.abs = ⟨b, s, l⟩ ∧ r.Ok ∧ e = .returned (.tuple #[.pointer (some ⟨r.g, 0, none⟩), .bool true]) ∧ Mem w0 w (RfC r :: L)) ∨ (loadB l = false ∧ e = .returned (.tuple #[.pointer none, .bool false]) ∧ Mem w0 w L)
theorem refLoad_ok (w0 w : World) (L : List Chunk) (hm : Mem w0 w L) (b s : Int) (hb : b ≤ 9223372036854775807) (hs : s ≤ 9223372036854775807) (A : Option Addr) (n c : Nat) (xs : List RO) (hx : Fact (ObsR w A n c xs)) (hn : n ≤ 2097152)
    (hsz : ∀ x, x ∈ xs → x.ob.items.length ≤ 1048576 ∧ x.ob.keys.length ≤ 1048576) (hwf : ∀ x, x ∈ xs → ∀ v, v ∈ x.ob.items → -9223372036854775808 ≤ v.2 ∧ v.2 ≤ 9223372036854775807) :
    Calls Tryz.prog 19 #[.int .i64 b, .int .i64 s, .slice A n c] w fun e w' => RLoadQ w0 L (max b 0) (max s 0) (xs.map (·.ob)) e w' := by
  have hl := Fact.mk hx.out.len
  replace hsz := Fact.mk hsz
  replace hwf := Fact.mk hwf
  obtain ⟨obs, hobs⟩ : ∃ obs, xs.map (·.ob) = obs := ⟨_, rfl⟩
  have hol : Fact (obs.length = n) := ⟨by rw [← hobs, List.length_map]; exact hl.out⟩
  have hoa : Fact (∀ k, k < n → obs.getD k ob0 = (xs.getD k ro0).ob) := ⟨fun k hk => by rw [← hobs]; simp [show k < xs.length by rw [hl.out]; exact hk]⟩
  have hright := fun (W : World) (hg : Gr w W) (k : Nat) (hk : k < n) => refRightO_ok W A n c xs ⟨hx.out.gr hg⟩ hn (xs.getD k ro0) ⟨hx.out.gr hg |>.at k hk |>.choose_spec.choose_spec.2.2.2⟩ (hsz.out _ (getD_mem xs k ro0 (by rw [hl.out]; exact hk))).1 (hsz.out _ (getD_mem xs k ro0 (by rw [hl.out]; exact hk))).2 (hwf.out _ (getD_mem xs k ro0 (by rw [hl.out]; exact hk)))
  rw [hobs] at hright ⊢
  replace hobs := Fact.mk hobs
  replace hright := Fact.mk hright
  go_enter Tryz.func19, Tryz.ntmps19
  go_wp2
  go_loopw [8] (fun s8 W => ∃ k : Nat, s8 = .int .i64 k ∧ k ≤ n ∧ Fact ((obs.take k).all (refB obs) = true) ∧ Gr w W) (fun s8 _ => n - (intOf s8).toNat)
  case atStart => exact ⟨0, rfl, by omega, ⟨rfl⟩, Gr.refl w⟩
  case round =>
    obtain ⟨k, rfl, hk, hall, hgr⟩ := hrel
    by_cases hlt : k < n
    · have hr := hright.out wr hgr k hlt
      obtain ⟨bb, o, rfl, hc, hkl, hrd⟩ := (hx.out.gr hgr).at k hlt
      have hsn := take_all (refB obs) obs k ob0 (by rw [hol.out]; exact hlt)
      have hno := take_all_no (p := refB obs) (xs := obs) (k := k) (d := ob0) (by rw [hol.out]; exact hlt)
      rw [hoa.out k hlt] at hsn hno
      generalize xs.getD k ro0 = x at hr hc hrd hsn hno
      replace hc := Fact.mk hc
      cases hv : refB obs x.ob with
      | false =>
        have hfin : Fact (loadB obs = false) := ⟨hno hv⟩
        rw [hv] at hr
        replace hr := Fact.mk hr
        clear hno hsn hv
        go_wp2_with (refine wp_rng rfl 41 _ rfl bb (o + k * 6) rfl (cRO x) hc.out row_O sz_O ?_)
        refine hr.out.mono ?_
        rintro e w2 ⟨rfl, hg2⟩
        go_wp2
        go_ret2
        exact .inr ⟨hfin.out, rfl, hm.gr (Gr.trans hgr hg2)⟩
      | true =>
        rw [hv, hall.out] at hsn
        rw [hv] at hr
        replace hr := Fact.mk hr
        replace hsn := Fact.mk hsn
        clear hno hv
        go_wp2_with (refine wp_rng rfl 41 _ rfl bb (o + k * 6) rfl (cRO x) hc.out row_O sz_O ?_)
        refine hr.out.mono ?_
        rintro e w2 ⟨rfl, hg2⟩
        go_wp2
        go_roundw
        case rel => exact ⟨k + 1, by go_num, by omega, ⟨hsn.out⟩, Gr.trans hgr hg2⟩
        case measure => exact measP_lt hlt
    · obtain rfl : k = n := by omega
      rw [List.take_of_length_le (by rw [hol.out]; exact Nat.le_refl _)] at hall
      have hfin : Fact (loadB obs = true) := ⟨hall.out⟩
      go_wp2_with fail
      refine (refNew_ok wr wr [] (Mem.start wr) b s).mono ?_
      rintro e w3 ⟨g, rfl, hm3⟩
      have hcp := copyObjects_ok wr w3 _ hm3 A k c xs ⟨hx.out.gr (Gr.trans hgr hm3.below)⟩ hn hsz.out
      replace hcp := Fact.mk hcp
      go_wp2_with fail
      refine hcp.out.mono ?_
      rintro e w4 ⟨A4, c4, ys, rfl, hys, hm4⟩
      clear hcp hm3
      rw [hobs.out] at hys
      have hyl : ys.length = k := by rw [← hol.out, ← hys, List.length_map]
      replace hys := Fact.mk hys
      replace hyl := Fact.mk hyl
      have hm5 : Mem wr w4 (Blk g (.cells [.int .i64 (max b 0), .int .i64 (max s 0), .slice none 0 0].toArray 51) :: Own 6 (.slice none 0 0) [] :: Own 6 (.slice A4 k c4) (ys.flatMap cRO) :: (ys.map RoC ++ [])) := by
        have h1 : Mem wr w4 (RfC ⟨g, max b 0, max s 0, none, 0, []⟩ :: (Own 6 (.slice A4 k c4) (ys.flatMap cRO) :: ys.map RoC ++ [])) := Mem.mid (A := Own 6 (.slice A4 k c4) (ys.flatMap cRO) :: ys.map RoC) hm4
        exact Mem.opn h1
      clear hm4
      go_wp2_with (refine wp_setat rfl 22 _ _ rfl g 2 rfl 51 _ [.slice A4 k c4] [.int .i64 (max b 0), .int .i64 (max s 0), .slice A4 k c4] (.slice A4 k c4) rfl rfl hm5 sz_Os (by simp) (one_one rfl) rfl ?_; intro w6 hm6)
      go_ret2
      have hz : Mem wr w6 (RfC ⟨g, max b 0, max s 0, A4, c4, ys⟩ :: []) := by
        have h1 := hm6.drop2
        refine Mem.sht (Rf.chunks ⟨g, max b 0, max s 0, A4, c4, ys⟩) ?_
        unfold Rf.chunks Rf.cells
        simp only [hyl.out]
        exact h1
      refine .inl ⟨hfin.out, ⟨g, max b 0, max s 0, A4, c4, ys⟩, by unfold Rf.abs; rw [hys.out], ⟨fun x hxm => ?_, by simp only [hyl.out]; omega, by show (0 : Int) ≤ max b 0; omega, by show max b 0 ≤ _; omega, by show (0 : Int) ≤ max s 0; omega, by show max s 0 ≤ _; omega⟩, rfl, (hm.gr hgr).join hz⟩
      have h1 : x.ob ∈ obs := by rw [← hys.out]; exact List.mem_map_of_mem hxm
      rw [← hobs.out] at h1
      obtain ⟨z, hz1, hz2⟩ := List.mem_map.1 h1
      rw [← hz2]
      exact hsz.out z hz1
end Go.Proofs.YtpibchjkmaghnaaGreat
namespace Go.Proofs.YtpibchjkmaghnaaGreat
open Go.RowKit Go.Mm
set_option maxHeartbeats 8000000
set_option maxRecDepth 100000
set_option linter.unusedSimpArgs false
theorem sz_ST : (Tryz.prog.info? 24).map (·.size) = some 3 := by kernel_rfl
theorem row_ST : (Tryz.prog.underlying 24).map (·.isRow) = some true := by kernel_rfl
theorem inf_Vs : (Tryz.prog.info? 36).map (fun i => (i.zero, i.size, i.bytes)) = some (some (.slice none 0 0), 1, 24) := by kernel_rfl
theorem ty_VVs : Tryz.prog.underlying 57 = some (.slice 36) := by kernel_rfl
def stC (b s : Int) (A : Option Addr) (n c : Nat) : List Value := [.int .i64 b, .int .i64 s, .slice A n c]
/-- A list lent: marks behind it. -/
def roomV (y : RO) : Value := .slice y.A (y.ob.items.length + 64) y.c
def LentC (y : RO) : Chunk := Chunk.all [Own 2 (roomV y) (fV (y.ob.items ++ marksV 64)), Own 1 (.slice y.KA y.ob.keys.length y.kc) (nums .i64 y.ob.keys)]
theorem LentC.room {y : RO} {w : World} (h : (LentC y).ok w) : RdC w 2 (.slice y.A (y.ob.items.length + 64) y.c) (fV (y.ob.items ++ marksV 64)) := (h.1 _ (.head _) : OwnAt _ _ _ w).rd
theorem LentC.reads {y : RO} {w : World} (h : (LentC y).ok w) : y.reads w := ⟨rd_pre cV_len (LentC.room h) rfl, (h.1 _ (.tail _ (.head _)) : OwnAt _ _ _ w).rd⟩
theorem roomV_one (y : RO) : One [roomV y] := one_one rfl
theorem mem_in2 {w0 w : World} {h a b d : Chunk} {M X : List Chunk} (hm : Mem w0 w (h :: a :: b :: (M ++ d :: X))) : Mem w0 w (a :: b :: (M ++ d :: (h :: X))) := by
  have hp : (h :: (M ++ d :: X)).Perm (M ++ d :: (h :: X)) := by
    have := (List.perm_middle (a := h) (l₁ := M ++ [d]) (l₂ := X)).symm
    simpa using this
  exact hm.back2.swap.swap.pull2.back2.perm ((hp.cons _).cons _)
/-- What the document's and the program's Load say, of one outcome. -/
def TwoQ (w : World) (L : List Chunk) (b s : Int) (l : List Ob) (e : Ending) (w' : World) : Prop :=
  (loadB l = true ∧ ∃ (h : Hp) (r : Rf), h.abs = ⟨b, s, l⟩ ∧ r.abs = h.abs ∧ h.Ok ∧ r.Ok ∧ e = .returned (.tuple #[.pointer (some ⟨h.g, 0, none⟩), .pointer (some ⟨r.g, 0, none⟩), .bool true]) ∧ Mem w w' (HpC h :: RfC r :: L)) ∨
  (loadB l = false ∧ e = .returned (.tuple #[.pointer none, .pointer none, .bool true]) ∧ Mem w w' L)
theorem splice2_len {C : List Value} {q n : Nat} (a b : Value) (hC : C.length = n * 2) (hq : q < n) : (C.take (q * 2) ++ [a, b] ++ C.drop (q * 2 + 2)).length = n * 2 := by
  simp only [List.length_append, List.length_take, List.length_drop, List.length_cons, List.length_nil, hC]; omega
theorem splice2_le {C : List Value} {q n : Nat} {a b : Value} (hC : C.length = n * 2) (hq : q < n) : q * 2 + [a, b].length ≤ C.length := by
  rw [hC]; simp only [List.length_cons, List.length_nil]; omega
theorem splice1_len {C : List Value} {q n : Nat} (a : Value) (hC : C.length = n) (hq : q < n) : (C.take q ++ [a] ++ C.drop (q + 1)).length = n := by
  simp only [List.length_append, List.length_take, List.length_drop, List.length_cons, List.length_nil, hC]; omega
theorem splice1_le {C : List Value} {q n : Nat} {a : Value} (hC : C.length = n) (hq : q < n) : q + [a].length ≤ C.length := by
  rw [hC]; simp only [List.length_cons, List.length_nil]; omega
theorem both_ok (w0 w : World) (L : List Chunk) (hm : Mem w0 w L) (b s : Int) (hb : b ≤ 9223372036854775807) (hs : s ≤ 9223372036854775807) (A : Option Addr) (n c : Nat) (xs : List RO) (hx : Fact (ObsR w A n c xs)) (hn : n ≤ 1048576)
    (hsz : Fact (∀ x, x ∈ xs → x.ob.items.length ≤ 1048576 ∧ x.ob.keys.length ≤ 1048576)) (hwf : Fact (∀ x, x ∈ xs → (∀ k, k ∈ x.ob.keys → (Lit.int .i64 k).wf = true) ∧ ∀ v, v ∈ x.ob.items → -9223372036854775808 ≤ v.2 ∧ v.2 ≤ 9223372036854775807)) :
    Calls Tryz.prog 8 #[.agg (stC b s A n c).toArray] w fun e w' => TwoQ w0 L (max b 0) (max s 0) (xs.map (·.ob)) e w' := by
  obtain ⟨iO, hiO, oz0, oz1, oz2⟩ := info_parts inf_O
  obtain ⟨iS, hiS, sz0, sz1, sz2⟩ := info_parts inf_Vs
  have hl := Fact.mk hx.out.len
  have hrl := fun (W : World) (M : List Chunk) (hg : Mem w W M) => refLoad_ok w W M hg b s hb hs A n c xs ⟨hx.out.gr hg.below⟩ (by omega) hsz.out (fun x hxm => (hwf.out x hxm).2)
  have hpl := fun (W : World) (M : List Chunk) (hg : Mem w W M) (Ai : Option Addr) (ci : Nat) (ys : List RO) (hys : ys.map (·.ob) = xs.map (·.ob)) (hyr : ObsR W Ai n ci ys) => load_ok w W M hg b s hb hs Ai n ci ys ⟨hyr⟩ (by omega)
    (fun y hy => by
      have : y.ob ∈ xs.map (·.ob) := by rw [← hys]; exact List.mem_map_of_mem hy
      obtain ⟨x, hx1, hx2⟩ := List.mem_map.1 this
      rw [← hx2]; exact hsz.out x hx1)
    (fun y hy => by
      have : y.ob ∈ xs.map (·.ob) := by rw [← hys]; exact List.mem_map_of_mem hy
      obtain ⟨x, hx1, hx2⟩ := List.mem_map.1 this
      rw [← hx2]; exact (hwf.out x hx1).1)
  have hfin : Fact (∀ e w', TwoQ w [] (max b 0) (max s 0) (xs.map (·.ob)) e w' → TwoQ w0 L (max b 0) (max s 0) (xs.map (·.ob)) e w') := ⟨fun e w' h => by
    rcases h with ⟨h1, h, r, h2, h3, h4, h5, h6, h7⟩ | ⟨h1, h2, h3⟩
    · exact .inl ⟨h1, h, r, h2, h3, h4, h5, h6, hm.join h7⟩
    · exact .inr ⟨h1, h2, hm.gr h3.below⟩⟩
  refine Calls.mono (R := fun e w' => TwoQ w [] (max b 0) (max s 0) (xs.map (·.ob)) e w') ?_ hfin.out
  clear hfin hm
  replace hrl := Fact.mk hrl
  replace hpl := Fact.mk hpl
  have hx1 := (Mem.start w).alloc (.cells (stC b s A n c).toArray 24)
  unfold stC at hx1 ⊢
  go_enter Tryz.func8, Tryz.ntmps8
  go_upto_region 1 with (fail)
  generalize hgb : w.heap.size = gb at hx1 ⊢
  generalize hw1 : w.alloc (.cells [.int .i64 b, .int .i64 s, .slice A n c].toArray 24) = w1 at hx1
  try refine wp_world hw1 ?_
  clear hw1 hgb
  have s0 := hx1.cell m0 0 rfl
  have s1 := hx1.cell m0 1 rfl
  have s2 := hx1.cell m0 2 rfl
  go_wp2_with fail
  refine (hrl.out w1 _ hx1).mono ?_
  intro e w2 hq
  obtain ⟨may, rv, X, rfl, hmay, hm2⟩ : ∃ (may : Bool) (rv : Value) (X : List Chunk), e = .returned (.tuple #[rv, .bool may]) ∧ Fact (may = loadB (xs.map (·.ob)) ∧ ((may = true ∧ ∃ r : Rf, r.abs = ⟨max b 0, max s 0, xs.map (·.ob)⟩ ∧ r.Ok ∧ rv = .pointer (some ⟨r.g, 0, none⟩) ∧ X = [RfC r]) ∨ (may = false ∧ rv = .pointer none ∧ X = []))) ∧ Mem w w2 (Blk gb (.cells [.int .i64 b, .int .i64 s, .slice A n c].toArray 24) :: X) := by
    rcases hq with ⟨h1, r, h2, h3, rfl, h4⟩ | ⟨h1, rfl, h4⟩
    · exact ⟨true, _, [RfC r], rfl, ⟨h1.symm, .inl ⟨rfl, r, h2, h3, rfl, rfl⟩⟩, h4.swap⟩
    · exact ⟨false, _, [], rfl, ⟨h1.symm, .inr ⟨rfl, rfl, rfl⟩⟩, h4⟩
  clear hq hrl hx1 s0 s1 s2
  go_wp2
  go_loopw [7, 8, 9] (fun s7 s8 s9 W => ∃ (k : Nat) (Ai : Option Addr) (ci : Nat) (Ar : Option Addr) (cr : Nat) (ys : List RO), s9 = .int .i64 k ∧ k ≤ n ∧ s7 = .slice Ai k ci ∧ s8 = .slice Ar k cr ∧ Fact (ys.map (·.ob) = (xs.take k).map (·.ob)) ∧ Mem w W (Own 6 (.slice Ai k ci) (ys.flatMap cRO) :: Own 1 (.slice Ar k cr) (ys.map roomV) :: (ys.map LentC ++ (Blk gb (.cells [.int .i64 b, .int .i64 s, .slice A n c].toArray 24) :: X)))) (fun _ _ s9 _ => n - (intOf s9).toNat)
  case atStart => exact ⟨0, none, 0, none, 0, [], rfl, by omega, rfl, rfl, ⟨rfl⟩, Mem.nil (Mem.nil hm2 1 none) 6 none⟩
  case round =>
    obtain ⟨k, Ai, ci, Ar, cr, ys, rfl, hk, rfl, rfl, hys, hmr⟩ := hrel
    clear hm2
    have s2 := hmr.cell (.tail _ (.tail _ (List.mem_append_right _ (.head _)))) 2 rfl
    by_cases hlt : k < n
    · obtain ⟨bb, o, hA, hc, hkl, hrd⟩ := (hx.out.gr hmr.below).at k hlt
      have hszx := hsz.out _ (getD_mem xs k ro0 hkl)
      have htk : xs.take (k + 1) = xs.take k ++ [xs.getD k ro0] := by rw [List.take_succ_eq_append_getElem hkl]; simp [hkl]
      have hcells : Fact (∀ W, Gr w W → W.cell? ⟨bb, o + k * 6 + 2, none⟩ = some (.slice (xs.getD k ro0).KA (xs.getD k ro0).ob.keys.length (xs.getD k ro0).kc) ∧ (xs.getD k ro0).reads W) := ⟨fun W hW => by
        obtain ⟨bb', o', hA', hc', _, hrd'⟩ := (hx.out.gr hW).at k hlt
        rw [hA] at hA'
        cases hA'
        exact ⟨hc' 2 _ rfl, hrd'⟩⟩
      generalize xs.getD k ro0 = x at hc hrd hszx htk hcells
      rw [hA] at s2
      replace hc := Fact.mk hc
      replace htk := Fact.mk htk
      replace hA := Fact.mk hA
      go_upto_region 8 with (first | (refine wp_rng rfl 41 _ rfl bb (o + k * 6) rfl (cRO x) hc.out row_O sz_O ?_) | (refine wp_setrow rfl 41 _ _ rfl wr.heap.size rfl 41 _ (cRO x) rfl (hmr.alloc (.cells (obC 0 none 0 0 none 0 0 0 0 false).toArray 41)) sz_O rfl (cRO_one x) ?_; intro w5 hm5))
      generalize wr.heap.size = g10 at hm5 ⊢
      clear hmr s2
      have z1 := hm5.cell m0 1 rfl
      go_wp2_with fail
      refine (lentValues_ok w5 x.A x.ob.items.length x.c x.ob.items ⟨(hcells.out w5 hm5.below).2.1⟩ (by omega)).mono ?_
      rintro e w6 ⟨B, d, rfl, hn6⟩
      have hm6 := hm5.new hn6
      clear hm5 hn6 z1 hrd
      have hcap := OwnAt.cap (hm6.ok _ m0)
      have hcap1 : x.ob.items.length ≤ d := by omega
      obtain ⟨bg, bo, hB⟩ := OwnAt.addr (hm6.ok _ m0) (by omega)
      subst hB
      have z1 := hm6.cell m1 1 rfl
      go_upto_region 11 with (first | (at_builtin; refine wp_app rfl _ _ _ rfl 36 iS _ 1 24 ty_VVs hiS sz0 sz1 sz2 rfl Ar k cr _ rfl (hm6.alloc _).pull4 _ 1 1 [.slice (some ⟨bg, bo, none⟩) (x.ob.items.length + 64) d] rfl (RdC.lit _ _ _ _ _ rfl (by simp [maxLen]) (one_one rfl)) (by unfold maxLen; omega) (by omega) ?_; intro A7 c7 w7 HM7; have hm7 := HM7.drop2.pull2; have z7 := hm7.cell m0 1 rfl) | (refine wp_setat rfl 36 _ _ rfl g10 1 rfl 41 _ [.slice (some ⟨bg, bo, none⟩) x.ob.items.length d] (obC x.ob.kind (some ⟨bg, bo, none⟩) x.ob.items.length d x.KA x.ob.keys.length x.kc x.ob.fn x.ob.cap x.ob.shut) (.slice (some ⟨bg, bo, none⟩) x.ob.items.length d) rfl rfl hm7 sz_Vs (by simp [cRO, obC]) (one_one rfl) rfl ?_; intro w8 hm8))
      clear HM7 hm6 hm7 z1 z7
      have s2 := hm8.cell (.tail _ (.tail _ (.tail _ (.tail _ (List.mem_append_right _ (.head _)))))) 2 rfl
      rw [hA.out] at s2
      have f2 := (hcells.out w8 hm8.below).1
      go_wp2_with fail
      refine (copyLongs_ok w8 x.KA x.ob.keys.length x.kc x.ob.keys ⟨(hcells.out w8 hm8.below).2.2⟩ (by omega)).mono ?_
      rintro e w9 ⟨K9, c9, rfl, hn9⟩
      have hm9 := hm8.new hn9
      clear hm8 hn9 s2 f2
      obtain ⟨y, hy⟩ : ∃ y : RO, y = ⟨some ⟨bg, bo, none⟩, d, K9, c9, x.ob⟩ := ⟨_, rfl⟩
      have hyc : obC x.ob.kind (some ⟨bg, bo, none⟩) x.ob.items.length d K9 x.ob.keys.length c9 x.ob.fn x.ob.cap x.ob.shut = cRO y := by rw [hy]; rfl
      go_upto_region 12 with (refine wp_setat rfl 39 _ _ rfl g10 2 rfl 41 _ [.slice K9 x.ob.keys.length c9] (obC x.ob.kind (some ⟨bg, bo, none⟩) x.ob.items.length d K9 x.ob.keys.length c9 x.ob.fn x.ob.cap x.ob.shut) (.slice K9 x.ob.keys.length c9) rfl rfl hm9.swap sz_Is (by simp [obC]) (one_one rfl) rfl ?_; intro w10 hm10)
      clear hm9
      go_wp2_with (first | (refine wp_rng rfl 41 _ rfl g10 0 rfl [.int .i64 x.ob.kind, .slice (some ⟨bg, bo, none⟩) x.ob.items.length d, .slice K9 x.ob.keys.length c9, .int .i64 x.ob.fn, .int .i64 x.ob.cap, .bool x.ob.shut] (rng_blk hm10 m0) row_O sz_O ?_) | (at_builtin; refine wp_app rfl _ _ _ rfl 41 iO _ 6 80 ty_Os hiO oz0 oz1 oz2 rfl Ai k ci _ rfl (hm10.alloc _).pull5 _ 1 1 [.int .i64 x.ob.kind, .slice (some ⟨bg, bo, none⟩) x.ob.items.length d, .slice K9 x.ob.keys.length c9, .int .i64 x.ob.fn, .int .i64 x.ob.cap, .bool x.ob.shut] rfl (RdC.lit _ _ _ _ _ rfl (by simp [maxLen]) (obC_one _ _ _ _ _ _ _ _ _ _)) (by unfold maxLen; omega) (by omega) ?_; intro A11 c11 w11 HM11))
      have hz : Mem w w11 (Own 6 (.slice A11 (k + 1) c11) ((ys ++ [y]).flatMap cRO) :: Own 1 (.slice A7 (k + 1) c7) ((ys ++ [y]).map roomV) :: ((ys ++ [y]).map LentC ++ (Blk gb (.cells [.int .i64 b, .int .i64 s, .slice A n c].toArray 24) :: X))) := by
        have h1 := HM11.drop2.drop2
        have e1 : (ys ++ [y]).flatMap cRO = ys.flatMap cRO ++ cRO y := by simp
        have e2 : (ys ++ [y]).map roomV = ys.map roomV ++ [.slice (some ⟨bg, bo, none⟩) (x.ob.items.length + 64) d] := by rw [List.map_append, hy]; rfl
        have e3 : (ys ++ [y]).map LentC ++ (Blk gb (.cells [.int .i64 b, .int .i64 s, .slice A n c].toArray 24) :: X) = ys.map LentC ++ LentC y :: (Blk gb (.cells [.int .i64 b, .int .i64 s, .slice A n c].toArray 24) :: X) := by simp
        rw [e1, e2, e3, ← hyc]
        have h4 : Mem w w11 (LentC y :: Own 6 (.slice A11 (k + 1) c11) (ys.flatMap cRO ++ obC x.ob.kind (some ⟨bg, bo, none⟩) x.ob.items.length d K9 x.ob.keys.length c9 x.ob.fn x.ob.cap x.ob.shut) :: Own 1 (.slice A7 (k + 1) c7) (ys.map roomV ++ [.slice (some ⟨bg, bo, none⟩) (x.ob.items.length + 64) d]) :: (ys.map LentC ++ (Blk gb (.cells [.int .i64 b, .int .i64 s, .slice A n c].toArray 24) :: X))) := by
          have h5 := h1.pull3.perm ((List.Perm.swap _ _ _).cons _)
          rw [hy]
          exact Mem.sht [Own 2 (roomV ⟨some ⟨bg, bo, none⟩, d, K9, c9, x.ob⟩) (fV (x.ob.items ++ marksV 64)), Own 1 (.slice K9 x.ob.keys.length c9) (nums .i64 x.ob.keys)] h5
        exact h4.back2.perm ((List.perm_middle.symm.cons _).cons _)
      go_roundw
      case rel => exact ⟨k + 1, A11, c11, A7, c7, ys ++ [y], by go_num, by omega, rfl, rfl, ⟨by rw [htk.out, List.map_append, List.map_append, hys.out, hy]; rfl⟩, hz⟩
      case measure => exact measP_lt hlt
    · obtain rfl : k = n := by omega
      rw [List.take_of_length_le (by rw [hl.out]; exact Nat.le_refl _)] at hys
      have hyl : ys.length = k := by rw [← hl.out]; have := congrArg List.length hys.out; simpa using this
      have hld := hpl.out wr _ hmr Ai ci ys hys.out ⟨hmr.rd m0, fun y hy => LentC.reads (hmr.ok _ (.tail _ (.tail _ (List.mem_append_left _ (List.mem_map_of_mem hy)))))⟩
      rw [hys.out] at hld
      replace hld := Fact.mk hld
      have s0 := hmr.cell (.tail _ (.tail _ (List.mem_append_right _ (.head _)))) 0 rfl
      have s1 := hmr.cell (.tail _ (.tail _ (List.mem_append_right _ (.head _)))) 1 rfl
      go_wp2_with fail
      refine hld.out.mono ?_
      intro e w12 hq
      clear hld hpl s0 s1 s2
      have hmay2 := hmay.out.1
      obtain ⟨hv, Y, rfl, hhv, hm13⟩ : ∃ (hv : Value) (Y : List Chunk), e = .returned (.tuple #[hv, .bool may]) ∧ Fact ((may = true ∧ ∃ h : Hp, h.abs = ⟨max b 0, max s 0, xs.map (·.ob)⟩ ∧ h.Ok ∧ hv = .pointer (some ⟨h.g, 0, none⟩) ∧ Y = [HpC h]) ∨ (may = false ∧ hv = .pointer none ∧ Y = [])) ∧ Mem w w12 (Own 6 (.slice Ai k ci) (ys.flatMap cRO) :: Own 1 (.slice Ar k cr) (ys.map roomV) :: (ys.map LentC ++ (Blk gb (.cells [.int .i64 b, .int .i64 s, .slice A k c].toArray 24) :: (Y ++ X)))) := by
        rcases hq with ⟨h1, h, h2, h3, rfl, h4⟩ | ⟨h1, rfl, h4⟩
        · rw [load_eq] at h1
          rw [hmay2, h1]
          refine ⟨_, [HpC h], rfl, ⟨.inl ⟨rfl, h, h2, h3, rfl, rfl⟩⟩, ?_⟩
          exact mem_in2 h4
        · rw [load_eq] at h1
          rw [hmay2, h1]
          exact ⟨_, [], rfl, ⟨.inr ⟨rfl, rfl, rfl⟩⟩, h4⟩
      clear hmr hq
      have hneq : ∀ W, (binOp .neq 26 hv (.pointer none)).run Tryz.prog W = .ok (.bool may) W := by
        rcases hhv.out with ⟨h1, h, _, _, h2, _⟩ | ⟨h1, h2, _⟩ <;> rw [h1, h2] <;> intro W <;> first | rfl | kernel_rfl
      have hneg : ∀ (x y : Operand) W, (eqGuard .neq 26 x y hv (.pointer none)).run Tryz.prog W = .ok () W := by
        rcases hhv.out with ⟨h1, h, _, _, h2, _⟩ | ⟨h1, h2, _⟩ <;> rw [h2] <;> intro x y W <;> first | rfl | kernel_rfl
      have s2 := hm13.cell (.tail _ (.tail _ (List.mem_append_right _ (.head _)))) 2 rfl
      replace hyl := Fact.mk hyl
      replace hmay2 := Fact.mk hmay2
      have hobB : Fact (∀ y, y ∈ ys → y.ob.items.length ≤ 1048576 ∧ y.ob.keys.length ≤ 1048576) := ⟨fun y hy => by
        have : y.ob ∈ xs.map (·.ob) := by rw [← hys.out]; exact List.mem_map_of_mem hy
        obtain ⟨x, hx1, hx2⟩ := List.mem_map.1 this
        rw [← hx2]; exact hsz.out x hx1⟩
      go_wp2_with fail
      refine (sameObjects_ok w12 Ai A k ci c ys xs ⟨⟨hm13.rd m0, fun y hy => LentC.reads (hm13.ok _ (.tail _ (.tail _ (List.mem_append_left _ (List.mem_map_of_mem hy)))))⟩⟩ ⟨hx.out.gr hm13.below⟩ ⟨hys.out⟩ ⟨fun y hy => by have := hobB.out y hy; omega⟩ (by omega)).mono ?_
      rintro e w14 ⟨rfl, hg14⟩
      have hm14 := hm13.gr hg14
      clear hm13 hg14 s2
      go_wp2
      clear hneq hneg
      go_loopw [14] (fun s14 W => ∃ (i : Nat) (zs : List RO), s14 = .int .i64 i ∧ i ≤ k ∧ Fact (zs.length = k ∧ ∀ j, i ≤ j → zs.getD j ro0 = ys.getD j ro0) ∧ Mem w W (Own 6 (.slice Ai k ci) (zs.flatMap cRO) :: Own 1 (.slice Ar k cr) (ys.map roomV) :: ((ys.drop i).map LentC ++ (Blk gb (.cells [.int .i64 b, .int .i64 s, .slice A k c].toArray 24) :: (Y ++ X))))) (fun s14 _ => k - (intOf s14).toNat)
      case atStart => exact ⟨0, ys, rfl, by omega, ⟨hyl.out, fun _ _ => rfl⟩, hm14⟩
      case round =>
        obtain ⟨i, zs, rfl, hi, hzs, hmq⟩ := hrel
        clear hm14
        by_cases hit : i < k
        · have hyi : i < ys.length := by rw [hyl.out]; exact hit
          have hdr : ys.drop i = ys.getD i ro0 :: ys.drop (i + 1) := by rw [List.drop_eq_getElem_cons hyi]; simp [hyi]
          rw [hdr, List.map_cons, List.cons_append] at hmq
          have hzi := hzs.out.2 i (Nat.le_refl _)
          have hyx : (xs.getD i ro0).ob = (ys.getD i ro0).ob := by
            have h := congrArg (fun l => l.getD i ob0) hys.out
            simpa [hyi, show i < xs.length by rw [hl.out]; exact hit] using h.symm
          obtain ⟨bx, ox, hA, hcx, hxl, hrx⟩ := (hx.out.gr hmq.below).at i hit
          have hbd := hobB.out _ (getD_mem ys i ro0 hyi)
          obtain ⟨br, orr, c0, hAr, h1, h2, _⟩ := (hmq.rd m1).at1 i hit
          have h3 : c0 = roomV (ys.getD i ro0) := by
            rw [List.getElem?_map, List.getElem?_eq_getElem hyi] at h2
            simpa [hyi] using h2.symm
          have hz30 : ∀ y', (∀ j, i + 1 ≤ j → (zs.set i y').getD j ro0 = ys.getD j ro0) := fun y' j hj => by
            rw [← hzs.out.2 j (by omega), List.getD_eq_getElem?_getD, List.getElem?_set_ne (by omega), ← List.getD_eq_getElem?_getD]
          generalize ys.getD i ro0 = y at hmq hzi hyx hbd h3
          generalize xs.getD i ro0 = x at hyx hcx hrx
          rw [h3] at h1
          have f1 : wr.cell? ⟨bx, ox + i * 6 + 1, none⟩ = some (.slice x.A y.ob.items.length x.c) := by rw [← hyx]; exact hcx 1 _ rfl
          have hrx1 : RdC wr 2 (.slice x.A y.ob.items.length x.c) (fV y.ob.items) := by rw [← hyx]; exact hrx.1
          have s2 := hmq.cell (.tail _ (.tail _ (.tail _ (List.mem_append_right _ (.head _))))) 2 rfl
          rw [hA] at s2
          replace hA := Fact.mk hA
          replace hAr := Fact.mk hAr
          replace hz30 := Fact.mk hz30
          replace hzi := Fact.mk hzi
          unfold roomV at h1
          rw [hAr.out]
          clear hcx hrx hxl h2 h3 hyx hdr
          go_wp2_with fail
          refine (keptValues_ok wr y.A y.ob.items.length y.c x.A x.c y.ob.items ⟨LentC.room (hmq.ok _ m2)⟩ ⟨hrx1⟩ (by omega)).mono ?_
          rintro e w16 ⟨rfl, hg16⟩
          have hm17 := (hmq.gr hg16).pull2
          clear hmq hg16 s2 f1 h1 hrx1
          obtain ⟨Z, hZ⟩ : ∃ Z, Z = Own 6 (.slice Ai k ci) (zs.flatMap cRO) :: Own 1 (.slice Ar k cr) (ys.map roomV) :: ((ys.drop (i + 1)).map LentC ++ (Blk gb (.cells [.int .i64 b, .int .i64 s, .slice A k c].toArray 24) :: (Y ++ X))) := ⟨_, rfl⟩
          have hm18 : Mem w w16 (Own 2 (.slice y.A (y.ob.items.length + 64) y.c) (fV (y.ob.items ++ marksV 64)) :: Own 1 (.slice y.KA y.ob.keys.length y.kc) (nums .i64 y.ob.keys) :: Z) := by rw [hZ]; exact Mem.opn hm17
          clear hm17
          have hcap := OwnAt.cap (hm18.ok _ m0)
          obtain ⟨bg, bo, hB⟩ := OwnAt.addr (hm18.ok _ m0) (by omega)
          rw [hB] at hm18
          have hCl : (fV (y.ob.items ++ marksV 64)).length = (y.ob.items.length + 64) * 2 := OwnAt.len (hm18.ok _ m0)
          rw [hB]
          clear hB
          generalize fV (y.ob.items ++ marksV 64) = C0 at hm18 hCl
          go_wp2
          go_loopw [16] (fun s16 W => ∃ (q : Nat) (C : List Value), s16 = .int .i64 q ∧ q ≤ y.ob.items.length + 64 ∧ C.length = (y.ob.items.length + 64) * 2 ∧ Mem w W (Own 2 (.slice (some ⟨bg, bo, none⟩) (y.ob.items.length + 64) y.c) C :: Own 1 (.slice y.KA y.ob.keys.length y.kc) (nums .i64 y.ob.keys) :: Z)) (fun s16 _ => y.ob.items.length + 64 - (intOf s16).toNat)
          case atStart => exact ⟨0, C0, rfl, by omega, hCl, hm18⟩
          case round =>
            obtain ⟨q, C, rfl, hq, hC, hmw⟩ := hrel
            clear hm18 hCl
            by_cases hqt : q < y.ob.items.length + 64
            · have hC' := Fact.mk (splice2_len (.int .i64 77) (.int .i64 5) hC hqt)
              have hq2 := Fact.mk (splice2_le (a := .int .i64 77) (b := .int .i64 5) hC hqt)
              replace hC := Fact.mk hC
              go_wp2_with (refine wp_ownrow rfl 35 _ _ rfl (bo + q * 2) (q * 2) rfl rfl [.int .i64 77, .int .i64 5] rfl hmw sz_V hq2.out (cV_one (77, 5)) ?_; intro w19 hm19)
              go_roundw
              case rel => exact ⟨q + 1, _, by go_num, hqt, hC'.out, hm19⟩
              case measure => exact measP_lt hqt
            · have hqf : ((q : Int) < (y.ob.items.length : Int) + 64) = False := eq_false (by omega)
              clear hq hqt
              have hm20 := hmw.tail
              clear hmw hC
              have hK0 : (nums .i64 y.ob.keys).length = y.ob.keys.length := by simp
              generalize nums .i64 y.ob.keys = K0 at hm20 hK0
              go_wp2
              clear hqf
              go_loopw [17] (fun s17 W => ∃ (p : Nat) (C : List Value), s17 = .int .i64 p ∧ p ≤ y.ob.keys.length ∧ C.length = y.ob.keys.length ∧ Mem w W (Own 1 (.slice y.KA y.ob.keys.length y.kc) C :: Z)) (fun s17 _ => y.ob.keys.length - (intOf s17).toNat)
              case atStart => exact ⟨0, K0, rfl, by omega, hK0, hm20⟩
              case round =>
                obtain ⟨p, C, rfl, hq, hC, hmv⟩ := hrel
                clear hm20 hK0
                rw [hZ] at hmv
                obtain ⟨bi, oi, hAi, hci, _, _⟩ := rd_at cRO_len (by omega) ro0 (hmv.rd m1) i hit
                rw [hzi.out] at hci
                have f2 : wr.cell? ⟨bi, oi + i * 6 + 2, none⟩ = some (.slice y.KA y.ob.keys.length y.kc) := hci 2 _ rfl
                clear hci
                by_cases hqt : p < y.ob.keys.length
                · have hq2 := Fact.mk (splice1_le (a := .int .i64 (1000 - (p : Int))) hC hqt)
                  have hC' := Fact.mk (splice1_len (.int .i64 (1000 - (p : Int))) hC hqt)
                  have hq5 : (p : Int) ≤ 1048576 := by have := hbd.2; omega
                  have hcap2 := OwnAt.cap (hmv.ok _ m0)
                  obtain ⟨bk, ok, hKA⟩ := OwnAt.addr (hmv.ok _ m0) (by omega)
                  rw [hKA] at hmv f2
                  replace hKA := Fact.mk hKA
                  clear hcap2 hC
                  rw [hAi]
                  replace hAi := Fact.mk hAi
                  go_wp2_with (refine wp_ownat rfl 2 _ _ rfl (ok + p) p rfl rfl [.int .i64 (1000 - (p : Int))] _ rfl rfl hmv sz_i64 hq2.out (one_one rfl) ?_; intro w21 hm21)
                  try rw [← hAi.out]
                  go_roundw
                  case rel => exact ⟨p + 1, _, by go_num, hqt, hC'.out, by rw [hZ, hKA.out]; exact hm21⟩
                  case measure => exact measP_lt hqt
                · obtain rfl : p = y.ob.keys.length := by omega
                  have hmu := hmv.tail
                  clear hmv hC
                  rw [hAi] at hmu
                  obtain ⟨y', hy'⟩ : ∃ y' : RO, y' = { y with ob := { y.ob with kind := 77 } } := ⟨_, rfl⟩
                  have hfs := flat_set zs i (by rw [hzs.out.1]; exact hit) y' 0 [.int .i64 77] (by simp) (by rw [hzi.out, hy']; rfl)
                  replace hfs := Fact.mk hfs
                  have hfl := Fact.mk (show i * 6 + 0 + [(.int .i64 77 : Value)].length ≤ (zs.flatMap cRO).length by rw [flat_len, hzs.out.1]; simp only [List.length_singleton]; omega)
                  rw [hAi]
                  replace hAi := Fact.mk hAi
                  clear hy'
                  go_wp2_with (refine wp_ownat rfl 3 _ _ rfl (oi + i * 6) (i * 6 + 0) rfl rfl [.int .i64 77] _ rfl rfl hmu sz_int hfl.out (one_one rfl) ?_; intro w22 hm22)
                  try rw [← hAi.out]
                  try rw [← hAr.out]
                  go_roundw
                  case rel => exact ⟨i + 1, zs.set i y', by go_num, hit, ⟨by rw [List.length_set]; exact hzs.out.1, hz30.out y'⟩, by rw [← hfs.out, hAi.out]; exact hm22⟩
                  case measure => exact measP_lt hit
        · obtain rfl : i = k := by omega
          rw [List.drop_of_length_le (by rw [hyl.out]; exact Nat.le_refl _)] at hmq
          have hmz : Mem w wr (Y ++ X) := hmq.tail.tail.tail
          clear hmq
          rcases hhv.out with ⟨h1, h, ha, hok, h2, h3⟩ | ⟨h1, h2, h3⟩
          · rcases hmay.out.2 with ⟨_, r, hra, rok, h5, h6⟩ | ⟨h4, _⟩
            · rw [h3, h6] at hmz
              rw [h1, h2, h5]
              have hmb : loadB (xs.map (·.ob)) = true := by rw [← hmay2.out, h1]
              have habs : r.abs = h.abs := by rw [ha, hra]
              have hal := alike_ok w wr [] h r hmz ⟨hok⟩ ⟨rok⟩ ⟨by rw [habs]⟩ (congrArg Hs.spent habs)
              replace hal := Fact.mk hal
              replace hmb := Fact.mk hmb
              replace ha := Fact.mk ha
              replace habs := Fact.mk habs
              clear h1 h2 h3 h5 h6 hra hmay hmay2 hhv
              go_wp2_with fail
              refine hal.out.mono ?_
              rintro e w30 ⟨rfl, hm30⟩
              go_wp2
              go_ret3
              exact .inl ⟨hmb.out, h, r, ha.out, habs.out, hok, rok, rfl, hm30⟩
            · rw [h1] at h4; cases h4
          · rw [h1]
            have hmb : Fact (loadB (xs.map (·.ob)) = false) := ⟨by rw [← hmay2.out, h1]⟩
            rcases hmay.out.2 with ⟨h4, _⟩ | ⟨_, h5, h6⟩
            · rw [h1] at h4; cases h4
            · rw [h3, h6] at hmz
              clear h1 h2 h3 h5 h6 hmay hmay2 hhv
              go_wp2
              go_ret3
              exact .inr ⟨hmb.out, rfl, hmz⟩
end Go.Proofs.YtpibchjkmaghnaaGreat
namespace Go.Proofs.YtpibchjkmaghnaaGreat
open Go.RowKit Go.Mm Go.WideShapes Go.ChangeShapes
set_option maxHeartbeats 1000000
set_option maxRecDepth 100000
theorem struct_of {P : Program} {t : TypeId} {fl : List (TypeId × Nat)} (h : fieldsOf P t = some fl) : ∃ fs, P.underlying t = some (.struct fs) := by
  unfold fieldsOf at h
  split at h
  · rename_i fs hfs; exact ⟨fs, hfs⟩
  · cases h
theorem wf_rng {n : Int} (h : (Lit.int .i64 n).wf = true) : -9223372036854775808 ≤ n ∧ n ≤ 9223372036854775807 := by
  simpa [Lit.wf, IntKind.has, IntKind.min, IntKind.max, IntKind.signed, IntKind.bits] using h
def cN (k : Int) : List Value := [.int .i64 k]
theorem flat_nums (ks : List Int) : ks.flatMap cN = nums .i64 ks := by
  induction ks with
  | nil => rfl
  | cons a ks ih => rw [List.flatMap_cons, ih]; rfl
theorem list6 {α : Type} {l : List α} (h : l.length = 6) : ∃ a b c d e f, l = [a, b, c, d, e, f] := by
  match l with
  | [a, b, c, d, e, f] => exact ⟨a, b, c, d, e, f, rfl⟩
section
variable {H : Type} {enc : TypeId × Value → H} {w : World}
theorem fl_O : fieldsOf Tryz.prog 41 = some [(3, 0), (36, 1), (39, 2), (3, 3), (3, 4), (4, 5)] := by kernel_rfl
theorem fl_ST : fieldsOf Tryz.prog 24 = some [(3, 0), (3, 1), (22, 2)] := by kernel_rfl
theorem co_Is : Tryz.prog.cellsOf 39 = 1 := by kernel_rfl
theorem co_O : Tryz.prog.cellsOf 41 = 6 := by kernel_rfl
theorem co_Os : Tryz.prog.cellsOf 22 = 1 := by kernel_rfl
theorem co_bool : Tryz.prog.cellsOf 4 = 1 := by kernel_rfl
theorem co_ST : Tryz.prog.cellsOf 24 = 3 := by kernel_rfl
theorem hel_Vw (fuel : Nat) (cs : List Value) (d : DataW H) (ps : List MemPlace) (h : DataW.trod enc Tryz.prog w 0 (fun _ => true) true fuel 35 cs = some (d, ps)) : ∃ x, cs = cV x ∧ (Lit.int .i64 x.2).wf = true := by
  obtain ⟨xs, n, rfl, hl, hx, hi⟩ := open_struct fl_V h
  rw [co_V] at hl
  obtain ⟨a, b, rfl⟩ := list2 hl
  obtain ⟨⟨d1, p1⟩, ⟨d2, p2⟩, rfl⟩ := list2 hx
  have h1 := hi 0 _ _ rfl
  have h2 := hi 1 _ _ rfl
  rw [co_int] at h1
  rw [co_i64] at h2
  obtain ⟨x, rfl, _⟩ := open_i ty_int h1
  obtain ⟨y, rfl, _, hw⟩ := open_i ty_i64 h2
  exact ⟨(x, y), rfl, hw⟩
theorem hel_N (fuel : Nat) (cs : List Value) (d : DataW H) (ps : List MemPlace) (h : DataW.trod enc Tryz.prog w 0 (fun _ => true) true fuel 2 cs = some (d, ps)) : ∃ x, cs = cN x ∧ (Lit.int .i64 x).wf = true := by
  obtain ⟨n, rfl, _, hw⟩ := DataW.trod_int ty_i64 h
  exact ⟨n, rfl, hw⟩
/-- What is known of an object that came in. -/
def InOk (w : World) (b : Nat) (x : RO) : Prop := x.reads w ∧ x.ob.items.length + 2 ≤ b ∧ x.ob.keys.length + 2 ≤ b ∧ (∀ k, k ∈ x.ob.keys → (Lit.int .i64 k).wf = true) ∧ ∀ v, v ∈ x.ob.items → -9223372036854775808 ≤ v.2 ∧ v.2 ≤ 9223372036854775807
theorem hel_O (fuel : Nat) (cs : List Value) (d : DataW H) (ps : List MemPlace) (h : DataW.trod enc Tryz.prog w 0 (fun _ => true) true fuel 41 cs = some (d, ps)) : ∃ x, cs = cRO x ∧ InOk w (Rows.uptoBulk d) x := by
  obtain ⟨xs, n, rfl, hl, hx, hi⟩ := open_struct fl_O h
  rw [co_O] at hl
  obtain ⟨a, b, c, e, f, g, rfl⟩ := list6 hl
  obtain ⟨⟨d1, p1⟩, ⟨d2, p2⟩, ⟨d3, p3⟩, ⟨d4, p4⟩, ⟨d5, p5⟩, ⟨d6, p6⟩, rfl⟩ := list6 hx
  have h1 := hi 0 _ _ rfl
  have h2 := hi 1 _ _ rfl
  have h3 := hi 2 _ _ rfl
  have h4 := hi 3 _ _ rfl
  have h5 := hi 4 _ _ rfl
  have h6 := hi 5 _ _ rfl
  rw [co_int] at h1 h4 h5
  rw [co_Vs] at h2
  rw [co_Is] at h3
  rw [co_bool] at h6
  obtain ⟨x1, rfl, _⟩ := open_i ty_int h1
  obtain ⟨x4, rfl, _⟩ := open_i ty_int h4
  obtain ⟨x5, rfl, _⟩ := open_i ty_int h5
  obtain ⟨A, m, k, zs, e2, r2, l2, g2⟩ := open_cells (cV) (fun _ x => (Lit.int .i64 x.2).wf = true) 2 (by omega) ty_Vs co_V (fun x => ⟨cV_len x, cV_one x⟩) hel_Vw h2
  obtain ⟨B, m', k', us, e3, r3, l3, g3⟩ := open_cells (cN) (fun _ x => (Lit.int .i64 x).wf = true) 1 (by omega) ty_Is co_i64 (fun x => ⟨rfl, one_one rfl⟩) hel_N h3
  obtain ⟨x6, e6, _⟩ := DataW.trod_bool ty_bool h6
  replace e2 : [b] = [.slice A m k] := e2
  replace e3 : [c] = [.slice B m' k'] := e3
  replace e6 : [g] = [.bool x6] := e6
  simp only [List.cons.injEq, and_true] at e2 e3 e6
  subst e2 e3 e6
  subst l2 l3
  rw [flat_nums] at r3
  have b2 := cells_len g2
  have b3 := cells_len g3
  have q2 := bulk_part (d := d2) (xs := [d1, d2, d3, d4, d5, d6]) (by simp)
  have q3 := bulk_part (d := d3) (xs := [d1, d2, d3, d4, d5, d6]) (by simp)
  refine ⟨⟨A, k, B, k', ⟨x1, zs, us, x4, x5, x6⟩⟩, rfl, ⟨r2, r3⟩, ?_, ?_, fun z hz => (cells_each g3 hz).elim fun y hy => hy.1, fun v hv => wf_rng ((cells_each g2 hv).elim fun y hy => hy.1)⟩
  · show zs.length + 2 ≤ _; simp at q2 ⊢; omega
  · show us.length + 2 ≤ _; simp at q3 ⊢; omega
theorem hel_HOw (fuel : Nat) (cs : List Value) (d : DataW H) (ps : List MemPlace) (h : DataW.trod enc Tryz.prog w 0 (fun _ => true) true fuel 38 cs = some (d, ps)) : ∃ x, cs = cHO x ∧ (Lit.int .i64 x.I).wf = true := by
  obtain ⟨xs, n, rfl, hl, hx, hi⟩ := open_struct fl_HO h
  rw [co_HO] at hl
  obtain ⟨a, b, c, e, f, g, x, y, z, rfl⟩ := list9 hl
  obtain ⟨⟨d1, p1⟩, ⟨d2, p2⟩, ⟨d3, p3⟩, ⟨d4, p4⟩, ⟨d5, p5⟩, ⟨d6, p6⟩, ⟨d7, p7⟩, rfl⟩ := list7 hx
  have h1 := hi 0 _ _ rfl
  have h2 := hi 1 _ _ rfl
  have h3 := hi 2 _ _ rfl
  have h4 := hi 3 _ _ rfl
  have h5 := hi 4 _ _ rfl
  have h6 := hi 5 _ _ rfl
  have h7 := hi 6 _ _ rfl
  rw [co_int] at h1 h2 h6
  rw [co_V] at h3 h4
  rw [co_i64] at h5
  rw [co_Vs] at h7
  obtain ⟨x1, rfl, _⟩ := open_i ty_int h1
  obtain ⟨x2, rfl, _⟩ := open_i ty_int h2
  obtain ⟨x3, e3, _⟩ := hel_V _ _ _ _ h3
  obtain ⟨x4, e4, _⟩ := hel_V _ _ _ _ h4
  obtain ⟨x5, rfl, _, hw⟩ := open_i ty_i64 h5
  obtain ⟨x6, rfl, _⟩ := open_i ty_int h6
  obtain ⟨A, m, k, zs, e7, _, _, _⟩ := open_cells (cV) (fun _ _ => True) 2 (by omega) ty_Vs co_V (fun x => ⟨cV_len x, cV_one x⟩) hel_V h7
  replace e3 : [c, e] = cV x3 := e3
  replace e4 : [f, g] = cV x4 := e4
  replace e7 : [z] = [.slice A m k] := e7
  simp only [cV, List.cons.injEq, and_true] at e3 e4 e7
  obtain ⟨rfl, rfl⟩ := e3
  obtain ⟨rfl, rfl⟩ := e4
  subst e7
  exact ⟨⟨x1, x2, x3, x4, x5, x6, A, m, k, zs⟩, rfl, hw⟩
theorem hel_HO2 (fuel : Nat) (cs : List Value) (d : DataW H) (ps : List MemPlace) (h : DataW.trod enc Tryz.prog w 0 (fun _ => true) true fuel 38 cs = some (d, ps)) : ∃ x, cs = cHO x ∧ ((RdC w 2 (.slice x.A x.n x.c) (fV x.items) ∧ x.n + 2 ≤ Rows.uptoBulk d) ∧ (Lit.int .i64 x.I).wf = true) := by
  obtain ⟨x, hx, h1⟩ := hel_HO fuel cs d ps h
  obtain ⟨y, hy, h2⟩ := hel_HOw fuel cs d ps h
  rw [hx] at hy
  simp only [cHO, List.cons.injEq, Value.int.injEq, true_and] at hy
  refine ⟨x, hx, h1, ?_⟩
  rw [hy.2.2.2.2.2.2.1]
  exact h2
/-- A script that came in. -/
theorem open_script {v : Value} {d : DataW H} {p : List MemPlace} {base : Nat} (h : DataW.Trod enc Tryz.prog w 0 (fun _ => true) true 25 v d p) (ok : Value.okWide Tryz.prog w .any base 25 v) (hb : Rows.uptoBulk d ≤ 1048576) :
    ∃ (A : Option Addr) (n c : Nat) (ops : List HOp), v = .slice A n c ∧ RdC w 9 (.slice A n c) (ops.flatMap cHO) ∧ OpsOk w ops ∧ n + 1 ≤ Rows.uptoBulk d := by
  obtain ⟨A, n, c, xs, rfl, hr, hl, hd⟩ := open_list cHO (fun d x => (RdC w 2 (.slice x.A x.n x.c) (fV x.items) ∧ x.n + 2 ≤ Rows.uptoBulk d) ∧ (Lit.int .i64 x.I).wf = true) 9 (by omega) ty_HOs co_HO (fun x => ⟨cHO_len x, cHO_one x⟩) hel_HO2 h ok
  refine ⟨A, n, c, xs, rfl, hr, fun f hf => ?_, cells_len hd⟩
  obtain ⟨y, hy, hb'⟩ := cells_each hd hf
  exact ⟨hy.1.1, by have := hy.1.2; omega, hy.2⟩
/-- How a heap begins, as it came in. -/
structure StOk (w : World) (b s : Int) (A : Option Addr) (n c : Nat) (xs : List RO) : Prop where
  hb : b ≤ 9223372036854775807
  hs : s ≤ 9223372036854775807
  rd : ObsR w A n c xs
  hn : n ≤ 1048576
  sz : ∀ x, x ∈ xs → x.ob.items.length ≤ 1048576 ∧ x.ob.keys.length ≤ 1048576
  wf : ∀ x, x ∈ xs → (∀ k, k ∈ x.ob.keys → (Lit.int .i64 k).wf = true) ∧ ∀ v, v ∈ x.ob.items → -9223372036854775808 ≤ v.2 ∧ v.2 ≤ 9223372036854775807
theorem open_start {v : Value} {d : DataW H} {p : List MemPlace} {base : Nat} (h : DataW.Trod enc Tryz.prog w 0 (fun _ => true) true 24 v d p) (ok : Value.okWide Tryz.prog w .any base 24 v) (hb : Rows.uptoBulk d ≤ 1048576) :
    ∃ (b s : Int) (A : Option Addr) (n c : Nat) (xs : List RO), v = .agg (stC b s A n c).toArray ∧ StOk w b s A n c xs := by
  obtain ⟨fs, hfs⟩ := struct_of fl_ST
  obtain ⟨cs, rfl, hcs⟩ := okWide_struct hfs ok
  obtain ⟨fuel, hfu⟩ := h
  obtain ⟨xs, n, rfl, hl, hx, hi⟩ := open_struct fl_ST hfu
  rw [co_ST] at hl
  obtain ⟨a, b, c, e⟩ := list3 hl
  rw [e] at hi
  obtain ⟨⟨d1, p1⟩, ⟨d2, p2⟩, ⟨d3, p3⟩, rfl⟩ := list3 hx
  have h1 := hi 0 _ _ rfl
  have h2 := hi 1 _ _ rfl
  have h3 := hi 2 _ _ rfl
  rw [co_int] at h1 h2
  rw [co_Os] at h3
  obtain ⟨x1, rfl, _, hw1⟩ := open_i ty_int h1
  obtain ⟨x2, rfl, _, hw2⟩ := open_i ty_int h2
  obtain ⟨A, m, k, zs, e3, r3, l3, g3⟩ := open_cells (cRO) (fun d x => InOk w (Rows.uptoBulk d) x) 6 (by omega) ty_Os co_O (fun x => ⟨cRO_len x, cRO_one x⟩) hel_O h3
  have e6 : c = .slice A m k := by simpa using e3
  clear e3
  subst e6
  have b3 := cells_len g3
  have q3 := bulk_part (d := d3) (xs := [d1, d2, d3]) (by simp)
  simp only [List.map_cons, List.map_nil] at hb
  refine ⟨x1, x2, A, m, k, zs, ?_, ⟨(wf_rng hw1).2, (wf_rng hw2).2, ⟨r3, fun x hxm => ?_⟩, by omega, fun x hxm => ?_, fun x hxm => ?_⟩⟩
  · have : cs.toList = [.int .i64 x1, .int .i64 x2, .slice A m k] := by simpa [Value.cells] using e
    show Value.agg cs = Value.agg _
    congr 1
    exact Array.toList_inj.1 (by simpa [stC] using this)
  · exact (cells_each g3 hxm).elim fun y hy => hy.1.1
  · obtain ⟨y, hy, hb2⟩ := cells_each g3 hxm
    have h4 := hy.2.1
    have h5 := hy.2.2.1
    omega
  · exact (cells_each g3 hxm).elim fun y hy => hy.1.2.2.2
end
end Go.Proofs.YtpibchjkmaghnaaGreat
namespace Go.Proofs.YtpibchjkmaghnaaGreat
open Go.RowKit Go.Mm
theorem load_few {l : List Ob} (h : loadB l = true) (b s : Int) : (⟨b, s, l⟩ : Hs).Few := fun o ho => by
  have hr := List.all_eq_true.1 h o ho
  rw [refB_eq, Bool.and_eq_true, Bool.and_eq_true] at hr
  have hl := hr.2.1
  unfold limB at hl
  refine ⟨fun h9 => ?_, fun h7 => ?_⟩
  · simp only [h9, show ¬ (9 : Int) = 6 by decide, show ¬ (9 : Int) = 7 by decide, show ¬ (9 : Int) = 8 by decide, if_false, Bool.and_eq_true, decide_eq_true_eq] at hl
    exact hl.1.2
  · simp only [h7, show ¬ (7 : Int) = 6 by decide, if_false, if_true, decide_eq_true_eq] at hl
    exact hl
end Go.Proofs.YtpibchjkmaghnaaGreat
namespace Go.Proofs.YtpibchjkmaghnaaGreat
open Go.RowKit Go.Mm
set_option maxHeartbeats 1000000
set_option maxRecDepth 100000
/-- What values name and was not met yet is put behind what was met. -/
def meetL (l : List Ob) : List Nat → List V2 → List Nat
  | out, [] => out
  | out, v :: vs => match nm l v with
    | some i => if i ∈ out then meetL l out vs else meetL l (out ++ [i]) vs
    | none => meetL l out vs
/-- The list of what was met is gone through from number i. -/
def reachL (l : List Ob) : Nat → Nat → List Nat → List Nat
  | 0, _, out => out
  | f + 1, i, out => if i < out.length then reachL l f (i + 1) (meetL l out (l.getD (out.getD i 0) ob0).items) else out
def reachR (l : List Ob) (vs : List V2) : List Nat := reachL l (l.length + 1) 0 (meetL l [] vs)
/-- What is met: each once, each of an object. -/
def MetOk (l : List Ob) (out : List Nat) : Prop := out.Nodup ∧ ∀ i, i ∈ out → i < l.length
theorem nm_lt {l : List Ob} {v : V2} {i : Nat} (h : nm l v = some i) : i < l.length ∧ v.2 = i := by
  unfold nm at h
  split at h
  · rename_i q
    cases h
    obtain ⟨q0, q1, _⟩ := q
    exact ⟨by omega, by omega⟩
  · cases h
theorem meetL_ok (l : List Ob) (vs : List V2) : ∀ (out : List Nat), MetOk l out → MetOk l (meetL l out vs) := by
  induction vs with
  | nil => exact fun out h => h
  | cons v vs ih =>
    intro out h
    unfold meetL
    cases hn : nm l v with
    | none => exact ih out h
    | some i =>
      simp only
      by_cases q : i ∈ out
      · rw [if_pos q]; exact ih out h
      · rw [if_neg q]
        refine ih _ ⟨?_, fun j hj => ?_⟩
        · rw [List.nodup_append]
          exact ⟨h.1, by simp, fun a ha b hb => by simp at hb; subst hb; exact fun e => q (by rw [← e]; exact ha)⟩
        · rcases List.mem_append.1 hj with hj | hj
          · exact h.2 j hj
          · simp at hj; subst hj; exact (nm_lt hn).1
theorem meetL_grow (l : List Ob) (vs : List V2) : ∀ (out : List Nat), out.length ≤ (meetL l out vs).length := by
  induction vs with
  | nil => exact fun out => Nat.le_refl _
  | cons v vs ih =>
    intro out
    unfold meetL
    cases nm l v with
    | none => exact ih out
    | some i =>
      simp only
      split
      · exact ih out
      · have := ih (out ++ [i])
        rw [List.length_append] at this
        simp only [List.length_singleton] at this
        omega
theorem nodup_len : ∀ (n : Nat) (out : List Nat), out.Nodup → (∀ i, i ∈ out → i < n) → out.length ≤ n
  | 0, out, _, h => by
    cases out with
    | nil => exact Nat.le_refl _
    | cons a l => exact absurd (h a (by simp)) (by omega)
  | n + 1, out, hd, h => by
    by_cases q : n ∈ out
    · have h1 := nodup_len n (out.erase n) (hd.erase n) (fun i hi => by
        have h2 := (List.Nodup.mem_erase_iff hd).1 hi
        have h3 := h i h2.2
        have h4 := h2.1
        omega)
      rw [List.length_erase_of_mem q] at h1
      omega
    · have h1 := nodup_len n out hd (fun i hi => by
        have h3 := h i hi
        have h4 : i ≠ n := fun e => q (by rw [← e]; exact hi)
        omega)
      omega
theorem MetOk.len {l : List Ob} {out : List Nat} (h : MetOk l out) : out.length ≤ l.length := nodup_len _ _ h.1 h.2
theorem meetL_snoc (l : List Ob) (vs : List V2) (v : V2) : ∀ (out : List Nat), meetL l out (vs ++ [v]) = match nm l v with | some i => if i ∈ meetL l out vs then meetL l out vs else meetL l out vs ++ [i] | none => meetL l out vs := by
  induction vs with
  | nil =>
    intro out
    show meetL l out [v] = _
    unfold meetL
    cases nm l v <;> rfl
  | cons u vs ih =>
    intro out
    rw [List.cons_append]
    unfold meetL
    cases nm l u with
    | none => exact ih out
    | some j =>
      simp only
      by_cases q : j ∈ out
      · rw [if_pos q, if_pos q]; exact ih out
      · rw [if_neg q, if_neg q]; exact ih _
theorem reachL_step (l : List Ob) (i : Nat) (out : List Nat) (hi : i < out.length) (hl : i < l.length) : reachL l (l.length + 1 - i) i out = reachL l (l.length + 1 - (i + 1)) (i + 1) (meetL l out (l.getD (out.getD i 0) ob0).items) := by
  rw [show l.length + 1 - i = (l.length + 1 - (i + 1)) + 1 by omega]
  conv => lhs; unfold reachL
  rw [if_pos hi]
theorem reachL_end (l : List Ob) (f i : Nat) (out : List Nat) (hi : out.length ≤ i) : reachL l f i out = out := by
  cases f with
  | zero => rfl
  | succ f => unfold reachL; rw [if_neg (by omega)]
theorem reachL_ok (l : List Ob) : ∀ (f i : Nat) (out : List Nat), MetOk l out → MetOk l (reachL l f i out) := by
  intro f
  induction f with
  | zero => exact fun i out h => h
  | succ f ih =>
    intro i out h
    unfold reachL
    split
    · exact ih _ _ (meetL_ok l _ out h)
    · exact h
theorem reachR_ok (l : List Ob) (vs : List V2) : MetOk l (reachR l vs) := reachL_ok l _ _ _ (meetL_ok l vs [] ⟨List.nodup_nil, fun i h => by cases h⟩)
/-- Numbers, as they lie in memory. -/
def outV (out : List Nat) : List Value := nums .i64 (out.map Int.ofNat)
/-- Which of n were met. -/
def metV (n : Nat) (out : List Nat) : List Value := (List.range n).map fun i => .bool (decide (i ∈ out))
theorem metV_len (n : Nat) (out : List Nat) : (metV n out).length = n := by simp [metV]
theorem metV_at (n : Nat) (out : List Nat) (i : Nat) (h : i < n) : (metV n out)[i]? = some (.bool (decide (i ∈ out))) := by simp [metV, h]
theorem metV_one (n : Nat) (out : List Nat) : One (metV n out) := fun u hu => by
  simp only [metV, List.mem_map] at hu
  obtain ⟨i, _, rfl⟩ := hu
  rfl
theorem metV_set (n : Nat) (out : List Nat) (i : Nat) (h : i < n) : (metV n out).take i ++ [.bool true] ++ (metV n out).drop (i + 1) = metV n (out ++ [i]) := by
  have e : (metV n out).take i ++ [.bool true] ++ (metV n out).drop (i + 1) = (metV n out).set i (.bool true) := by
    rw [List.set_eq_take_append_cons_drop, if_pos (by rw [metV_len]; exact h)]
    simp
  rw [e]
  apply List.ext_getElem?
  intro j
  by_cases hj : j < n
  · by_cases q : i = j
    · subst q
      rw [List.getElem?_set_self (by rw [metV_len]; exact h), metV_at n _ i h]
      simp
    · rw [List.getElem?_set_ne q, metV_at n _ j hj, metV_at n _ j hj]
      have : (decide (j ∈ out)) = decide (j ∈ out ++ [i]) := by
        apply decide_eq_decide.2
        simp only [List.mem_append, List.mem_singleton]
        constructor
        · exact .inl
        · rintro (h | h)
          · exact h
          · exact absurd h.symm q
      rw [this]
  · rw [List.getElem?_eq_none (by rw [List.length_set, metV_len]; omega), List.getElem?_eq_none (by rw [metV_len]; omega)]
theorem outV_snoc (out : List Nat) (i : Nat) : outV (out ++ [i]) = outV out ++ [.int .i64 (i : Int)] := by simp [outV, nums]
theorem outV_len (out : List Nat) : (outV out).length = out.length := by simp [outV]
theorem metV_nil (n : Nat) : metV n [] = List.replicate n (.bool false) := by
  apply List.ext_getElem?
  intro j
  by_cases hj : j < n
  · rw [metV_at n [] j hj]; simp [hj]
  · rw [List.getElem?_eq_none (by rw [metV_len]; omega), List.getElem?_eq_none (by simp; omega)]
end Go.Proofs.YtpibchjkmaghnaaGreat
namespace Go.Proofs.YtpibchjkmaghnaaGreat
open Go.RowKit Go.Mm
set_option maxHeartbeats 4000000
set_option maxRecDepth 100000
set_option linter.unusedSimpArgs false
theorem inf_int : (Tryz.prog.info? 3).map (fun i => (i.zero, i.size, i.bytes)) = some (some (.int .i64 0), 1, 8) := by kernel_rfl
theorem inf_bool : (Tryz.prog.info? 4).map (fun i => (i.zero, i.size, i.bytes)) = some (some (.bool false), 1, 1) := by kernel_rfl
theorem ty_ints : Tryz.prog.underlying 31 = some (.slice 3) := by kernel_rfl
theorem ty_bools : Tryz.prog.underlying 120 = some (.slice 4) := by kernel_rfl
theorem nmB_isSome {s : Hs} (hg : s.Good) (v : V2) : nmB s.objs v = (nm s.objs v).isSome := by
  cases hn : nm s.objs v with
  | none => unfold nmB; rw [hn]; simp
  | some i => rw [(nm_good hg hn).1]; rfl
theorem take_snocV (xs : List V2) (k : Nat) (h : k < xs.length) : xs.take (k + 1) = xs.take k ++ [xs.getD k (0, 0)] := by
  rw [List.take_succ_eq_append_getElem h]; simp [h]
theorem refMeet_ok (w0 w : World) (L : List Chunk) (r : Rf) (hh : RfC r ∈ L) (hok : Fact r.Ok) (hg : Fact r.abs.Good) (S : Option Addr) (sc : Nat) (O : Option Addr) (oc : Nat) (out : List Nat) (ho : MetOk r.abs.objs out)
    (hm : Mem w0 w (Own 1 (.slice S r.xs.length sc) (metV r.xs.length out) :: Own 1 (.slice O out.length oc) (outV out) :: L)) (V : Option Addr) (m c : Nat) (vs : List V2) (hvs : Fact (∀ W, Mem w0 W L → RdC W 2 (.slice V m c) (fV vs))) (hmm : m ≤ 16777216) :
    Calls Tryz.prog 84 #[.slice r.A r.xs.length r.c, .slice S r.xs.length sc, .slice O out.length oc, .slice V m c] w fun e w' => ∃ (O' : Option Addr) (oc' : Nat), e = .returned (.slice O' (meetL r.abs.objs out vs).length oc') ∧ Mem w0 w' (Own 1 (.slice S r.xs.length sc) (metV r.xs.length (meetL r.abs.objs out vs)) :: Own 1 (.slice O' (meetL r.abs.objs out vs).length oc') (outV (meetL r.abs.objs out vs)) :: L) := by
  obtain ⟨iI, hiI, yz0, yz1, yz2⟩ := info_parts inf_int
  have hxl := hok.out.size
  have hvl := Fact.mk (rdV_len (hvs.out w hm.tail.tail))
  have hol := r.abs_len
  have hnames := fun (W : World) (L1 : List Chunk) (h1 : Mem w0 W L1) (h2 : RfC r ∈ L1) (v : V2) => refNames_ok W r.A r.xs.length r.c r.xs ⟨(Rf.read h1 h2).2.2.2⟩ hxl v.1 v.2
  have hiso := fun v => nmB_isSome hg.out v
  rw [show r.xs.map (·.ob) = r.abs.objs from rfl] at hnames
  have hmet := fun k => meetL_ok r.abs.objs (vs.take k) out ho
  have hml := fun k => (hmet k).len
  generalize r.abs.objs = obs at hnames hiso hmet hml hol ho ⊢
  replace hnames := Fact.mk hnames
  replace hiso := Fact.mk hiso
  replace hmet := Fact.mk hmet
  replace hml := Fact.mk hml
  replace hol := Fact.mk hol
  go_enter Tryz.func84, Tryz.ntmps84
  go_wp2
  go_loopw [2, 9] (fun s2 s9 W => ∃ (k : Nat) (O1 : Option Addr) (oc1 : Nat) (o1 : List Nat), s9 = .int .i64 k ∧ k ≤ m ∧ Fact (o1 = meetL obs out (vs.take k)) ∧ s2 = .slice O1 o1.length oc1 ∧ Mem w0 W (Own 1 (.slice S r.xs.length sc) (metV r.xs.length o1) :: Own 1 (.slice O1 o1.length oc1) (outV o1) :: L)) (fun _ s9 _ => m - (intOf s9).toNat)
  case atStart => exact ⟨0, O, oc, out, rfl, by omega, ⟨rfl⟩, rfl, hm⟩
  case round =>
    obtain ⟨k, O1, oc1, o1, rfl, hk, ho1, rfl, hmr⟩ := hrel
    clear hm
    have hl1 : o1.length ≤ 16777216 := by have h1 := hml.out k; rw [← ho1.out, hol.out] at h1; omega
    by_cases hlt : k < m
    · obtain ⟨b, o, rfl, g1, g2, _, hkl⟩ := rdV_at (hvs.out wr hmr.tail.tail) k hlt
      have hsn := meetL_snoc obs (vs.take k) (vs.getD k (0, 0)) out
      rw [← take_snocV vs k hkl, ← ho1.out] at hsn
      have hnm := hnames.out wr _ hmr (.tail _ (.tail _ hh)) (vs.getD k (0, 0))
      have his := hiso.out (vs.getD k (0, 0))
      have hcell : ∀ W, Mem w0 W L → W.cell? ⟨b, o + k * 2 + 1, none⟩ = some (.int .i64 (vs.getD k (0, 0)).2) := fun W hW => by
        obtain ⟨b', o', hb', _, k4, _, _⟩ := rdV_at (hvs.out W hW) k hlt
        cases hb'
        exact k4
      generalize vs.getD k (0, 0) = v at g1 g2 hsn hnm his hcell
      replace hcell := Fact.mk hcell
      rw [show ((v.1, v.2) : V2) = v from rfl, his] at hnm
      cases hn : nm obs v with
      | none =>
        rw [hn] at hnm hsn
        simp only [Option.isSome_none] at hnm
        replace hnm := Fact.mk hnm
        replace hsn := Fact.mk hsn
        clear his hn
        go_wp2_with (refine wp_rng rfl 35 _ rfl b (o + k * 2) rfl (cV v) (rng2 g1 g2) row_V sz_V ?_)
        refine hnm.out.mono ?_
        rintro e w2 ⟨rfl, hg2⟩
        go_wp2
        go_roundw
        case rel => exact ⟨k + 1, O1, oc1, o1, by go_num, by omega, ⟨hsn.out.symm⟩, rfl, hmr.gr hg2⟩
        case measure => exact measP_lt hlt
      | some i =>
        obtain ⟨hil, hvi⟩ := nm_lt hn
        rw [hn] at hnm hsn
        simp only [Option.isSome_some] at hnm
        simp only at hsn
        replace hnm := Fact.mk hnm
        have hir : i < r.xs.length := by rw [← hol.out]; exact hil
        have hg2' := g2
        rw [hvi] at hg2'
        replace hvi := Fact.mk hvi
        clear his hn
        go_wp2_with (refine wp_rng rfl 35 _ rfl b (o + k * 2) rfl (cV v) (rng2 g1 g2) row_V sz_V ?_)
        refine hnm.out.mono ?_
        rintro e w2 ⟨rfl, hg2⟩
        have hm2 := hmr.gr hg2
        have k2 := Gr.cell hg2 hg2'
        clear g1 g2 hg2' hmr hg2
        obtain ⟨bs, os, hS⟩ := OwnAt.addr (hm2.ok _ m0) (by have := OwnAt.cap (hm2.ok _ m0); omega)
        have hs1 : w2.cell? ⟨bs, os + i, none⟩ = some (.bool (decide (i ∈ o1))) := by
          obtain ⟨bs', os', c0, hS', h1, h2, _⟩ := (hm2.rd m0).at1 i hir
          rw [hS] at hS'
          cases hS'
          rw [metV_at _ _ i hir] at h2
          rw [h1, h2]
        rw [hS] at hm2
        rw [hS]
        replace hS := Fact.mk hS
        by_cases q : i ∈ o1
        · rw [decide_eq_true q] at hs1
          rw [if_pos q] at hsn
          replace hsn := Fact.mk hsn
          clear q
          go_wp2
          try rw [← hS.out]
          go_roundw
          case rel => exact ⟨k + 1, O1, oc1, o1, by go_num, by omega, ⟨hsn.out.symm⟩, rfl, by rw [hS.out]; exact hm2⟩
          case measure => exact measP_lt hlt
        · rw [decide_eq_false q] at hs1
          rw [if_neg q] at hsn
          replace hsn := Fact.mk hsn
          have hset := metV_set r.xs.length o1 i hir
          replace hset := Fact.mk hset
          have hsl := Fact.mk (show i + [(.bool true : Value)].length ≤ (metV r.xs.length o1).length by rw [metV_len]; simp only [List.length_singleton]; omega)
          have hgl : Fact ((o1 ++ [i]).length = o1.length + 1) := ⟨by simp⟩
          clear q
          go_wp2_with (first | (refine wp_ownat rfl 4 _ _ rfl (os + i) i rfl rfl [.bool true] _ rfl rfl hm2 sz_bool hsl.out (one_one rfl) ?_; intro w4 hm4; have k4 := hcell.out w4 hm4.tail.tail; rw [hvi.out] at k4) | (at_builtin; refine wp_app rfl _ _ _ rfl 3 iI _ 1 8 ty_ints hiI yz0 yz1 yz2 rfl O1 o1.length oc1 _ rfl (hm4.alloc _).pull2 _ 1 1 [.int .i64 (i : Int)] rfl (RdC.lit _ _ _ _ _ rfl (by simp [maxLen]) (one_one rfl)) (by unfold maxLen; omega) (by omega) ?_; intro A5 c5 w5 HM5))
          have hm6 : Mem w0 w5 (Own 1 (.slice S r.xs.length sc) (metV r.xs.length (o1 ++ [i])) :: Own 1 (.slice A5 (o1 ++ [i]).length c5) (outV (o1 ++ [i])) :: L) := by
            rw [hgl.out, ← hset.out, outV_snoc, hS.out]
            exact HM5.drop2.swap
          rw [← hgl.out]
          try rw [← hS.out]
          go_roundw
          case rel => exact ⟨k + 1, A5, c5, o1 ++ [i], by go_num, by omega, ⟨hsn.out.symm⟩, rfl, hm6⟩
          case measure => exact measP_lt hlt
    · obtain rfl : k = m := by omega
      rw [List.take_of_length_le (by rw [hvl.out]; exact Nat.le_refl _)] at ho1
      have e := ho1.out
      subst e
      go_wp2
      go_ret
      exact ⟨O1, oc1, rfl, hmr⟩
theorem Rf.items_at {w0 w : World} {L : List Chunk} {r : Rf} (hm : Mem w0 w L) (hh : RfC r ∈ L) (j : Nat) (hj : j < r.xs.length) :
    ∃ b o, r.A = some ⟨b, o, none⟩ ∧ w.cell? ⟨b, o + j * 6 + 1, none⟩ = some (.slice (r.xs.getD j ro0).A (r.xs.getD j ro0).ob.items.length (r.xs.getD j ro0).c) ∧ RdC w 2 (.slice (r.xs.getD j ro0).A (r.xs.getD j ro0).ob.items.length (r.xs.getD j ro0).c) (fV (r.xs.getD j ro0).ob.items) := by
  obtain ⟨_, _, _, hobs⟩ := Rf.read hm hh
  obtain ⟨b, o, hA, hc, _, hrd⟩ := hobs.at j hj
  exact ⟨b, o, hA, hc 1 _ rfl, hrd.1⟩
theorem outV_at (out : List Nat) (i : Nat) (h : i < out.length) : (outV out)[i]? = some (.int .i64 (out.getD i 0 : Nat)) := by simp [outV, nums, h]
theorem refReach_ok (w0 w : World) (L : List Chunk) (r : Rf) (hm : Mem w0 w L) (hh : RfC r ∈ L) (hok : Fact r.Ok) (hg : Fact r.abs.Good) (V : Option Addr) (m c : Nat) (vs : List V2) (hvs : Fact (∀ W, Mem w0 W L → RdC W 2 (.slice V m c) (fV vs))) (hmm : m ≤ 16777216) :
    Calls Tryz.prog 65 #[.slice r.A r.xs.length r.c, .slice V m c] w fun e w' => ∃ (O' : Option Addr) (oc' : Nat), e = .returned (.slice O' (reachR r.abs.objs vs).length oc') ∧ Mem w0 w' (Own 1 (.slice O' (reachR r.abs.objs vs).length oc') (outV (reachR r.abs.objs vs)) :: L) := by
  obtain ⟨iB, hiB, yz0, yz1, yz2⟩ := info_parts inf_bool
  have hxl := hok.out.size
  have hol := Fact.mk r.abs_len
  have hszs : Fact (∀ j, j < r.xs.length → (r.xs.getD j ro0).ob.items.length ≤ 1048576) := ⟨fun j hj => (hok.out.each _ (by rw [List.getD_eq_getElem?_getD, List.getElem?_eq_getElem hj]; exact List.getElem_mem _)).1⟩
  have hat : Fact (∀ j, j < r.xs.length → r.abs.objs.getD j ob0 = (r.xs.getD j ro0).ob) := ⟨fun j hj => r.at_abs hj⟩
  have hread := fun (W : World) (L1 : List Chunk) (h1 : Mem w0 W L1) (h2 : RfC r ∈ L1) (j : Nat) (hj : j < r.xs.length) => Rf.items_at h1 h2 j hj
  have hmeet := fun (W : World) (S : Option Addr) (sc : Nat) (O : Option Addr) (oc : Nat) (out : List Nat) (ho : MetOk r.abs.objs out) (h1 : Mem w0 W (Own 1 (.slice S r.xs.length sc) (metV r.xs.length out) :: Own 1 (.slice O out.length oc) (outV out) :: L)) (V : Option Addr) (m c : Nat) (vs : List V2) (h2 : ∀ W, Mem w0 W L → RdC W 2 (.slice V m c) (fV vs)) (h3 : m ≤ 16777216) => refMeet_ok w0 W L r hh hok hg S sc O oc out ho h1 V m c vs ⟨h2⟩ h3
  obtain ⟨F, hF⟩ : ∃ F, reachR r.abs.objs vs = F := ⟨_, rfl⟩
  rw [hF]
  unfold reachR at hF
  generalize r.abs.objs = obs at hmeet hF hol hat
  replace hF := Fact.mk hF
  replace hread := Fact.mk hread
  replace hmeet := Fact.mk hmeet
  go_enter Tryz.func65, Tryz.ntmps65
  go_wp2
  go_loopw [5, 6] (fun s5 s6 W => ∃ (k : Nat) (S : Option Addr) (sc : Nat), s6 = .int .i64 k ∧ k ≤ r.xs.length ∧ s5 = .slice S k sc ∧ Mem w0 W (Own 1 (.slice S k sc) (List.replicate k (.bool false)) :: L)) (fun _ s6 _ => r.xs.length - (intOf s6).toNat)
  case atStart => exact ⟨0, none, 0, rfl, by omega, rfl, Mem.nil hm 1 none⟩
  case round =>
    obtain ⟨k, S, sc, rfl, hk, rfl, hmr⟩ := hrel
    clear hm
    by_cases hlt : k < r.xs.length
    · go_wp2_with (at_builtin; refine wp_app rfl _ _ _ rfl 4 iB _ 1 1 ty_bools hiB yz0 yz1 yz2 rfl S k sc _ rfl (hmr.alloc _).swap _ 1 1 [.bool false] rfl (RdC.lit _ _ _ _ _ rfl (by simp [maxLen]) (one_one rfl)) (by unfold maxLen; omega) (by omega) ?_; intro A5 c5 w5 HM5)
      go_roundw
      case rel => exact ⟨k + 1, A5, c5, by go_num, by omega, rfl, by rw [List.replicate_succ']; exact HM5.drop2⟩
      case measure => exact measP_lt hlt
    · obtain rfl : k = r.xs.length := by omega
      rw [← metV_nil] at hmr
      have hst := hmeet.out wr S sc none 0 [] ⟨List.nodup_nil, fun i h => by cases h⟩ ((Mem.nil hmr 1 none).swap) V m c vs hvs.out hmm
      replace hst := Fact.mk hst
      go_wp2_with fail
      refine hst.out.mono ?_
      rintro e w3 ⟨O3, oc3, rfl, hm3⟩
      have hmk0 : MetOk obs (meetL obs [] vs) := meetL_ok obs vs [] ⟨List.nodup_nil, fun i h => by cases h⟩
      obtain ⟨o0, ho0⟩ : ∃ o0, meetL obs [] vs = o0 := ⟨_, rfl⟩
      rw [ho0] at hm3 hmk0 hF ⊢
      rw [hol.out] at hF
      replace hmk0 := Fact.mk hmk0
      clear hst hmr ho0
      go_wp2
      go_loopw [7, 8] (fun s7 s8 W => ∃ (i : Nat) (O1 : Option Addr) (oc1 : Nat) (o1 : List Nat), s8 = .int .i64 i ∧ i ≤ o1.length ∧ Fact (MetOk obs o1) ∧ Fact (reachL obs (r.xs.length + 1 - i) i o1 = F) ∧ s7 = .slice O1 o1.length oc1 ∧ Mem w0 W (Own 1 (.slice S r.xs.length sc) (metV r.xs.length o1) :: Own 1 (.slice O1 o1.length oc1) (outV o1) :: L)) (fun _ s8 _ => r.xs.length - (intOf s8).toNat)
      case atStart => exact ⟨0, O3, oc3, o0, rfl, by omega, ⟨hmk0.out⟩, ⟨hF.out⟩, rfl, hm3⟩
      case round =>
        obtain ⟨i, O1, oc1, o1, rfl, hi, hmk, hrF, rfl, hmq⟩ := hrel
        clear hm3
        have hlen := hmk.out.len
        rw [hol.out] at hlen
        by_cases hit : i < o1.length
        · obtain ⟨bo, oo, c0, hO, h1, h2, _⟩ := (hmq.rd m1).at1 i hit
          have hji : o1.getD i 0 < r.xs.length := by
            have := hmk.out.2 (o1.getD i 0) (by rw [List.getD_eq_getElem?_getD, List.getElem?_eq_getElem hit]; exact List.getElem_mem _)
            rwa [hol.out] at this
          rw [outV_at _ _ hit] at h2
          have hstep := reachL_step obs i o1 hit (by rw [hol.out]; omega)
          rw [hol.out, hrF.out, hat.out _ hji] at hstep
          generalize o1.getD i 0 = j at h2 hji hstep
          cases h2
          obtain ⟨bx, ox, hA, f1, hr1⟩ := hread.out wr _ hmq (.tail _ (.tail _ hh)) j hji
          have hrr := fun (W : World) (h : Mem w0 W L) => hread.out W L h hh j hji
          have hszj := hszs.out j hji
          generalize r.xs.getD j ro0 = x at hstep f1 hr1 hrr hszj
          have hst := hmeet.out wr S sc O1 oc1 o1 hmk.out hmq x.A x.ob.items.length x.c x.ob.items (fun W h => by obtain ⟨_, _, _, _, h5⟩ := hrr W h; exact h5) (by omega)
          have hmk2 := meetL_ok obs x.ob.items o1 hmk.out
          replace hst := Fact.mk hst
          replace hstep := Fact.mk hstep
          replace hmk2 := Fact.mk hmk2
          have hge : i + 1 ≤ (meetL obs o1 x.ob.items).length := by
            have : o1.length ≤ (meetL obs o1 x.ob.items).length := meetL_grow obs x.ob.items o1
            omega
          rw [hO, hA]
          replace hO := Fact.mk hO
          replace hA := Fact.mk hA
          clear hr1 hrr
          go_wp2_with fail
          try rw [← hO.out]
          try rw [← hA.out]
          refine hst.out.mono ?_
          rintro e w4 ⟨O4, oc4, rfl, hm4⟩
          generalize meetL obs o1 x.ob.items = o2 at hm4 hstep hmk2 hge ⊢
          clear hst hmq
          go_wp2
          try rw [← hO.out]
          try rw [← hA.out]
          go_roundw
          case rel => exact ⟨i + 1, O4, oc4, o2, by go_num, hge, ⟨hmk2.out⟩, ⟨hstep.out.symm⟩, rfl, hm4⟩
          case measure => exact measP_lt (by omega)
        · have hil : i = o1.length := by omega
          have hFe : o1 = F := by rw [← hrF.out, reachL_end obs _ _ _ (by omega)]
          have hif : ((i : Int) < (o1.length : Int)) = False := eq_false (by omega)
          subst hFe
          go_wp2
          go_ret
          exact ⟨O1, oc1, rfl, hmq.tail⟩
end Go.Proofs.YtpibchjkmaghnaaGreat
namespace Go.Proofs.YtpibchjkmaghnaaGreat
open Go.RowKit Go.Mm
set_option maxHeartbeats 4000000
set_option maxRecDepth 100000
set_option linter.unusedSimpArgs false
theorem itemsA_ok (g : Nat) (v : Value) (w : World) (h : w.cell? ⟨g, 0, none⟩ = some v) : Calls Tryz.prog 113 #[.pointer (some ⟨g, 0, none⟩)] w fun e w' => e = .returned v ∧ w' = w := by
  go_enter Tryz.func113, Tryz.ntmps113
  go_wp2
  go_ret
  exact ⟨rfl, rfl⟩
theorem itemsR_ok (g : Nat) (v : Value) (w : World) (h : w.cell? ⟨g, 1, none⟩ = some v) : Calls Tryz.prog 126 #[.pointer (some ⟨g, 0, none⟩)] w fun e w' => e = .returned v ∧ w' = w := by
  go_enter Tryz.func126, Tryz.ntmps126
  go_wp2
  go_ret
  exact ⟨rfl, rfl⟩
theorem itemsB_ok (g : Nat) (v : Value) (w : World) (h : w.cell? ⟨g, 1, none⟩ = some v) : Calls Tryz.prog 118 #[.pointer (some ⟨g, 0, none⟩)] w fun e w' => e = .returned v ∧ w' = w := by
  go_enter Tryz.func118, Tryz.ntmps118
  go_wp2
  go_ret
  exact ⟨rfl, rfl⟩
theorem itemsC_ok (g : Nat) (v : Value) (w : World) (h : w.cell? ⟨g, 1, none⟩ = some v) : Calls Tryz.prog 122 #[.pointer (some ⟨g, 0, none⟩)] w fun e w' => e = .returned v ∧ w' = w := by
  go_enter Tryz.func122, Tryz.ntmps122
  go_wp2
  go_ret
  exact ⟨rfl, rfl⟩
theorem mitA (a : Addr) (w : World) : (callMethod (.iface 114 (.pointer (some a))) "portage/heap.items" #[]).run Tryz.prog w = .ok (.enter 113 #[.pointer (some a)]) w := by kernel_rfl
theorem mitR (a : Addr) (w : World) : (callMethod (.iface 130 (.pointer (some a))) "portage/heap.items" #[]).run Tryz.prog w = .ok (.enter 126 #[.pointer (some a)]) w := by kernel_rfl
theorem mitB (a : Addr) (w : World) : (callMethod (.iface 117 (.pointer (some a))) "portage/heap.items" #[]).run Tryz.prog w = .ok (.enter 118 #[.pointer (some a)]) w := by kernel_rfl
theorem mitC (a : Addr) (w : World) : (callMethod (.iface 127 (.pointer (some a))) "portage/heap.items" #[]).run Tryz.prog w = .ok (.enter 122 #[.pointer (some a)]) w := by kernel_rfl
theorem itemsI_ok (w : World) (t : Th) (ht : t.Ok) (hc : ∀ c, c ∈ t.chunks → c.ok w) : ICalls Tryz.prog t.val "portage/heap.items" #[] w fun e w' => e = .returned (.slice t.A t.ob.items.length t.c) ∧ w' = w := by
  obtain ⟨h0, hx, hk⟩ := Th.reads hc
  have hl := rdV_len hx
  rw [hl]
  rcases t.val_of ht.kind with ⟨hkd, hv⟩ | ⟨hkd, hv⟩ | ⟨hkd, hv⟩ | ⟨hkd, hv⟩ <;> rw [hv] <;> simp only [Th.cells, hkd] at h0
  · exact ⟨_, _, mitA _ w, itemsA_ok t.g _ w (h0 0 _ rfl)⟩
  · exact ⟨_, _, mitR _ w, itemsR_ok t.g _ w (h0 1 _ rfl)⟩
  · exact ⟨_, _, mitB _ w, itemsB_ok t.g _ w (h0 1 _ rfl)⟩
  · exact ⟨_, _, mitC _ w, itemsC_ok t.g _ w (h0 1 _ rfl)⟩
/-- The variables that the closure captured. -/
def capC (h : Hp) (gh gm go : Nat) (S : Option Addr) (sc : Nat) (O : Option Addr) (oc : Nat) (out : List Nat) : List Chunk :=
  [Own 1 (.slice S h.ths.length sc) (metV h.ths.length out), Own 1 (.slice O out.length oc) (outV out), Blk gh (.cells [.pointer (some ⟨h.g, 0, none⟩)].toArray 26), Blk gm (.cells [.slice S h.ths.length sc].toArray 120), Blk go (.cells [.slice O out.length oc].toArray 31)]
theorem meetC_ok (w0 w : World) (L : List Chunk) (h : Hp) (hh : HpC h ∈ L) (hok : Fact h.Ok) (gh gm go : Nat) (S : Option Addr) (sc : Nat) (O : Option Addr) (oc : Nat) (out : List Nat) (ho : MetOk h.objs out)
    (hm : Mem w0 w (capC h gh gm go S sc O oc out ++ L)) (V : Option Addr) (m c : Nat) (vs : List V2) (hvs : Fact (∀ W, Mem w0 W L → RdC W 2 (.slice V m c) (fV vs))) (hmm : m ≤ 16777216) :
    Calls Tryz.prog 68 #[.slice V m c, .pointer (some ⟨gh, 0, none⟩), .pointer (some ⟨gm, 0, none⟩), .pointer (some ⟨go, 0, none⟩)] w fun e w' => e = .returned (.tuple #[]) ∧ ∃ (O' : Option Addr) (oc' : Nat), Mem w0 w' (capC h gh gm go S sc O' oc' (meetL h.objs out vs) ++ L) := by
  obtain ⟨iI, hiI, yz0, yz1, yz2⟩ := info_parts inf_int
  have hxl := hok.out.size
  have hvl := Fact.mk (rdV_len (hvs.out w (hm.sub (List.sublist_append_right _ _))))
  have hol : Fact (h.objs.length = h.ths.length) := ⟨h.abs_len⟩
  have hmet := fun k => meetL_ok h.objs (vs.take k) out ho
  have hml := fun k => (hmet k).len
  unfold capC at hm ⊢
  simp only [List.cons_append, List.nil_append] at hm ⊢
  have hnamed := fun (W : World) (L1 : List Chunk) (h1 : Mem w0 W L1) (h2 : HpC h ∈ L1) (v : V2) => named_ok w0 W L1 h h1 h2 hok v.1 v.2
  have hnv : ∀ v : V2, (nm h.objs v = none ∧ namedV h v = .nilIface) ∨ ∃ i T g, nm h.objs v = some i ∧ namedV h v = .iface T (.pointer (some ⟨g, 0, none⟩)) := fun v => by
    unfold namedV
    cases hn : nm h.objs v with
    | none => exact .inl ⟨rfl, rfl⟩
    | some i => exact .inr ⟨i, _, _, rfl, rfl⟩
  generalize h.objs = obs at hmet hml hol ho hnv ⊢
  replace hnamed := Fact.mk hnamed
  replace hnv := Fact.mk hnv
  replace hmet := Fact.mk hmet
  replace hml := Fact.mk hml
  go_enter Tryz.func68, Tryz.ntmps68
  go_wp2
  go_loopw [9] (fun s9 W => ∃ (k : Nat) (O1 : Option Addr) (oc1 : Nat) (o1 : List Nat), s9 = .int .i64 k ∧ k ≤ m ∧ Fact (o1 = meetL obs out (vs.take k)) ∧ Mem w0 W (Own 1 (.slice S h.ths.length sc) (metV h.ths.length o1) :: Own 1 (.slice O1 o1.length oc1) (outV o1) :: Blk gh (.cells [.pointer (some ⟨h.g, 0, none⟩)].toArray 26) :: Blk gm (.cells [.slice S h.ths.length sc].toArray 120) :: Blk go (.cells [.slice O1 o1.length oc1].toArray 31) :: L)) (fun s9 _ => m - (intOf s9).toNat)
  case atStart => exact ⟨0, O, oc, out, rfl, by omega, ⟨rfl⟩, hm⟩
  case round =>
    obtain ⟨k, O1, oc1, o1, rfl, hk, ho1, hmr⟩ := hrel
    clear hm
    have hl1 : o1.length ≤ 16777216 := by have h1 := hml.out k; rw [← ho1.out, hol.out] at h1; omega
    by_cases hlt : k < m
    · obtain ⟨b, o, rfl, g1, g2, _, hkl⟩ := rdV_at (hvs.out wr (hmr.sub (List.sublist_append_right [_, _, _, _, _] _))) k hlt
      have hsn := meetL_snoc obs (vs.take k) (vs.getD k (0, 0)) out
      rw [← take_snocV vs k hkl, ← ho1.out] at hsn
      have hnmv := hnv.out (vs.getD k (0, 0))
      generalize vs.getD k (0, 0) = v at g1 g2 hsn hnmv
      have hs := hmr.alloc (.cells [.int .i64 0, .int .i64 0].toArray 35)
      go_upto_region 3 with (first | (refine wp_rng rfl 35 _ rfl b (o + k * 2) rfl (cV v) (rng2 g1 g2) row_V sz_V ?_) | (refine wp_setrow rfl 35 _ _ rfl wr.heap.size rfl 35 _ (cV v) rfl hs sz_V rfl (cV_one v) ?_; intro w5 hm5))
      generalize wr.heap.size = g6 at hm5 ⊢
      clear hmr hs g1 g2
      have c1 := hm5.cell m3 0 rfl
      have hnam := hnamed.out w5 _ hm5 (.tail _ (.tail _ (.tail _ (.tail _ (.tail _ (.tail _ hh)))))) v
      rw [show ((v.1, v.2) : V2) = v from rfl] at hnam
      replace hnam := Fact.mk hnam
      go_wp2_with (refine wp_rng rfl 35 _ rfl g6 0 rfl (cV v) (rng_blk hm5 m0) row_V sz_V ?_)
      refine hnam.out.mono ?_
      rintro e w6 ⟨rfl, hg6⟩
      have hm6 := hm5.gr hg6
      clear hm5 hg6 c1 hnam
      rcases hnmv with ⟨hn, hnv1⟩ | ⟨i, T, g, hn, hnv1⟩
      · rw [hn] at hsn
        replace hsn := Fact.mk hsn
        rw [hnv1]
        clear hn hnv1
        go_wp2
        go_roundw
        case rel => exact ⟨k + 1, O1, oc1, o1, by go_num, by omega, ⟨hsn.out.symm⟩, hm6.tail⟩
        case measure => exact measP_lt hlt
      · obtain ⟨hil, hvi⟩ := nm_lt hn
        rw [hn] at hsn
        simp only at hsn
        rw [hnv1]
        have hir : i < h.ths.length := by rw [← hol.out]; exact hil
        have k2 := hm6.cell m0 1 rfl
        rw [hvi] at k2
        have s2 := hm6.cell m4 0 rfl
        clear hn hnv1
        replace hvi := Fact.mk hvi
        replace hm6 := hm6.swap
        obtain ⟨bs, os, hS⟩ := OwnAt.addr (hm6.ok _ m0) (by have := OwnAt.cap (hm6.ok _ m0); omega)
        have hs1 : w6.cell? ⟨bs, os + i, none⟩ = some (.bool (decide (i ∈ o1))) := by
          obtain ⟨bs', os', c0, hS', h1, h2, _⟩ := (hm6.rd m0).at1 i hir
          rw [hS] at hS'
          cases hS'
          rw [metV_at _ _ i hir] at h2
          rw [h1, h2]
        have hS' := Fact.mk hS
        rw [hS] at s2
        by_cases q : i ∈ o1
        · rw [decide_eq_true q] at hs1
          rw [if_pos q] at hsn
          replace hsn := Fact.mk hsn
          clear q hS
          go_wp2
          go_roundw
          case rel => exact ⟨k + 1, O1, oc1, o1, by go_num, by omega, ⟨hsn.out.symm⟩, hm6.swap.tail⟩
          case measure => exact measP_lt hlt
        · rw [decide_eq_false q] at hs1
          rw [if_neg q] at hsn
          replace hsn := Fact.mk hsn
          have hset := metV_set h.ths.length o1 i hir
          replace hset := Fact.mk hset
          have hsl := Fact.mk (show i + [(.bool true : Value)].length ≤ (metV h.ths.length o1).length by rw [metV_len]; simp only [List.length_singleton]; omega)
          have hgl : Fact ((o1 ++ [i]).length = o1.length + 1) := ⟨by simp⟩
          rw [hS] at hm6
          clear q
          go_wp2_with (first | (refine wp_ownat rfl 4 _ _ rfl (os + i) i rfl rfl [.bool true] _ rfl rfl hm6 sz_bool hsl.out (one_one rfl) ?_; intro w7 hm7; have k7 := hm7.cell m1 1 rfl; rw [hvi.out] at k7; have s7 := hm7.cell m5 0 rfl) | (at_builtin; refine wp_app rfl _ _ _ rfl 3 iI _ 1 8 ty_ints hiI yz0 yz1 yz2 rfl O1 o1.length oc1 _ rfl (hm7.alloc _).pull3 _ 1 1 [.int .i64 (i : Int)] rfl (RdC.lit _ _ _ _ _ rfl (by simp [maxLen]) (one_one rfl)) (by unfold maxLen; omega) (by omega) ?_; intro A8 c8 w8 hm8) | (refine wp_setat rfl 31 _ _ rfl go 0 rfl 31 [.slice O1 o1.length oc1] [.slice A8 (o1.length + 1) c8] [.slice A8 (o1.length + 1) c8] _ rfl rfl hm8.pull6 sz_ints (by simp) (one_one rfl) rfl ?_; intro w9 hm9))
          have hmX := ((((hm9.sub (.cons_cons _ (.cons_cons _ (.cons _ (.cons_cons _ (.cons _ (.refl _))))))).pull4).pull4).pull3).pull4
          have hmY : Mem w0 w9 (Own 1 (.slice S h.ths.length sc) (metV h.ths.length (o1 ++ [i])) :: Own 1 (.slice A8 (o1 ++ [i]).length c8) (outV (o1 ++ [i])) :: Blk gh (.cells [.pointer (some ⟨h.g, 0, none⟩)].toArray 26) :: Blk gm (.cells [.slice S h.ths.length sc].toArray 120) :: Blk go (.cells [.slice A8 (o1 ++ [i]).length c8].toArray 31) :: L) := by
            rw [hgl.out, ← hset.out, outV_snoc, hS]
            exact hmX
          go_roundw
          case rel => exact ⟨k + 1, A8, c8, o1 ++ [i], by go_num, by omega, ⟨hsn.out.symm⟩, hmY⟩
          case measure => exact measP_lt hlt
    · obtain rfl : k = m := by omega
      rw [List.take_of_length_le (by rw [hvl.out]; exact Nat.le_refl _)] at ho1
      have e := ho1.out
      subst e
      go_wp2
      go_end0
      exact ⟨rfl, O1, oc1, hmr⟩
theorem sz_bools : (Tryz.prog.info? 120).map (·.size) = some 1 := by kernel_rfl
theorem fnReach (s p q r : Value) (w : World) : (callFunc 68 #[s, p, q, r]).run Tryz.prog w = .ok (.enter 68 #[s, p, q, r]) w := by kernel_rfl
theorem bools_none : ∀ (n : Nat), (List.replicate n ()).flatMap (fun _ => [(.bool false : Value)]) = List.replicate n (.bool false)
  | 0 => rfl
  | n + 1 => by rw [List.replicate_succ, List.replicate_succ, List.flatMap_cons, bools_none n]; rfl
theorem reach_ok (w0 w : World) (L : List Chunk) (h : Hp) (hh : HpC h ∈ L) (hok : Fact h.Ok) (hm : Mem w0 w L) (V : Option Addr) (m c : Nat) (vs : List V2) (hvs : Fact (∀ W, Mem w0 W L → RdC W 2 (.slice V m c) (fV vs))) (hmm : m ≤ 16777216) :
    Calls Tryz.prog 37 #[.pointer (some ⟨h.g, 0, none⟩), .slice V m c] w fun e w' => ∃ (O' : Option Addr) (oc' : Nat), e = .returned (.slice O' (reachR h.objs vs).length oc') ∧ Mem w0 w' (Own 1 (.slice O' (reachR h.objs vs).length oc') (outV (reachR h.objs vs)) :: L) := by
  obtain ⟨iB, hiB, yz0, yz1, yz2⟩ := info_parts inf_bool
  have hxl := hok.out.size
  have hol : Fact (h.objs.length = h.ths.length) := ⟨h.abs_len⟩
  have hms := fun (W : World) (gh gm go : Nat) (S : Option Addr) (sc : Nat) (O : Option Addr) (oc : Nat) (out : List Nat) (ho : MetOk h.objs out) (h1 : Mem w0 W (capC h gh gm go S sc O oc out ++ L)) (V : Option Addr) (m c : Nat) (vs : List V2) (h2 : ∀ W, Mem w0 W L → RdC W 2 (.slice V m c) (fV vs)) (h3 : m ≤ 16777216) => meetC_ok w0 W L h hh hok gh gm go S sc O oc out ho h1 V m c vs ⟨h2⟩ h3
  replace hms := Fact.mk hms
  obtain ⟨F, hF⟩ : ∃ F, reachR h.objs vs = F := ⟨_, rfl⟩
  rw [hF]
  unfold reachR at hF
  replace hF := Fact.mk hF
  have hm1 := hm.alloc (.cells [.pointer (some ⟨h.g, 0, none⟩)].toArray 26)
  go_enter Tryz.func37, Tryz.ntmps37
  go_upto_region 1 with (fail)
  generalize hgb : w.heap.size = gh at hm1 ⊢
  generalize hw1 : w.alloc (.cells [.pointer (some ⟨h.g, 0, none⟩)].toArray 26) = w1 at hm1
  try refine wp_world hw1 ?_
  clear hw1 hgb
  obtain ⟨_, _, c2, _, _, _⟩ := Hp.read hm1 (.tail _ hh)
  have d0 := hm1.cell m0 0 rfl
  go_upto_region 2 with (first | (at_make; refine wp_make (fun _ : Unit => [(.bool false : Value)]) () 1 1 (by omega) (fun _ => rfl) (fun _ => one_one rfl) rfl _ _ _ 4 rfl ty_bools iB _ hiB yz0 yz1 yz2 rfl _ h.ths.length rfl rfl rfl (by omega) (by unfold maxLen; omega) hm1 ?_; intro gS w2 hm2; have hs2 := hm2.alloc (.cells [.slice none 0 0].toArray 120)) | (refine wp_setat rfl 120 _ _ rfl w2.heap.size 0 rfl 120 [.slice none 0 0] [.slice (some ⟨gS, 0, none⟩) h.ths.length h.ths.length] [.slice (some ⟨gS, 0, none⟩) h.ths.length h.ths.length] _ rfl rfl hs2 sz_bools (by simp) (one_one rfl) rfl ?_; intro w3 hm3))
  rw [bools_none, ← metV_nil] at hm3
  generalize w2.heap.size = gm at hm3 ⊢
  clear hs2 hm2 hm1 c2 d0
  have hm4 := hm3.alloc (.cells [.slice none 0 0].toArray 31)
  go_upto_region 3 with (fail)
  generalize hgb : w3.heap.size = go at hm4 ⊢
  generalize hw1 : w3.alloc (.cells [.slice none 0 0].toArray 31) = w4 at hm4
  try refine wp_world hw1 ?_
  clear hw1 hgb hm3
  have hm5 := (Mem.nil hm4.swap.pull3.pull3 1 none).swap
  obtain ⟨S, hS⟩ : ∃ S, (some ⟨gS, 0, none⟩ : Option Addr) = S := ⟨_, rfl⟩
  rw [hS] at hm5
  rw [hS]
  clear hS hm4
  have hst := hms.out w4 gh gm go S h.ths.length none 0 [] ⟨List.nodup_nil, fun i h => by cases h⟩ hm5 V m c vs hvs.out hmm
  have hvc : VCalls Tryz.prog (.func (.func 68) #[] #[.pointer (some ⟨gh, 0, none⟩), .pointer (some ⟨gm, 0, none⟩), .pointer (some ⟨go, 0, none⟩)]) [.slice V m c] w4 _ := ⟨_, _, _, _, rfl, fnReach _ _ _ _ _, hst⟩
  replace hvc := Fact.mk hvc
  clear hst
  go_wp2_with (refine wp_fnv rfl _ _ _ rfl (.func (.func 68) #[] #[.pointer (some ⟨gh, 0, none⟩), .pointer (some ⟨gm, 0, none⟩), .pointer (some ⟨go, 0, none⟩)]) (by rfl) [.slice V m c] (by rfl) (hvc.out.mono ?_); rintro e w5 ⟨rfl, O3, oc3, hm6⟩; refine ⟨_, rfl, ?_⟩)
  clear hvc hm5
  go_loopw [8] (fun s8 W => ∃ (i : Nat) (O1 : Option Addr) (oc1 : Nat) (o1 : List Nat), s8 = .int .i64 i ∧ i ≤ o1.length ∧ Fact (MetOk h.objs o1) ∧ Fact (reachL h.objs (h.ths.length + 1 - i) i o1 = F) ∧ Mem w0 W (capC h gh gm go S h.ths.length O1 oc1 o1 ++ L)) (fun s8 _ => h.ths.length - (intOf s8).toNat)
  case atStart => exact ⟨0, O3, oc3, _, rfl, by omega, ⟨meetL_ok h.objs vs [] ⟨List.nodup_nil, fun i h => by cases h⟩⟩, ⟨by rw [← hF.out, hol.out]; rfl⟩, hm6⟩
  case round =>
    obtain ⟨i, O1, oc1, o1, rfl, hi, hmk, hrF, hmq⟩ := hrel
    clear hm6
    have hlen := hmk.out.len
    rw [hol.out] at hlen
    have hmq1 : Mem w0 wr (Own 1 (.slice S h.ths.length h.ths.length) (metV h.ths.length o1) :: Own 1 (.slice O1 o1.length oc1) (outV o1) :: Blk gh (.cells [.pointer (some ⟨h.g, 0, none⟩)].toArray 26) :: Blk gm (.cells [.slice S h.ths.length h.ths.length].toArray 120) :: Blk go (.cells [.slice O1 o1.length oc1].toArray 31) :: L) := hmq
    have e2 := hmq1.cell m2 0 rfl
    have e4 := hmq1.cell m4 0 rfl
    by_cases hit : i < o1.length
    · obtain ⟨bo, oo, c0, hO, h1, h2, _⟩ := (hmq1.rd m1).at1 i hit
      have hji : o1.getD i 0 < h.ths.length := by
        have := hmk.out.2 (o1.getD i 0) (by rw [List.getD_eq_getElem?_getD, List.getElem?_eq_getElem hit]; exact List.getElem_mem _)
        rwa [hol.out] at this
      rw [outV_at _ _ hit] at h2
      have hstep := reachL_step h.objs i o1 hit (by rw [hol.out]; omega)
      rw [hol.out, hrF.out, ob_at hji] at hstep
      generalize o1.getD i 0 = j at h2 hji hstep
      cases h2
      obtain ⟨_, _, c2, _, _, hat⟩ := Hp.read hmq1 (.tail _ (.tail _ (.tail _ (.tail _ (.tail _ hh)))))
      obtain ⟨b3, o3, hA, r1, _⟩ := hat j hji
      have htj := th_ok hok.out hji
      have hrd := fun (W : World) (L1 : List Chunk) (h1 : Mem w0 W L1) (h2 : HpC h ∈ L1) => ((Hp.read h1 h2).2.2.2.2.2 j hji)
      have hrr : ∀ (W : World) (L1 : List Chunk), Mem w0 W L1 → HpC h ∈ L1 → ∀ c, c ∈ (h.ths.getD j th0).chunks → c.ok W := fun W L1 h1 h2 => by obtain ⟨_, _, _, _, h5⟩ := hrd W L1 h1 h2; exact h5
      clear hrd hat
      generalize h.ths.getD j th0 = t at r1 htj hstep hrr
      have hit2 := fun (W : World) (h1 : Mem w0 W (capC h gh gm go S h.ths.length O1 oc1 o1 ++ L)) => itemsI_ok W t htj (hrr W _ h1 (List.mem_append_right _ hh))
      have hvsj : ∀ (W : World), Mem w0 W L → RdC W 2 (.slice t.A t.ob.items.length t.c) (fV t.ob.items) := fun W h1 => by
        obtain ⟨_, h3, _⟩ := Th.reads (hrr W L h1 hh)
        rw [rdV_len h3]
        exact h3
      have hszj : t.ob.items.length ≤ 16777216 := by have := htj.size; omega
      have hst := fun (W : World) (h1 : Mem w0 W (capC h gh gm go S h.ths.length O1 oc1 o1 ++ L)) => hms.out W gh gm go S h.ths.length O1 oc1 o1 hmk.out h1 t.A t.ob.items.length t.c t.ob.items hvsj hszj
      have hmk2 := meetL_ok h.objs t.ob.items o1 hmk.out
      have hge : i + 1 ≤ (meetL h.objs o1 t.ob.items).length := by
        have : o1.length ≤ (meetL h.objs o1 t.ob.items).length := meetL_grow h.objs t.ob.items o1
        omega
      have hv : ∃ T p, t.val = .iface T (.pointer (some ⟨p, 0, none⟩)) := ⟨_, _, rfl⟩
      obtain ⟨T, p, hv⟩ := hv
      rw [hv] at r1 hit2
      rw [hO] at e4
      rw [hA] at c2
      replace hO := Fact.mk hO
      replace hA := Fact.mk hA
      replace hit2 := Fact.mk hit2
      replace hst := Fact.mk hst
      replace hstep := Fact.mk hstep
      replace hmk2 := Fact.mk hmk2
      clear hv hrr hvsj
      go_upto_region 8 with (fail)
      have hmd := hmq.drew
      go_region_law (first | (refine step_inv rfl _ _ _ _ (by rfl) (.iface T (.pointer (some ⟨p, 0, none⟩))) (by rfl) [] (by rfl) ((hit2.out _ hmd).mono ?_); rintro e w2 ⟨rfl, rfl⟩; refine ⟨_, rfl, ?_⟩) | (refine step_fnv rfl _ _ _ (by rfl) (.func (.func 68) #[] #[.pointer (some ⟨gh, 0, none⟩), .pointer (some ⟨gm, 0, none⟩), .pointer (some ⟨go, 0, none⟩)]) (by rfl) [.slice t.A t.ob.items.length t.c] (by rfl) (VCalls.mono ⟨_, _, _, _, rfl, fnReach _ _ _ _ _, hst.out _ hmd⟩ ?_); rintro e w9 ⟨rfl, O9, oc9, hm9⟩; refine ⟨_, rfl, ?_⟩))
      all_goals
        have hmz := hm9
        go_wp2
        go_roundw
        case rel => exact ⟨i + 1, O9, oc9, _, by go_num, hge, ⟨hmk2.out⟩, ⟨hstep.out.symm⟩, hmz⟩
        case measure => exact measP_lt (by omega)
    · have hil : i = o1.length := by omega
      have hFe : o1 = F := by rw [← hrF.out, reachL_end h.objs _ _ _ (by omega)]
      have hif : ((i : Int) < (o1.length : Int)) = False := eq_false (by omega)
      clear hF hrF
      subst hFe
      go_wp2
      go_ret
      exact ⟨O1, oc1, rfl, hmq1.tail.sub ((List.sublist_append_right [_, _, _] L).cons_cons _)⟩
end Go.Proofs.YtpibchjkmaghnaaGreat
namespace Go.Proofs.YtpibchjkmaghnaaGreat
open Go.RowKit Go.Mm
set_option maxHeartbeats 4000000
set_option maxRecDepth 100000
set_option linter.unusedSimpArgs false
def reachSd (s : Hs) (o : HOp) : Sd := ⟨(0, 0), 0, 0, false, ob0, (reachR s.objs o.items).map Int.ofNat⟩
theorem askReach_ok (w0 w : World) (L : List Chunk) (h : Hp) (hm : Mem w0 w (HpC h :: L)) (hok : Fact h.Ok) (o : HOp) (hx : Fact (RdC w0 2 (.slice o.A o.n o.c) (fV o.items))) (hn : o.n ≤ 1048576) :
    Calls Tryz.prog 12 #[.pointer (some ⟨h.g, 0, none⟩), .int .i64 19, .agg (cHO o).toArray] w fun e w' => ∃ v, e = .returned (.tuple #[v, .bool true]) ∧ AskQ w0 L h.g h.abs (reachSd h.abs o) v w' := by
  have hil := Fact.mk (rdV_len hx.out)
  go_enter Tryz.func12, Tryz.ntmps12
  go_upto_region 1 with (fail)
  have hm1 := (hm.alloc (.cells (cHO o).toArray 38)).alloc (.cells (sC 0 0 0 0 false 0 none 0 0 none 0 0 0 0 false none 0 0).toArray 43)
  simp only [World.size_alloc] at hm1
  generalize hgb : w.heap.size = g at hm1 ⊢
  generalize hw1 : (w.alloc (.cells (cHO o).toArray 38)).alloc (.cells (sC 0 0 0 0 false 0 none 0 0 none 0 0 0 0 false none 0 0).toArray 43) = w1 at hm1
  try refine wp_world hw1 ?_
  clear hw1 hgb hm
  have x8 := hm1.cell m1 8 rfl
  go_wp2_with fail
  refine (lentValues_ok w1 o.A o.n o.c o.items ⟨hx.out.gr hm1.below⟩ (by omega)).mono ?_
  rintro e w2 ⟨B, d, rfl, hn2⟩
  have hm2 := hm1.new hn2
  clear hm1 x8 hn2
  have hcap := OwnAt.cap (hm2.ok _ m0)
  have hcap1 : o.n ≤ d := by omega
  obtain ⟨bg, bo, hB⟩ := OwnAt.addr (hm2.ok _ m0) (by omega)
  subst hB
  have x8 := hm2.cell m2 8 rfl
  go_upto_region 4 with (fail)
  have hm3 := hm2.alloc (.cells (sC 0 0 0 0 false 0 none 0 0 none 0 0 0 0 false none 0 0).toArray 43)
  generalize hgb : w2.heap.size = g3 at hm3 ⊢
  generalize hw1 : w2.alloc (.cells (sC 0 0 0 0 false 0 none 0 0 none 0 0 0 0 false none 0 0).toArray 43) = w3 at hm3
  try refine wp_world hw1 ?_
  clear hw1 hgb hm2 x8
  have hm4 := hm3.pull4
  go_wp2_with fail
  refine (reach_ok w0 w3 _ h m0 hok hm4 (some ⟨bg, bo, none⟩) o.n d o.items ⟨fun W hW => rd_pre cV_len (hW.rd m2) hil.out⟩ (by omega)).mono ?_
  rintro e w4 ⟨RA, rc, rfl, hm5⟩
  obtain ⟨ls, hls, hlen⟩ : ∃ ls : List Int, ls = (reachR h.abs.objs o.items).map Int.ofNat ∧ (reachR h.objs o.items).length = ls.length := ⟨_, rfl, (List.length_map _).symm⟩
  rw [hlen, show outV (reachR h.objs o.items) = nums .i64 ls by rw [hls]; rfl] at hm5
  rw [hlen]
  replace hls := Fact.mk hls
  clear hlen
  go_wp2_with (refine wp_setat rfl 31 _ _ rfl g3 11 rfl 43 _ [.slice RA ls.length rc] (sC 0 0 0 0 false 0 none 0 0 none 0 0 0 0 false RA ls.length rc) (.slice RA ls.length rc) rfl rfl hm5.pull2 sz_ints (by simp [sC]) (one_one rfl) rfl ?_; intro w6 hs6; have hm6 := (Mem.nil (Mem.nil hs6 1 none) 2 none).pull2; have x8 := hm6.cell m7 8 rfl)
  refine (keptValues_ok w6 (some ⟨bg, bo, none⟩) o.n d o.A o.c o.items ⟨hm6.rd m5⟩ ⟨hx.out.gr hm6.below⟩ (by omega)).mono ?_
  rintro e w7 ⟨rfl, hg7⟩
  have hm7 := (hm6.gr hg7).pull5
  clear hm6 x8 hg7
  obtain ⟨C0, hC0⟩ : ∃ C0, C0 = fV (o.items ++ marksV 64) := ⟨_, rfl⟩
  have hCl : C0.length = (o.n + 64) * 2 := by rw [hC0]; exact OwnAt.len (hm7.ok _ m0)
  rw [← hC0] at hm7
  clear hC0
  go_wp2
  go_loopw [12] (fun s12 W => ∃ (k : Nat) (C : List Value), s12 = .int .i64 k ∧ k ≤ o.n + 64 ∧ C.length = (o.n + 64) * 2 ∧ Mem w0 W (Own 2 (.slice (some ⟨bg, bo, none⟩) (o.n + 64) d) C :: Blk g3 (.cells (sC 0 0 0 0 false 0 none 0 0 none 0 0 0 0 false RA ls.length rc).toArray 43) :: Own 2 (.slice none 0 0) [] :: Own 1 (.slice none 0 0) [] :: Own 1 (.slice RA ls.length rc) (nums .i64 ls) :: HpC h :: Blk (g + 1) (.cells (sC 0 0 0 0 false 0 none 0 0 none 0 0 0 0 false none 0 0).toArray 43) :: Blk g (.cells (cHO o).toArray 38) :: L)) (fun s12 _ => o.n + 64 - (intOf s12).toNat)
  case atStart => exact ⟨0, C0, rfl, by omega, hCl, hm7⟩
  case round =>
    obtain ⟨k, C, rfl, hk, hC, hmr⟩ := hrel
    clear hm7 hCl
    by_cases hlt : k < o.n + 64
    · have wrapk : wrap64 ((k : Int) + 1) = (k : Int) + 1 := IntWalk.wrap64_in _ (by omega)
      have hC' : (C.take (k * 2) ++ [(.int .i64 77 : Value), .int .i64 (k : Int)] ++ C.drop (k * 2 + 2)).length = (o.n + 64) * 2 := by simp only [List.length_append, List.length_take, List.length_drop, List.length_cons, List.length_nil, hC]; omega
      replace hC' := Fact.mk hC'
      replace hC := Fact.mk hC
      go_wp2_with (refine wp_ownrow rfl 35 _ _ rfl (bo + k * 2) (k * 2) rfl rfl [.int .i64 77, .int .i64 (k : Int)] rfl hmr sz_V (by rw [hC.out]; simp; omega) (cV_one (77, (k : Int))) ?_; intro w9 hm9)
      go_roundw
      case rel => exact ⟨k + 1, _, by go_num, by omega, hC'.out, hm9⟩
      case measure => exact measP_lt hlt
    · obtain rfl : k = o.n + 64 := by omega
      go_wp2_with (first | (refine wp_rng rfl 43 _ rfl g3 0 rfl (sC 0 0 0 0 false 0 none 0 0 none 0 0 0 0 false RA ls.length rc) (rng_blk hmr m1) row_S sz_S ?_) | (refine wp_setrow rfl 43 _ _ rfl (g + 1) rfl 43 _ (sC 0 0 0 0 false 0 none 0 0 none 0 0 0 0 false RA ls.length rc) rfl hmr.pull6 sz_S rfl (sC_one _ _ _ _ _ _ _ _ _ _ _ _ _ _ _ _ _ _) ?_; intro w9 hm9))
      have hz := (hm9.tail.tail.tail).sub (List.Sublist.cons_cons _ (List.Sublist.cons_cons _ (List.Sublist.cons_cons _ (List.Sublist.cons_cons _ (List.sublist_cons_self _ _)))))
      refine bodyPost_ret (Mm.res_cell_tmp rfl _ (g + 1) 43 (sC 0 0 0 0 false 0 none 0 0 none 0 0 0 0 false RA ls.length rc) (0, 0) rfl hm9 m0 row_S sz_S) rfl ⟨_, rfl, h, rfl, rfl, hok.out, ?_⟩
      rw [show reachSd h.abs o = ⟨(0, 0), 0, 0, false, ob0, ls⟩ by rw [hls.out]; rfl]
      exact ⟨none, 0, none, 0, RA, rc, rfl, hz⟩
theorem tellM_reach (w0 w : World) (L : List Chunk) (h : Rf) (hm : Mem w0 w (RfC h :: L)) (hok : Fact h.Ok) (o : HOp) (hg : Fact h.abs.Good) (hx : Fact (RdC w0 2 (.slice o.A o.n o.c) (fV o.items))) (hn : o.n ≤ 1048576) :
    Calls Tryz.prog 34 #[.pointer (some ⟨h.g, 0, none⟩), .int .i64 19, .agg (cHO o).toArray] w fun e w' => ∃ v, e = .returned v ∧ TellQ w0 L h.g h.abs (reachSd h.abs o) v w' := by
  go_enter Tryz.func34, Tryz.ntmps34
  go_upto_region 2 with (fail)
  have hm1 := ((hm.alloc (.cells (cHO o).toArray 38)).alloc (.cells (sC 0 0 0 0 false 0 none 0 0 none 0 0 0 0 false none 0 0).toArray 43)).alloc (.cells (sC 0 0 0 0 false 0 none 0 0 none 0 0 0 0 false none 0 0).toArray 43)
  simp only [World.size_alloc] at hm1
  generalize hgb : w.heap.size = g at hm1 ⊢
  generalize hw1 : ((w.alloc (.cells (cHO o).toArray 38)).alloc (.cells (sC 0 0 0 0 false 0 none 0 0 none 0 0 0 0 false none 0 0).toArray 43)).alloc (.cells (sC 0 0 0 0 false 0 none 0 0 none 0 0 0 0 false none 0 0).toArray 43) = w1 at hm1
  try refine wp_world hw1 ?_
  clear hw1 hgb
  replace hm1 := hm1.pull3
  have x8 := hm1.cell m3 8 rfl
  obtain ⟨_, _, c2, _⟩ := Rf.read hm1 m0
  have hmd := hm1.drew
  go_upto_region 20 with (fail)
  go_still_tail 6, (by kernel_rfl)
  change wpList _ _ _ _ _ w1.drew
  generalize w1.drew = w1 at hmd ⊢
  go_wp2_with fail
  refine (refReach_ok w0 w1 _ h hmd m0 hok hg o.A o.n o.c o.items ⟨fun W hW => hx.out.gr hW.below⟩ (by omega)).mono ?_
  rintro e w2 ⟨RA, rc, rfl, hm2⟩
  clear hm1 x8 c2 hmd
  obtain ⟨ls, hls, hlen⟩ : ∃ ls : List Int, ls = (reachR h.abs.objs o.items).map Int.ofNat ∧ (reachR h.abs.objs o.items).length = ls.length := ⟨_, rfl, (List.length_map _).symm⟩
  rw [hlen, show outV (reachR h.abs.objs o.items) = nums .i64 ls by rw [hls]; rfl] at hm2
  rw [hlen]
  replace hls := Fact.mk hls
  clear hlen
  go_wp2_with (first | (refine wp_setat rfl 31 _ _ rfl (g + 1 + 1) 11 rfl 43 _ [.slice RA ls.length rc] (sC 0 0 0 0 false 0 none 0 0 none 0 0 0 0 false RA ls.length rc) (.slice RA ls.length rc) rfl rfl hm2.pull2 sz_ints (by simp [sC, obC]) (one_one rfl) rfl ?_; intro w3 hs3) | (refine wp_rng rfl 43 _ rfl (g + 1 + 1) 0 rfl (sC 0 0 0 0 false 0 none 0 0 none 0 0 0 0 false RA ls.length rc) (rng_blk hs3 m0) row_S sz_S ?_) | (refine wp_setrow rfl 43 _ _ rfl (g + 1) rfl 43 _ (sC 0 0 0 0 false 0 none 0 0 none 0 0 0 0 false RA ls.length rc) rfl hs3.pull3 sz_S rfl (sC_one _ _ _ _ _ _ _ _ _ _ _ _ _ _ _ _ _ _) ?_; intro w4 hs4))
  have hz := Mem.nil (Mem.nil ((hs4.tail.tail).sub (List.Sublist.cons_cons _ (List.Sublist.cons_cons _ (List.sublist_cons_self _ _)))) 1 none) 2 none
  refine bodyPost_ret (Mm.res_cell rfl _ (g + 1) 43 (sC 0 0 0 0 false 0 none 0 0 none 0 0 0 0 false RA ls.length rc) (0, 0) rfl hs4 m0 row_S sz_S) rfl ⟨_, rfl, h, rfl, rfl, hok.out, ?_⟩
  rw [show reachSd h.abs o = ⟨(0, 0), 0, 0, false, ob0, ls⟩ by rw [hls.out]; rfl]
  exact ⟨none, 0, none, 0, RA, rc, rfl, hz⟩
end Go.Proofs.YtpibchjkmaghnaaGreat
namespace Go.Proofs.YtpibchjkmaghnaaGreat
open Go.RowKit Go.Mm
set_option maxHeartbeats 4000000
set_option maxRecDepth 100000
set_option linter.unusedSimpArgs false
def allR (c : Nat) (s : Hs) (o : HOp) : Sd := if c = 19 then reachSd s o else callR c s o
theorem mem_19 {c : Nat} (h : c ∈ [0, 1, 2, 3, 4, 5, 6, 7, 8, 9, 10, 11, 12, 13, 14, 15, 16, 17, 18, 19]) (h' : c ≠ 19) : c ∈ [0, 1, 2, 3, 4, 5, 6, 7, 8, 9, 10, 11, 12, 13, 14, 15, 16, 17, 18] := by
  simp only [List.mem_cons, List.not_mem_nil, or_false] at h ⊢
  omega
theorem reachSd_size {h : Hp} (hok : h.Ok) (o : HOp) : (reachSd h.abs o).ob.items.length ≤ 16777216 ∧ (reachSd h.abs o).ob.keys.length ≤ 16777216 ∧ (reachSd h.abs o).list.length ≤ 16777216 := by
  refine ⟨by simp [reachSd, ob0], by simp [reachSd, ob0], ?_⟩
  have h1 := (reachR_ok h.abs.objs o.items).len
  have h2 := hok.size
  have h3 := h.abs_len'
  simp only [reachSd, List.length_map]
  omega
theorem all_play (w0 : World) : PlayG w0 [0, 1, 2, 3, 4, 5, 6, 7, 8, 9, 10, 11, 12, 13, 14, 15, 16, 17, 18, 19] callS allR := by
  refine ⟨fun c hc r w L o hm hok hg hx hn hw hl => ?_, fun c hc h w L o hm hok hf hx hn hw hl => ?_, fun c hc s o => callS_grow c s o, fun c hc s o h => callS_few c s o h, fun c hc h o hok hn => ?_⟩
  · by_cases q : c = 19
    · subst q
      exact told_more w0 w L r hm 19 (by omega) (by omega) _ _ o ⟨fun w1 L1 hm1 => tellM_reach w0 w1 L1 r hm1 ⟨hok⟩ o ⟨hg⟩ ⟨hx⟩ hn⟩
    · rw [allR, if_neg q]
      exact (calls_play w0).told c (mem_19 hc q) r w L o hm hok hg hx hn hw hl
  · by_cases q : c = 19
    · subst q
      exact askReach_ok w0 w L h hm ⟨hok⟩ o ⟨hx⟩ hn
    · rw [allR, if_neg q]
      exact (calls_play w0).ask c (mem_19 hc q) h w L o hm hok hf hx hn hw hl
  · by_cases q : c = 19
    · subst q
      exact reachSd_size hok o
    · rw [allR, if_neg q]
      exact (calls_play w0).size c (mem_19 hc q) h o hok hn
theorem mem20 {j : Nat} (h : j < 20) : j ∈ [0, 1, 2, 3, 4, 5, 6, 7, 8, 9, 10, 11, 12, 13, 14, 15, 16, 17, 18, 19] := by
  simp only [List.mem_cons, List.not_mem_nil, or_false]
  omega
structure TwGood (h : Hp) (r : Rf) (k : Nat) : Prop where
  ok : h.Ok
  few : h.abs.Few
  rok : r.Ok
  abs : r.abs = h.abs
  len : h.ths.length ≤ 2097152 + k
end Go.Proofs.YtpibchjkmaghnaaGreat
namespace Go.Proofs.YtpibchjkmaghnaaGreat
open Go.RowKit Go.Mm
set_option maxHeartbeats 4000000
set_option maxRecDepth 100000
set_option linter.unusedSimpArgs false
structure Fr where
  fn : Int
  pc : Int
  A : Option Addr
  n : Nat
  c : Nat
  sl : List V2
def fr0 : Fr := ⟨0, 0, none, 0, 0, []⟩
def slot (y : Fr) : Chunk := Own 2 (.slice y.A y.n y.c) (fV y.sl)
def slots (ys : List Fr) : List Chunk := ys.map slot
def sv (y : Fr) : Value := .slice y.A y.n y.c
def svs (ys : List Fr) : List Value := ys.map sv
theorem svs_one (ys : List Fr) : One (svs ys) := fun u hu => by
  obtain ⟨y, _, rfl⟩ := List.mem_map.1 hu
  rfl
theorem svs_len (ys : List Fr) : (svs ys).length = ys.length := by simp [svs]
theorem svs_at (ys : List Fr) (k : Nat) (h : k < ys.length) : (svs ys)[k]? = some (sv (ys.getD k fr0)) := by simp [svs, h]
theorem svs_set (ys : List Fr) (k : Nat) (y : Fr) (h : k < ys.length) (hy : sv y = sv (ys.getD k fr0)) : svs (ys.set k y) = svs ys := by
  apply List.ext_getElem?
  intro i
  simp only [svs, List.getElem?_map, List.getElem?_set]
  by_cases hik : k = i
  · subst hik
    simp only [if_pos h, if_true, Option.map_some]
    rw [getD_some ys fr0 k h]
    simp [hy]
  · rw [if_neg hik]
theorem slots_get {w0 w : World} {ys : List Fr} {R : List Chunk} {k : Nat} (hk : k < ys.length) (h : Mem w0 w (slots ys ++ R)) : Mem w0 w (slot (ys.getD k fr0) :: (slots (ys.eraseIdx k) ++ R)) := by
  refine h.perm ?_
  have e : ys.getD k fr0 = ys[k] := by simp [hk]
  rw [e]
  have := ((perm_front ys k hk).map slot).append_right R
  simpa [slots] using this
theorem slots_put {w0 w : World} {ys : List Fr} {R : List Chunk} {k : Nat} {y : Fr} (hk : k < ys.length) (h : Mem w0 w (slot y :: (slots (ys.eraseIdx k) ++ R))) : Mem w0 w (slots (ys.set k y) ++ R) := by
  refine h.perm ?_
  have := ((perm_front (ys.set k y) k (by simpa using hk)).map slot).append_right R
  rw [List.eraseIdx_set_eq] at this
  simpa [slots] using this.symm
theorem Mem.convV {α : Type} {w0 w : World} (f g : α → Chunk) (hf : ∀ x k, (g x).foot k → (f x).foot k) (ho : ∀ x, (f x).ok w → (g x).ok w) : ∀ (xs : List α) (A R : List Chunk), Mem w0 w (A ++ (xs.map f ++ R)) → Mem w0 w (A ++ (xs.map g ++ R))
  | [], _, _, h => h
  | x :: xs, A, R, h => by
    have h1 : Mem w0 w (f x :: (A ++ (xs.map f ++ R))) := h.perm (by simp only [List.map_cons, List.cons_append]; exact List.perm_middle)
    have h2 : Mem w0 w (g x :: (A ++ (xs.map f ++ R))) := h1.upd ⟨rfl, rfl, rfl, Nat.le_refl _, fun _ _ _ => rfl⟩ (ho x (h1.ok _ m0)) (fun k hk => .inl (hf x k hk))
    have h3 : Mem w0 w ((g x :: A) ++ (xs.map g ++ R)) := Mem.convV f g hf ho xs (g x :: A) R h2
    exact h3.perm (by simp only [List.map_cons, List.cons_append]; exact List.perm_middle.symm)
def extc (p : Fr × Fr) : Chunk := Ext 2 (sv p.2) (fV p.2.sl) (sv p.1) (fV p.1.sl)
def exts (ps : List (Fr × Fr)) : List Chunk := ps.map extc
def pr0 : Fr × Fr := (fr0, fr0)
theorem exts_start {w0 w : World} {ys : List Fr} {R : List Chunk} (h : Mem w0 w (slots ys ++ R)) : Mem w0 w (exts (ys.map fun y => (y, y)) ++ R) := by
  have := Mem.convV (fun y : Fr => slot y) (fun y => extc (y, y)) (fun x k hk => hk.elim id id) (fun x hx => OwnAt.ext hx) ys [] R h
  simpa [exts, List.map_map, Function.comp_def] using this
theorem exts_get {w0 w : World} {ys : List (Fr × Fr)} {R : List Chunk} {k : Nat} (hk : k < ys.length) (h : Mem w0 w (exts ys ++ R)) : Mem w0 w (extc (ys.getD k pr0) :: (exts (ys.eraseIdx k) ++ R)) := by
  refine h.perm ?_
  have e : ys.getD k pr0 = ys[k] := by simp [hk]
  rw [e]
  have := ((perm_front ys k hk).map extc).append_right R
  simpa [exts] using this
theorem exts_put {w0 w : World} {ys : List (Fr × Fr)} {R : List Chunk} {k : Nat} {y : Fr × Fr} (hk : k < ys.length) (h : Mem w0 w (extc y :: (exts (ys.eraseIdx k) ++ R))) : Mem w0 w (exts (ys.set k y) ++ R) := by
  refine h.perm ?_
  have := ((perm_front (ys.set k y) k (by simpa using hk)).map extc).append_right R
  rw [List.eraseIdx_set_eq] at this
  simpa [exts] using this.symm
/-- The marks of a list. -/
def markA (k i : Nat) : V2 := (-10 - (k : Int), (i : Int))
def marksA (k n : Nat) : List V2 := (List.range n).map (markA k)
theorem marksA_len (k n : Nat) : (marksA k n).length = n := by simp [marksA]
theorem marksA_succ (k n : Nat) : marksA k (n + 1) = marksA k n ++ [markA k n] := by simp [marksA, List.range_succ]
theorem marksA_at (k n i : Nat) (h : i < n) : (marksA k n).getD i (0, 0) = (-10 - (k : Int), (i : Int)) := by simp [marksA, h, markA]
theorem fV_put (xs : List V2) (i : Nat) (x : V2) (h : i < xs.length) : (fV xs).take (i * 2) ++ cV x ++ (fV xs).drop (i * 2 + (cV x).length) = fV (xs.set i x) := by
  rw [List.set_eq_take_append_cons_drop, if_pos h, show i * 2 + (cV x).length = (i + 1) * 2 by rw [cV_len]; omega]
  have e1 : (fV xs).take (i * 2) = fV (xs.take i) := (flatMap_take cV 2 cV_len xs i).symm
  have e2 : (fV xs).drop ((i + 1) * 2) = fV (xs.drop (i + 1)) := (flatMap_drop cV 2 cV_len xs (i + 1)).symm
  rw [e1, e2]
  simp [fV]
theorem take_set_snoc (xs : List V2) (k i : Nat) (h : i < xs.length) (hp : xs.take i = marksA k i) : (xs.set i (markA k i)).take (i + 1) = marksA k (i + 1) := by
  rw [marksA_succ, List.take_succ_eq_append_getElem (by simpa using h), List.take_set_of_le (Nat.le_refl _), hp]
  simp
theorem ty_ApVVs : Tryz.prog.underlying 57 = some (.slice 36) := by kernel_rfl
theorem inf_ApVs : (Tryz.prog.info? 36).map (fun i => (i.zero, i.size, i.bytes)) = some (some (.slice none 0 0), 1, 24) := by kernel_rfl
theorem apartValues_ok (w0 w : World) (A : Option Addr) (m c N : Nat) (ys : List Fr) (L : List Chunk) (hm : Mem w0 w (slots ys ++ (Own 1 (.slice A m c) (svs ys) :: L))) (hl : Fact (ys.length = m)) (hN : Fact (∀ y, y ∈ ys → y.n ≤ N)) (hmm : m ≤ 16777216) (hNN : N ≤ 4194304) :
    Calls Tryz.prog 45 #[.slice A m c] w fun e w' => e = .returned (.bool true) ∧ Mem w0 w' L := by
  obtain ⟨iV, hi, hz0, hz1, hz2⟩ := info_parts inf_V
  obtain ⟨iS, si, sz0, sz1, sz2⟩ := info_parts inf_ApVs
  go_enter Tryz.func45, Tryz.ntmps45
  go_wp2
  go_loopw [3] (fun v w' => ∃ (k : Nat) (zs : List Fr), v = .int .i64 k ∧ k ≤ m ∧ Mem w0 w' (slots zs ++ (Own 1 (.slice A m c) (svs zs) :: L)) ∧ Fact (zs.length = m ∧ (∀ z, z ∈ zs → z.n ≤ N) ∧ ∀ j, j < k → (zs.getD j fr0).sl = marksA j (zs.getD j fr0).n)) (fun v _ => m - (intOf v).toNat)
  case atStart => exact ⟨0, ys, rfl, by omega, hm, ⟨hl.out, hN.out, fun j hj => by omega⟩⟩
  case round =>
    clear hm hl hN ys
    obtain ⟨k, zs, rfl, hk, hm, hz⟩ := hrel
    by_cases hlt : k < m
    · have hlen := hz.out.1
      have hrd := Fact.mk (hm.rd (size := 1) (v := .slice A m c) (xs := svs zs) (by simp))
      obtain ⟨bo, oo, c0, rfl, h1, h2, _, _⟩ := hrd.out.at1 k hlt
      rw [svs_at zs k (by omega)] at h2
      cases h2
      have hm1 := slots_get (k := k) (by omega) hm
      have hy : zs.getD k fr0 ∈ zs := List.mem_of_getElem? (getD_some zs fr0 k (by omega))
      have hxe : ∃ x, Fact (zs.getD k fr0 = x) := ⟨_, ⟨rfl⟩⟩
      obtain ⟨x, hxe⟩ := hxe
      rw [hxe.out] at h1 hm1 hy
      have hxn := hz.out.2.1 _ hy
      obtain ⟨xfn, xpc, xA, xn, xc, xsl⟩ := x
      simp only [sv] at h1
      have hl1 : xsl.length = xn := rdV_len (hm1.ok _ m0).rd
      have hz := Fact.mk hz.out
      clear hm hrd hy hlen
      go_wp2
      obtain ⟨wo, hwo⟩ : ∃ wo : World, wo = wr := ⟨_, rfl⟩
      rw [← hwo] at h1 hm1 ⊢
      clear hwo
      go_loopw [4] (fun v w' => ∃ (i : Nat) (sl : List V2), v = .int .i64 i ∧ i ≤ xn ∧ Mem w0 w' (slot ⟨xfn, xpc, xA, xn, xc, sl⟩ :: (slots (zs.eraseIdx k) ++ (Own 1 (.slice (some ⟨bo, oo, none⟩) m c) (svs zs) :: L))) ∧ Fact (sl.length = xn ∧ sl.take i = marksA k i)) (fun v _ => xn - (intOf v).toNat)
      case atStart => exact ⟨0, xsl, rfl, by omega, hm1, ⟨hl1, by simp [marksA]⟩⟩
      case round =>
        clear hm1 h1 hl1
        obtain ⟨i, sl, rfl, hi1, hm, hs⟩ := hrel
        have hrd := hm.rd (size := 1) (v := .slice (some ⟨bo, oo, none⟩) m c) (xs := svs zs) (by simp)
        obtain ⟨_, _, c0, e, h1, h2, _, _⟩ := hrd.at1 k hlt
        cases e
        rw [svs_at zs k (by have := hz.out.1; omega), hxe.out] at h2
        cases h2
        simp only [sv] at h1
        clear hrd
        by_cases hlt2 : i < xn
        · have hxx : ∃ g off, xA = some ⟨g, off, none⟩ := by
            obtain ⟨g, off, us, e, _⟩ := (hm.ok _ m0).rd.at (by omega) i hlt2
            exact ⟨g, off, e⟩
          obtain ⟨g, off, rfl⟩ := hxx
          go_wp2_with (refine wp_ownrow rfl 35 _ _ rfl (off + i * 2) (i * 2) rfl rfl [.int .i64 (-10 - (k : Int)), .int .i64 (i : Int)] rfl hm sz_V (by rw [fV_len, hs.out.1]; simp; omega) (cV_one (-10 - (k : Int), (i : Int))) ?_; intro w2 hm2)
          go_roundw
          case rel =>
            refine ⟨i + 1, sl.set i (markA k i), by go_num, by omega, ?_, ⟨by simpa using hs.out.1, take_set_snoc sl k i (by have := hs.out.1; omega) hs.out.2⟩⟩
            have e := fV_put sl i (markA k i) (by have := hs.out.1; omega)
            unfold slot
            rw [← e]
            exact hm2
          case measure => simp [intOf]; omega
        · obtain rfl : i = xn := by omega
          go_wp2
          go_roundw
          case rel =>
            have hs1 := hs.out
            rw [List.take_of_length_le (by omega)] at hs1
            have hz1 := hz.out
            have hsv : svs (zs.set k ⟨xfn, xpc, xA, i, xc, sl⟩) = svs zs := svs_set zs k _ (by omega) (by rw [hxe.out]; rfl)
            refine ⟨k + 1, zs.set k ⟨xfn, xpc, xA, i, xc, sl⟩, by go_num, by omega, ?_, ⟨by simpa using hz1.1, fun z hz => ?_, fun j hj => ?_⟩⟩
            · rw [hsv]
              exact slots_put (by omega) hm
            · rcases List.mem_or_eq_of_mem_set hz with h | rfl
              · exact hz1.2.1 z h
              · exact hxn
            · rw [getD_set _ _ _ _ _ (by omega)]
              by_cases e : j = k
              · subst e; rw [if_pos rfl]; exact hs1.2
              · rw [if_neg e]; exact hz1.2.2 j (by omega)
          case measure => simp [intOf]; omega
    · obtain rfl : k = m := by omega
      have hz := Fact.mk hz.out
      have hm := exts_start hm
      go_wp2
      obtain ⟨wo, hwo⟩ : ∃ wo : World, wo = wr := ⟨_, rfl⟩
      rw [← hwo] at hm ⊢
      clear hwo
      go_loopw [5, 6] (fun l v w' => ∃ (j : Nat) (B : Option Addr) (d : Nat) (ps : List (Fr × Fr)), v = .int .i64 j ∧ j ≤ k ∧ l = .slice B j d ∧ Mem w0 w' (exts ps ++ (Own 1 (.slice A k c) (svs zs) :: Own 1 (.slice B j d) (svs ((ps.map Prod.snd).take j)) :: L)) ∧ Fact (ps.map Prod.fst = zs ∧ (∀ i, j ≤ i → i < k → (ps.getD i pr0).2 = zs.getD i fr0) ∧ ∀ i, i < j → (ps.getD i pr0).2.n = (zs.getD i fr0).n + 64 ∧ (ps.getD i pr0).2.sl = marksA i ((zs.getD i fr0).n + 64))) (fun _ v _ => k - (intOf v).toNat)
      case atStart =>
        refine ⟨0, none, 0, zs.map fun y => (y, y), rfl, by omega, rfl, ?_, ⟨by simp [List.map_map, Function.comp_def], fun i _ hi => ?_, fun i hi => by omega⟩⟩
        · exact (hm.nil 1 none).unmid2
        · rw [List.getD_eq_getElem?_getD, List.getElem?_map, getD_some zs fr0 i (by have := hz.out.1; omega)]; rfl
      case round =>
        clear hm
        obtain ⟨j, B, d, ps, rfl, hj, rfl, hm, hp⟩ := hrel
        have hpl : ps.length = k := by have := congrArg List.length hp.out.1; simpa [hz.out.1] using this
        have hpl := Fact.mk hpl
        by_cases hlt2 : j < k
        · have hrd := hm.rd (size := 1) (v := .slice A k c) (xs := svs zs) (by simp)
          obtain ⟨bo, oo, c0, rfl, h1, h2, _, _⟩ := hrd.at1 j hlt2
          rw [svs_at zs j (by have := hz.out.1; omega)] at h2
          cases h2
          have hm1 := exts_get (k := j) (by have := hpl.out; omega) hm
          have hfst : (ps.getD j pr0).1 = zs.getD j fr0 := by
            have e := hp.out.1
            rw [← e, getD_map Prod.fst ps j pr0 fr0 (by have := hpl.out; omega)]
          have hsnd := hp.out.2.1 j (Nat.le_refl _) hlt2
          have hpe : ps.getD j pr0 = (zs.getD j fr0, zs.getD j fr0) := Prod.ext hfst hsnd
          rw [hpe] at hm1
          have hy : zs.getD j fr0 ∈ zs := List.mem_of_getElem? (getD_some zs fr0 j (by have := hz.out.1; omega))
          have hxe : ∃ x, Fact (zs.getD j fr0 = x) := ⟨_, ⟨rfl⟩⟩
          obtain ⟨x, hxe⟩ := hxe
          have hxm := hz.out.2.2 j (by omega)
          rw [hxe.out] at h1 hm1 hy hxm
          have hxn := hz.out.2.1 _ hy
          obtain ⟨xfn, xpc, xA, xn, xc, xsl⟩ := x
          simp only [sv] at h1
          try dsimp only at hxm
          try dsimp only at hxn
          subst hxm
          clear hm hrd hy hfst hsnd hpe
          go_wp2
          obtain ⟨wp, hwp⟩ : ∃ wp : World, wp = wr := ⟨_, rfl⟩
          rw [← hwp] at h1 hm1 ⊢
          clear hwp
          go_loopw [7, 8] (fun l v w' => ∃ (i : Nat) (C : Option Addr) (e : Nat), v = .int .i64 i ∧ i ≤ 64 ∧ l = .slice C (xn + i) e ∧ Mem w0 w' (Ext 2 (.slice C (xn + i) e) (fV (marksA j (xn + i))) (.slice xA xn xc) (fV (marksA j xn)) :: (exts (ps.eraseIdx j) ++ (Own 1 (.slice (some ⟨bo, oo, none⟩) k c) (svs zs) :: Own 1 (.slice B j d) (svs ((ps.map Prod.snd).take j)) :: L)))) (fun _ v _ => 64 - (intOf v).toNat)
          case atStart => exact ⟨0, xA, xc, rfl, by omega, rfl, hm1⟩
          case round =>
            clear hm1 h1
            obtain ⟨i, C, e, rfl, hi1, rfl, hm⟩ := hrel
            have hrd := hm.rd (size := 1) (v := .slice (some ⟨bo, oo, none⟩) k c) (xs := svs zs) (by simp)
            obtain ⟨_, _, c0, e0, h1, h2, _, _⟩ := hrd.at1 j hlt2
            cases e0
            rw [svs_at zs j (by have := hz.out.1; omega), hxe.out] at h2
            cases h2
            simp only [sv] at h1
            clear hrd
            by_cases hlt3 : i < 64
            · go_wp2_with (at_builtin; refine wp_appe rfl _ _ _ rfl 35 iV _ 2 16 ty_Vs hi hz0 hz1 hz2 rfl C (xn + i) e _ _ _ rfl (L := Blk _ _ :: _) (hm.alloc _).swap _ 1 1 [.int .i64 (-10 - (j : Int)), .int .i64 ((xn : Int) + (i : Int))] rfl (RdC.lit _ _ _ _ _ rfl (by simp [maxLen]) (cV_one (-10 - (j : Int), (xn : Int) + (i : Int)))) (by unfold maxLen; omega) (by omega) ?_; intro C1 e1 w2 hm2)
              go_roundw
              case rel =>
                refine ⟨i + 1, C1, e1, by go_num, by omega, rfl, ?_⟩
                have hm3 := hm2.sub (.cons_cons _ (.cons _ (List.Sublist.refl _)))
                rw [show xn + (i + 1) = xn + i + 1 by omega, marksA_succ, fV_app]
                exact hm3
              case measure => simp [intOf]; omega
            · obtain rfl : i = 64 := by omega
              go_wp2_with (at_builtin; refine wp_app rfl _ _ _ rfl 36 iS _ 1 24 ty_ApVVs si sz0 sz1 sz2 rfl B j d _ rfl (Mem.mid2 (A := _ :: _ :: exts (ps.eraseIdx j)) (hm.alloc _)) _ 1 1 [.slice C (xn + 64) e] rfl (RdC.lit _ _ _ _ _ rfl (by simp [maxLen]) (svs_one [⟨0, 0, C, xn + 64, e, []⟩])) (by unfold maxLen; omega) (by omega) ?_; intro B1 d1 w2 hm2)
              go_roundw
              case rel =>
                have hm3 := Mem.unmid2 (A := extc (⟨xfn, xpc, xA, xn, xc, marksA j xn⟩, ⟨0, 0, C, xn + 64, e, marksA j (xn + 64)⟩) :: exts (ps.eraseIdx j)) (hm2.sub (.cons_cons _ (.cons _ (List.Sublist.refl _))))
                have hm4 := exts_put (k := j) (by have := hpl.out; omega) hm3
                have hp1 := hp.out
                have e0 : (ps.map Prod.snd).take j ++ [⟨0, 0, C, xn + 64, e, marksA j (xn + 64)⟩] = ((ps.set j (⟨xfn, xpc, xA, xn, xc, marksA j xn⟩, ⟨0, 0, C, xn + 64, e, marksA j (xn + 64)⟩)).map Prod.snd).take (j + 1) := by
                  rw [List.map_set, List.take_succ_eq_append_getElem (by simp; have := hpl.out; omega), List.take_set_of_le (Nat.le_refl _)]
                  simp
                refine ⟨j + 1, B1, d1, ps.set j (⟨xfn, xpc, xA, xn, xc, marksA j xn⟩, ⟨0, 0, C, xn + 64, e, marksA j (xn + 64)⟩), by go_num, by omega, rfl, ?_, ⟨?_, fun i h1 h2 => ?_, fun i h1 => ?_⟩⟩
                rotate_left 1
                · rw [List.map_set, hp1.1]
                  apply List.ext_getElem?
                  intro i
                  rw [List.getElem?_set]
                  by_cases e : j = i
                  · subst e
                    have := hz.out.1
                    rw [if_pos rfl, if_pos (by omega), getD_some zs fr0 j (by omega), hxe.out]
                  · rw [if_neg e]
                · rw [getD_set _ _ _ _ _ (by have := hpl.out; omega), if_neg (by omega)]
                  exact hp1.2.1 i (by omega) h2
                · rw [getD_set _ _ _ _ _ (by have := hpl.out; omega)]
                  by_cases e : i = j
                  · subst e; rw [if_pos rfl, hxe.out]; exact ⟨rfl, rfl⟩
                  · rw [if_neg e]; exact hp1.2.2 i (by omega)
                · rw [← e0]
                  simpa [svs, sv] using hm4
              case measure => simp [intOf]; omega
        · obtain rfl : j = k := by omega
          have hps : (ps.map Prod.snd).take j = ps.map Prod.snd := List.take_of_length_le (by simp; have := hpl.out; omega)
          rw [hps] at hm
          clear hps hlt2
          go_wp2
          obtain ⟨wo, hwo⟩ : ∃ wo : World, wo = wr := ⟨_, rfl⟩
          rw [← hwo] at hm ⊢
          clear hwo
          go_loopw [9] (fun v w' => ∃ (k : Nat), v = .int .i64 k ∧ k ≤ j ∧ Gr wo w') (fun v _ => j - (intOf v).toNat)
          case atStart => exact ⟨0, rfl, by omega, Gr.refl _⟩
          case round =>
            obtain ⟨k, rfl, hk, hg⟩ := hrel
            have hmr := hm.gr hg
            by_cases hlt2 : k < j
            · have hrd := hmr.rd (size := 1) (v := .slice A j c) (xs := svs zs) (by simp)
              obtain ⟨bo, oo, c0, rfl, h1, h2, _, _⟩ := hrd.at1 k hlt2
              rw [svs_at zs k (by have := hz.out.1; omega)] at h2
              cases h2
              have hrd2 := hmr.rd (size := 1) (v := .slice B j d) (xs := svs (ps.map Prod.snd)) (by simp)
              obtain ⟨bg, og, c0, rfl, g1, g2, _, _⟩ := hrd2.at1 k hlt2
              rw [svs_at _ k (by simp; have := hpl.out; omega), getD_map Prod.snd ps k pr0 fr0 (by have := hpl.out; omega)] at g2
              cases g2
              have hfst : (ps.getD k pr0).1 = zs.getD k fr0 := by
                have e := hp.out.1
                rw [← e, getD_map Prod.fst ps k pr0 fr0 (by have := hpl.out; omega)]
              have hpm : ps.getD k pr0 ∈ ps := List.mem_of_getElem? (getD_some ps pr0 k (by have := hpl.out; omega))
              have hext := hmr.ok (extc (ps.getD k pr0)) (List.mem_append.2 (.inl (List.mem_map.2 ⟨_, hpm, rfl⟩)))
              have q1 := (hp.out.2.2 k (by omega)).1
              have q2 := (hp.out.2.2 k (by omega)).2
              have q3 := hz.out.2.2 k (by omega)
              have hy : zs.getD k fr0 ∈ zs := List.mem_of_getElem? (getD_some zs fr0 k (by have := hz.out.1; omega))
              have q4 := hz.out.2.1 _ hy
              have r1 := hext.1.rd
              have r2 := ExtAt.rd0 hext
              rw [hfst] at r2
              clear hfst hpm hext hrd hrd2 hy
              generalize zs.getD k fr0 = x at *
              generalize (ps.getD k pr0).2 = y at *
              obtain ⟨xfn, xpc, xA, xn, xc, xsl⟩ := x
              obtain ⟨yfn, ypc, yA, yn, yc, ysl⟩ := y
              simp only [sv] at h1 g1 r1 r2
              try dsimp only at q1 q2 q3 q4
              subst q3
              subst q1
              subst q2
              have r1 := Fact.mk r1
              have r2 := Fact.mk r2
              have hgk := Fact.mk hg
              clear hm hmr hp hz hg
              have h1 := Fact.mk h1
              have g1 := Fact.mk g1
              have h2' := h1.out
              have g2' := g1.out
              go_wp2
              obtain ⟨wk, hwk⟩ : ∃ wk : World, wk = wr := ⟨_, rfl⟩
              rw [← hwk] at h1 g1 r1 r2 hgk ⊢
              clear hwk h2' g2'
              go_loopw [10] (fun v w' => ∃ (i : Nat), v = .int .i64 i ∧ i ≤ xn + 64 ∧ Gr wk w') (fun v _ => xn + 64 - (intOf v).toNat)
              case atStart => exact ⟨0, rfl, by omega, Gr.refl _⟩
              case round =>
                obtain ⟨i, rfl, hi1, hg⟩ := hrel
                have h2 := hg.cell h1.out
                have g2 := hg.cell g1.out
                by_cases hlt3 : i < xn + 64
                · obtain ⟨ba, oa, rfl, a1, a2, _, _⟩ := rdV_at r1.out i hlt3
                  rw [marksA_at k (xn + 64) i hlt3] at a1 a2
                  by_cases hlt4 : i < xn
                  · obtain ⟨bb, ob, rfl, b1, b2, _, _⟩ := rdV_at r2.out i hlt4
                    rw [marksA_at k xn i hlt4] at b1 b2
                    have a1 := Fact.mk (hg.cell a1)
                    have a2 := Fact.mk (hg.cell a2)
                    have b1 := Fact.mk (hg.cell b1)
                    have b2 := Fact.mk (hg.cell b2)
                    go_upto_region 25 with (fail)
                    have hw := (Mem.start wr).alloc (.cells [.int .i64 (-10 - (k : Int)), .int .i64 (i : Int)].toArray 35)
                    generalize hg1 : wr.heap.size = g0 at hw ⊢
                    generalize hw1 : wr.alloc (.cells [.int .i64 (-10 - (k : Int)), .int .i64 (i : Int)].toArray 35) = w1 at hw
                    try refine wp_world hw1 ?_
                    clear hw1 hg1
                    have k1 := hw.cell m0 0 rfl
                    have k2 := hw.cell m0 1 rfl
                    have a1 := Gr.cell hw.below a1.out
                    have a2 := Gr.cell hw.below a2.out
                    have h2 := Gr.cell hw.below h2
                    have g2 := Gr.cell hw.below g2
                    have b1 := Gr.cell hw.below b1.out
                    have b2 := Gr.cell hw.below b2.out
                    have hgr := hg.trans hw.below
                    clear hw hm hg
                    go_quiet (fail)
                    go_wp2
                    go_roundw
                    case rel => exact ⟨i + 1, by go_num, by omega, Gr.drewN hgr _⟩
                    case measure => simp [intOf]; omega
                  · have a1 := a1
                    have a1 := Fact.mk (hg.cell a1)
                    have a2 := Fact.mk (hg.cell a2)
                    go_upto_region 25 with (fail)
                    have hw := (Mem.start wr).alloc (.cells [.int .i64 (-10 - (k : Int)), .int .i64 (i : Int)].toArray 35)
                    generalize hg1 : wr.heap.size = g0 at hw ⊢
                    generalize hw1 : wr.alloc (.cells [.int .i64 (-10 - (k : Int)), .int .i64 (i : Int)].toArray 35) = w1 at hw
                    try refine wp_world hw1 ?_
                    clear hw1 hg1
                    have k1 := hw.cell m0 0 rfl
                    have k2 := hw.cell m0 1 rfl
                    have a1 := Gr.cell hw.below a1.out
                    have a2 := Gr.cell hw.below a2.out
                    have h2 := Gr.cell hw.below h2
                    have g2 := Gr.cell hw.below g2
                    have hgr := hg.trans hw.below
                    clear hw hm hg
                    go_quiet (fail)
                    go_wp2
                    go_roundw
                    case rel => exact ⟨i + 1, by go_num, by omega, Gr.drewN hgr _⟩
                    case measure => simp [intOf]; omega
                · go_wp2
                  go_roundw
                  case rel => exact ⟨k + 1, by go_num, by omega, hgk.out.trans hg⟩
                  case measure => simp [intOf]; omega
            · go_wp2
              go_ret
              exact ⟨rfl, (hm.gr hg).sub ((List.sublist_cons_self _ _).trans ((List.sublist_cons_self _ _).trans (List.sublist_append_right _ _)))⟩
end Go.Proofs.YtpibchjkmaghnaaGreat
namespace Go.Proofs.YtpibchjkmaghnaaGreat
open Go.RowKit Go.Mm
set_option maxHeartbeats 1000000
set_option maxRecDepth 100000
theorem apconv {α : Type} {w0 w : World} (f g : α → Chunk) (hf : ∀ x k, (g x).foot k → (f x).foot k) (ho : ∀ x, (f x).ok w → (g x).ok w) : ∀ (xs : List α) (A R : List Chunk), Mem w0 w (A ++ (xs.map f ++ R)) → Mem w0 w (A ++ (xs.map g ++ R))
  | [], _, _, h => h
  | x :: xs, A, R, h => by
    have h1 : Mem w0 w (f x :: (A ++ (xs.map f ++ R))) := h.perm (by simp only [List.map_cons, List.cons_append]; exact List.perm_middle)
    have h2 : Mem w0 w (g x :: (A ++ (xs.map f ++ R))) := h1.upd ⟨rfl, rfl, rfl, Nat.le_refl _, fun _ _ _ => rfl⟩ (ho x (h1.ok _ m0)) (fun k hk => .inl (hf x k hk))
    have h3 : Mem w0 w ((g x :: A) ++ (xs.map g ++ R)) := apconv f g hf ho xs (g x :: A) R h2
    exact h3.perm (by simp only [List.map_cons, List.cons_append]; exact List.perm_middle.symm)
theorem apget {α : Type} (f : α → Chunk) (d : α) {w0 w : World} {ys : List α} {R : List Chunk} {k : Nat} (hk : k < ys.length) (h : Mem w0 w (ys.map f ++ R)) : Mem w0 w (f (ys.getD k d) :: ((ys.eraseIdx k).map f ++ R)) := by
  refine h.perm ?_
  have e : ys.getD k d = ys[k] := by simp [hk]
  rw [e]
  have := ((perm_front ys k hk).map f).append_right R
  simpa using this
theorem apput {α : Type} (f : α → Chunk) {w0 w : World} {ys : List α} {R : List Chunk} {k : Nat} {y : α} (hk : k < ys.length) (h : Mem w0 w (f y :: ((ys.eraseIdx k).map f ++ R))) : Mem w0 w ((ys.set k y).map f ++ R) := by
  refine h.perm ?_
  have := ((perm_front (ys.set k y) k (by simpa using hk)).map f).append_right R
  rw [List.eraseIdx_set_eq] at this
  simpa using this.symm
/-- A list: where it lies, what it holds. -/
structure LN where
  A : Option Addr
  n : Nat
  c : Nat
  xs : List Int
def ln0 : LN := ⟨none, 0, 0, []⟩
def nw (l : LN) : Value := .slice l.A l.n l.c
def nws (ls : List LN) : List Value := ls.map nw
def lnC (l : LN) : Chunk := Own 1 (nw l) (nums .i64 l.xs)
theorem nws_one (ls : List LN) : One (nws ls) := fun u hu => by
  obtain ⟨y, _, rfl⟩ := List.mem_map.1 hu
  rfl
theorem nws_len (ls : List LN) : (nws ls).length = ls.length := by simp [nws]
theorem nws_at (ls : List LN) (k : Nat) (h : k < ls.length) : (nws ls)[k]? = some (nw (ls.getD k ln0)) := by simp [nws, h]
theorem nws_set (ys : List LN) (k : Nat) (y : LN) (h : k < ys.length) (hy : nw y = nw (ys.getD k ln0)) : nws (ys.set k y) = nws ys := by
  apply List.ext_getElem?
  intro i
  simp only [nws, List.getElem?_map, List.getElem?_set]
  by_cases hik : k = i
  · subst hik
    simp only [if_pos h, if_true, Option.map_some]
    rw [getD_some ys ln0 k h]
    simp [hy]
  · rw [if_neg hik]
def exN (p : LN × LN) : Chunk := Ext 1 (nw p.2) (nums .i64 p.2.xs) (nw p.1) (nums .i64 p.1.xs)
def pln0 : LN × LN := (ln0, ln0)
theorem exN_start {w0 w : World} {ys : List LN} {R : List Chunk} (h : Mem w0 w (ys.map lnC ++ R)) : Mem w0 w ((ys.map fun y => (y, y)).map exN ++ R) := by
  have := apconv (fun y : LN => lnC y) (fun y => exN (y, y)) (fun x k hk => hk.elim id id) (fun x hx => OwnAt.ext hx) ys [] R h
  simpa [List.map_map, Function.comp_def] using this
theorem outerN_addr {w0 w : World} {A : Option Addr} {m c : Nat} {ls : List LN} {L : List Chunk} (h : Mem w0 w L) (hm : Own 1 (.slice A m c) (nws ls) ∈ L) (k : Nat) (hk : k < m) : ∃ b o, A = some ⟨b, o, none⟩ := by
  obtain ⟨b, o, _, e, _⟩ := (h.rd hm).at1 k hk
  exact ⟨b, o, e⟩
theorem outerN_at {w0 w : World} {b o : Nat} {m c : Nat} {ls : List LN} {L : List Chunk} (h : Mem w0 w L) (hm : Own 1 (.slice (some ⟨b, o, none⟩) m c) (nws ls) ∈ L) (k : Nat) (hk : k < m) (hl : ls.length = m) : w.cell? ⟨b, o + k, none⟩ = some (nw (ls.getD k ln0)) := by
  obtain ⟨_, _, c0, e, h1, h2, _, _⟩ := (h.rd hm).at1 k hk
  cases e
  rw [nws_at ls k (by omega)] at h2
  cases h2
  exact h1
/-- The mark of place i of list k. -/
def markN (k i : Nat) : Int := 1000003 * ((k : Int) + 1) + (i : Int)
def marksN (k n : Nat) : List Int := (List.range n).map (markN k)
theorem marksN_len (k n : Nat) : (marksN k n).length = n := by simp [marksN]
theorem marksN_succ (k n : Nat) : marksN k (n + 1) = marksN k n ++ [markN k n] := by simp [marksN, List.range_succ]
theorem marksN_at (k n i : Nat) (h : i < n) : (marksN k n).getD i 0 = 1000003 * ((k : Int) + 1) + (i : Int) := by simp [marksN, h, markN]
theorem take_set_snocN (xs : List Int) (k i : Nat) (h : i < xs.length) (hp : xs.take i = marksN k i) : (xs.set i (markN k i)).take (i + 1) = marksN k (i + 1) := by
  rw [marksN_succ, List.take_succ_eq_append_getElem (by simpa using h), List.take_set_of_le (Nat.le_refl _), hp]
  simp
end Go.Proofs.YtpibchjkmaghnaaGreat
namespace Go.Proofs.YtpibchjkmaghnaaGreat
open Go.RowKit Go.Mm
set_option maxHeartbeats 4000000
set_option maxRecDepth 100000
set_option linter.unusedSimpArgs false
theorem ty_NN_apLongs : Tryz.prog.underlying 84 = some (.slice 39) := by kernel_rfl
theorem ty_N_apLongs : Tryz.prog.underlying 39 = some (.slice 2) := by kernel_rfl
theorem inf_N_apLongs : (Tryz.prog.info? 2).map (fun i => (i.zero, i.size, i.bytes)) = some (some (.int .i64 0), 1, 8) := by kernel_rfl
theorem inf_NN_apLongs : (Tryz.prog.info? 39).map (fun i => (i.zero, i.size, i.bytes)) = some (some (.slice none 0 0), 1, 24) := by kernel_rfl
theorem apLongs_ok (w0 w : World) (A : Option Addr) (m c : Nat) (ls : List LN) (L : List Chunk) (hm : Mem w0 w (ls.map lnC ++ (Own 1 (.slice A m c) (nws ls) :: L))) (hl : Fact (ls.length = m)) (hN : Fact (∀ l, l ∈ ls → l.n ≤ 16777216)) (hmm : m ≤ 67108864) :
    Calls Tryz.prog 46 #[.slice A m c] w fun e w' => e = .returned (.bool true) ∧ Mem w0 w' L := by
  obtain ⟨iV, vi, vz0, vz1, vz2⟩ := info_parts inf_N_apLongs
  obtain ⟨iS, si, sz0, sz1, sz2⟩ := info_parts inf_NN_apLongs
  go_enter Tryz.func46, Tryz.ntmps46
  go_wp2
  go_loopw [3] (fun v w' => ∃ (q : Nat) (zs : List LN), v = .int .i64 q ∧ q ≤ m ∧ Mem w0 w' (zs.map lnC ++ (Own 1 (.slice A m c) (nws zs) :: L)) ∧ Fact (zs.length = m ∧ (∀ z, z ∈ zs → z.n ≤ 16777216) ∧ ∀ p, p < q → (zs.getD p ln0).xs = marksN p (zs.getD p ln0).n)) (fun v _ => m - (intOf v).toNat)
  case atStart => exact ⟨0, ls, rfl, by omega, hm, ⟨hl.out, hN.out, fun p hp => by omega⟩⟩
  case round =>
    clear hm hl hN
    obtain ⟨q, zs, rfl, hq, hm, hz⟩ := hrel
    by_cases hlt : q < m
    · have hql : q < zs.length := by have := hz.out.1; omega
      have hxm : zs.getD q ln0 ∈ zs := List.mem_of_getElem? (getD_some zs ln0 q hql)
      have hxn := hz.out.2.1 _ hxm
      obtain ⟨bo, oo, rfl⟩ := outerN_addr hm (List.mem_append_right _ m0) q hlt
      have hm1 := apget lnC ln0 hql hm
      have hat : Fact (∀ (W : World) (C : Chunk), Mem w0 W (C :: ((zs.eraseIdx q).map lnC ++ (Own 1 (.slice (some ⟨bo, oo, none⟩) m c) (nws zs) :: L))) → W.cell? ⟨bo, oo + q, none⟩ = some (nw (zs.getD q ln0))) := ⟨fun W C h => outerN_at h (.tail _ (List.mem_append_right _ m0)) q hlt hz.out.1⟩
      have hxe : ∃ x, Fact (zs.getD q ln0 = x) := ⟨_, ⟨rfl⟩⟩
      obtain ⟨x, hxe⟩ := hxe
      rw [hxe.out] at hat hm1 hxn
      obtain ⟨xA, xn, xc, xfs⟩ := x
      have hxl : xfs.length = xn := (hm1.rd (size := 1) (v := .slice xA xn xc) (xs := nums .i64 xfs) m0).nlen
      simp only [nw] at hat
      dsimp only at hxn
      have h1 := hat.out _ _ hm1
      clear hm hxm
      go_wp2
      clear h1
      obtain ⟨wp, hwp⟩ : ∃ wp : World, wp = wr := ⟨_, rfl⟩
      rw [← hwp] at hm1 ⊢
      clear hwp
      go_loopw [4] (fun v w' => ∃ (i : Nat) (fs : List Int), v = .int .i64 i ∧ i ≤ xn ∧ Mem w0 w' (lnC ⟨xA, xn, xc, fs⟩ :: ((zs.eraseIdx q).map lnC ++ (Own 1 (.slice (some ⟨bo, oo, none⟩) m c) (nws zs) :: L))) ∧ Fact (fs.length = xn ∧ fs.take i = marksN q i)) (fun v _ => xn - (intOf v).toNat)
      case atStart => exact ⟨0, xfs, rfl, by omega, hm1, ⟨hxl, by simp [marksN]⟩⟩
      case round =>
        clear hm1 hxl
        obtain ⟨i, fs, rfl, hi, hm, hs⟩ := hrel
        have h1 := hat.out _ _ hm
        by_cases hlt2 : i < xn
        · have hm' : Mem w0 wr (Own 1 (.slice xA xn xc) (nums .i64 fs) :: ((zs.eraseIdx q).map lnC ++ (Own 1 (.slice (some ⟨bo, oo, none⟩) m c) (nws zs) :: L))) := hm
          obtain ⟨lb, lo, rfl⟩ := OwnAt.addr (hm'.ok _ m0) (by have := OwnAt.cap (hm'.ok _ m0); omega)
          have hil : i < fs.length := by have := hs.out.1; omega
          obtain ⟨g1, g2⟩ := hm'.own_cell m0 i (nums_getD .i64 fs i hil)
          have hm2 := hm'.own_set i (by simpa using hil) (.int .i64 (markN q i)) rfl
          rw [nums_set] at hm2
          simp only [markN] at hm2
          clear hm' hm
          go_wp2
          go_roundw
          case rel =>
            have hs1 := hs.out.1
            exact ⟨i + 1, fs.set i (markN q i), by go_num, by omega, hm2, ⟨by simpa using hs1, take_set_snocN fs q i hil hs.out.2⟩⟩
          case measure => exact measP_lt hlt2
        · obtain rfl : i = xn := by omega
          go_wp2
          go_roundw
          case rel =>
            have hz1 := hz.out
            have hs1 := hs.out
            rw [List.take_of_length_le (by omega)] at hs1
            have hsv : nws (zs.set q ⟨xA, i, xc, fs⟩) = nws zs := nws_set zs q _ hql (by rw [hxe.out]; rfl)
            refine ⟨q + 1, zs.set q ⟨xA, i, xc, fs⟩, by go_num, by omega, ?_, ⟨by simpa using hz1.1, fun z hz => ?_, fun p hp => ?_⟩⟩
            · rw [hsv]
              exact apput lnC hql hm
            · rcases List.mem_or_eq_of_mem_set hz with h | rfl
              · exact hz1.2.1 z h
              · exact hxn
            · rw [getD_set _ _ _ _ _ hql]
              by_cases e : p = q
              · subst e; rw [if_pos rfl]; exact hs1.2
              · rw [if_neg e]; exact hz1.2.2 p (by omega)
          case measure => exact measP_lt hlt
    · obtain rfl : q = m := by omega
      have hm := exN_start hm
      go_wp2
      obtain ⟨wp, hwp⟩ : ∃ wp : World, wp = wr := ⟨_, rfl⟩
      rw [← hwp] at hm ⊢
      clear hwp
      go_loopw [5, 6] (fun l v w' => ∃ (j : Nat) (B : Option Addr) (d : Nat) (ps : List (LN × LN)), v = .int .i64 j ∧ j ≤ q ∧ l = .slice B j d ∧ Mem w0 w' (ps.map exN ++ (Own 1 (.slice A q c) (nws zs) :: Own 1 (.slice B j d) (nws ((ps.map Prod.snd).take j)) :: L)) ∧ Fact (ps.map Prod.fst = zs ∧ (∀ i, j ≤ i → i < q → (ps.getD i pln0).2 = zs.getD i ln0) ∧ ∀ i, i < j → (ps.getD i pln0).2.n = (zs.getD i ln0).n + 64 ∧ (ps.getD i pln0).2.xs = marksN i ((zs.getD i ln0).n + 64))) (fun _ v _ => q - (intOf v).toNat)
      case atStart =>
        refine ⟨0, none, 0, zs.map fun y => (y, y), rfl, by omega, rfl, ?_, ⟨by simp [List.map_map, Function.comp_def], fun i _ hi => ?_, fun i hi => by omega⟩⟩
        · exact (hm.nil 1 none).unmid2
        · rw [List.getD_eq_getElem?_getD, List.getElem?_map, getD_some zs ln0 i (by have := hz.out.1; omega)]; rfl
      case round =>
        clear hm
        obtain ⟨j, B, d, ps, rfl, hj, rfl, hm, hp⟩ := hrel
        have hpl : ps.length = q := by have := congrArg List.length hp.out.1; simpa [hz.out.1] using this
        have hpl := Fact.mk hpl
        by_cases hlt2 : j < q
        · obtain ⟨bo, oo, rfl⟩ := outerN_addr hm (List.mem_append_right _ m0) j hlt2
          have hm1 := apget exN pln0 (k := j) (by have := hpl.out; omega) hm
          have hfst : (ps.getD j pln0).1 = zs.getD j ln0 := by
            have e := hp.out.1
            rw [← e, getD_map Prod.fst ps j pln0 ln0 (by have := hpl.out; omega)]
          have hsnd := hp.out.2.1 j (Nat.le_refl _) hlt2
          have hpe : ps.getD j pln0 = (zs.getD j ln0, zs.getD j ln0) := Prod.ext hfst hsnd
          rw [hpe] at hm1
          have hy : zs.getD j ln0 ∈ zs := List.mem_of_getElem? (getD_some zs ln0 j (by have := hz.out.1; omega))
          have hxn := hz.out.2.1 _ hy
          have hxm := hz.out.2.2 j (by omega)
          have hat : Fact (∀ (W : World) (C : Chunk), Mem w0 W (C :: ((ps.eraseIdx j).map exN ++ (Own 1 (.slice (some ⟨bo, oo, none⟩) q c) (nws zs) :: Own 1 (.slice B j d) (nws ((ps.map Prod.snd).take j)) :: L))) → W.cell? ⟨bo, oo + j, none⟩ = some (nw (zs.getD j ln0))) := ⟨fun W C h => outerN_at h (.tail _ (List.mem_append_right _ m0)) j hlt2 hz.out.1⟩
          have hxe : ∃ x, Fact (zs.getD j ln0 = x) := ⟨_, ⟨rfl⟩⟩
          obtain ⟨x, hxe⟩ := hxe
          rw [hxe.out] at hat hm1 hxn hxm
          obtain ⟨xA, xn, xc, xfs⟩ := x
          simp only [nw] at hat
          dsimp only at hxn hxm
          subst hxm
          have h1 := hat.out _ _ hm1
          clear hm hy hfst hsnd hpe
          go_wp2
          clear h1
          obtain ⟨wp, hwp⟩ : ∃ wp : World, wp = wr := ⟨_, rfl⟩
          rw [← hwp] at hm1 ⊢
          clear hwp
          go_loopw [7, 8] (fun l v w' => ∃ (i : Nat) (C : Option Addr) (e : Nat), v = .int .i64 i ∧ i ≤ 64 ∧ l = .slice C (xn + i) e ∧ Mem w0 w' (Ext 1 (.slice C (xn + i) e) (nums .i64 (marksN j (xn + i))) (.slice xA xn xc) (nums .i64 (marksN j xn)) :: ((ps.eraseIdx j).map exN ++ (Own 1 (.slice (some ⟨bo, oo, none⟩) q c) (nws zs) :: Own 1 (.slice B j d) (nws ((ps.map Prod.snd).take j)) :: L)))) (fun _ v _ => 64 - (intOf v).toNat)
          case atStart => exact ⟨0, xA, xc, rfl, by omega, rfl, hm1⟩
          case round =>
            clear hm1
            obtain ⟨i, C, e, rfl, hi1, rfl, hm⟩ := hrel
            have h1 := hat.out _ _ hm
            by_cases hlt3 : i < 64
            · go_wp2_with (at_builtin; refine wp_appe rfl _ _ _ rfl 2 iV _ 1 8 ty_N_apLongs vi vz0 vz1 vz2 rfl C (xn + i) e _ _ _ rfl (L := Blk _ _ :: _) (hm.alloc _).swap _ 1 1 [.int .i64 (1000003 * ((j : Int) + 1) + (xn : Int) + (i : Int))] rfl (RdC.lit _ _ _ _ _ rfl (by simp [maxLen]) (one_one rfl)) (by unfold maxLen; omega) (by omega) ?_; intro C1 e1 w2 hm2)
              go_roundw
              case rel =>
                refine ⟨i + 1, C1, e1, by go_num, by omega, rfl, ?_⟩
                have hm3 := hm2.sub (.cons_cons _ (.cons _ (List.Sublist.refl _)))
                rw [show xn + (i + 1) = xn + i + 1 by omega, marksN_succ, nums_append, show markN j (xn + i) = 1000003 * ((j : Int) + 1) + (xn : Int) + (i : Int) by unfold markN; omega]
                exact hm3
              case measure => exact measP_lt hlt3
            · obtain rfl : i = 64 := by omega
              go_wp2_with (at_builtin; refine wp_app rfl _ _ _ rfl 39 iS _ 1 24 ty_NN_apLongs si sz0 sz1 sz2 rfl B j d _ rfl (Mem.mid2 (A := _ :: _ :: (ps.eraseIdx j).map exN) (hm.alloc _)) _ 1 1 [.slice C (xn + 64) e] rfl (RdC.lit _ _ _ _ _ rfl (by simp [maxLen]) (nws_one [⟨C, xn + 64, e, []⟩])) (by unfold maxLen; omega) (by omega) ?_; intro B1 d1 w2 hm2)
              go_roundw
              case rel =>
                have hm3 := Mem.unmid2 (A := exN (⟨xA, xn, xc, marksN j xn⟩, ⟨C, xn + 64, e, marksN j (xn + 64)⟩) :: (ps.eraseIdx j).map exN) (hm2.sub (.cons_cons _ (.cons _ (List.Sublist.refl _))))
                have hm4 := apput exN (k := j) (by have := hpl.out; omega) hm3
                have hp1 := hp.out
                have e0 : (ps.map Prod.snd).take j ++ [⟨C, xn + 64, e, marksN j (xn + 64)⟩] = ((ps.set j (⟨xA, xn, xc, marksN j xn⟩, ⟨C, xn + 64, e, marksN j (xn + 64)⟩)).map Prod.snd).take (j + 1) := by
                  rw [List.map_set, List.take_succ_eq_append_getElem (by simp; have := hpl.out; omega), List.take_set_of_le (Nat.le_refl _)]
                  simp
                refine ⟨j + 1, B1, d1, ps.set j (⟨xA, xn, xc, marksN j xn⟩, ⟨C, xn + 64, e, marksN j (xn + 64)⟩), by go_num, by omega, rfl, ?_, ⟨?_, fun i h1 h2 => ?_, fun i h1 => ?_⟩⟩
                rotate_left 1
                · rw [List.map_set, hp1.1]
                  apply List.ext_getElem?
                  intro i
                  rw [List.getElem?_set]
                  by_cases e : j = i
                  · subst e
                    have := hz.out.1
                    rw [if_pos rfl, if_pos (by omega), getD_some zs ln0 j (by omega), hxe.out]
                  · rw [if_neg e]
                · rw [getD_set _ _ _ _ _ (by have := hpl.out; omega), if_neg (by omega)]
                  exact hp1.2.1 i (by omega) h2
                · rw [getD_set _ _ _ _ _ (by have := hpl.out; omega)]
                  by_cases e : i = j
                  · subst e; rw [if_pos rfl, hxe.out]; exact ⟨rfl, rfl⟩
                  · rw [if_neg e]; exact hp1.2.2 i (by omega)
                · rw [← e0]
                  simpa [nws, nw] using hm4
              case measure => exact measP_lt hlt2
        · obtain rfl : j = q := by omega
          have hps : (ps.map Prod.snd).take j = ps.map Prod.snd := List.take_of_length_le (by simp; have := hpl.out; omega)
          rw [hps] at hm
          clear hps hlt2
          go_wp2
          obtain ⟨wo, hwo⟩ : ∃ wo : World, wo = wr := ⟨_, rfl⟩
          rw [← hwo] at hm ⊢
          clear hwo
          go_loopw [9] (fun v w' => ∃ (p : Nat), v = .int .i64 p ∧ p ≤ j ∧ w' = wo) (fun v _ => j - (intOf v).toNat)
          case atStart => exact ⟨0, rfl, by omega, rfl⟩
          case round =>
            obtain ⟨p, rfl, hp1, rfl⟩ := hrel
            by_cases hlt2 : p < j
            · obtain ⟨bo, oo, rfl⟩ := outerN_addr hm (List.mem_append_right _ m0) p hlt2
              obtain ⟨bg, og, rfl⟩ := outerN_addr hm (List.mem_append_right _ m1) p hlt2
              have h1 := outerN_at hm (List.mem_append_right _ m0) p hlt2 hz.out.1
              have g1 := outerN_at hm (List.mem_append_right _ m1) p hlt2 (by simpa using hpl.out)
              rw [getD_map Prod.snd ps p pln0 ln0 (by have := hpl.out; omega)] at g1
              have hfst : (ps.getD p pln0).1 = zs.getD p ln0 := by
                have e := hp.out.1
                rw [← e, getD_map Prod.fst ps p pln0 ln0 (by have := hpl.out; omega)]
              have hpm : ps.getD p pln0 ∈ ps := List.mem_of_getElem? (getD_some ps pln0 p (by have := hpl.out; omega))
              have hext := hm.ok (exN (ps.getD p pln0)) (List.mem_append.2 (.inl (List.mem_map.2 ⟨_, hpm, rfl⟩)))
              have q1 := (hp.out.2.2 p (by omega)).1
              have q2 := (hp.out.2.2 p (by omega)).2
              have q3 := hz.out.2.2 p (by omega)
              have hy : zs.getD p ln0 ∈ zs := List.mem_of_getElem? (getD_some zs ln0 p (by have := hz.out.1; omega))
              have q4 := hz.out.2.1 _ hy
              have r1 := hext.1.rd
              have r2 := ExtAt.rd0 hext
              rw [hfst] at r2
              clear hfst hpm hext hy hm hp hz
              generalize zs.getD p ln0 = x at *
              generalize (ps.getD p pln0).2 = y at *
              obtain ⟨xA, xn, xc, xfs⟩ := x
              obtain ⟨yA, yn, yc, yfs⟩ := y
              simp only [nw] at h1 g1 r1 r2
              try dsimp only at q1 q2 q3 q4
              subst q3
              subst q1
              subst q2
              have r1 := Fact.mk r1
              have r2 := Fact.mk r2
              go_wp2
              go_loopw [10] (fun v w' => ∃ (i : Nat), v = .int .i64 i ∧ i ≤ xn + 64 ∧ w' = wr) (fun v _ => xn + 64 - (intOf v).toNat)
              case atStart => exact ⟨0, rfl, by omega, rfl⟩
              case round =>
                obtain ⟨i, rfl, hi2, rfl⟩ := hrel
                by_cases hlt3 : i < xn + 64
                · obtain ⟨ba, oa, e, a1, _⟩ := r1.out.num i hlt3
                  subst e
                  rw [marksN_at p (xn + 64) i hlt3] at a1
                  by_cases hlt4 : i < xn
                  · obtain ⟨bb, ob, e, b1, _⟩ := r2.out.num i hlt4
                    subst e
                    rw [marksN_at p xn i hlt4] at b1
                    go_wp2
                    go_roundw
                    case rel => exact ⟨i + 1, by go_num, by omega, trivial⟩
                    case measure => exact measP_lt hlt3
                  · go_wp2
                    go_roundw
                    case rel => exact ⟨i + 1, by go_num, by omega, trivial⟩
                    case measure => exact measP_lt hlt3
                · go_wp2
                  go_roundw
                  case rel => exact ⟨p + 1, by go_num, by omega, trivial⟩
                  case measure => exact measP_lt hlt2
            · go_wp2
              go_ret
              exact ⟨rfl, hm.sub ((List.sublist_cons_self _ _).trans ((List.sublist_cons_self _ _).trans (List.sublist_append_right _ _)))⟩
end Go.Proofs.YtpibchjkmaghnaaGreat
namespace Go.Proofs.YtpibchjkmaghnaaGreat
open Go.RowKit Go.Mm
set_option maxHeartbeats 4000000
set_option maxRecDepth 100000
set_option linter.unusedSimpArgs false
def frO (x : RO) : Fr := ⟨0, 0, x.A, x.ob.items.length, x.c, x.ob.items⟩
def lnO (x : RO) : LN := ⟨x.KA, x.ob.keys.length, x.kc, x.ob.keys⟩
theorem ros_open {w0 w : World} : ∀ (ys : List RO) (A R : List Chunk), Mem w0 w (A ++ (ys.map RoC ++ R)) → Mem w0 w (A ++ (slots (ys.map frO) ++ ((ys.map lnO).map lnC ++ R)))
  | [], _, _, h => h
  | y :: ys, A, R, h => by
    have h1 : Mem w0 w (RoC y :: (A ++ (ys.map RoC ++ R))) := h.perm (by simp only [List.map_cons, List.cons_append]; exact List.perm_middle)
    have h2 : Mem w0 w (slot (frO y) :: lnC (lnO y) :: (A ++ (ys.map RoC ++ R))) := h1.opn
    have h3 : Mem w0 w ((lnC (lnO y) :: slot (frO y) :: A) ++ (ys.map RoC ++ R)) := h2.swap
    have h4 := ros_open ys _ R h3
    refine h4.perm ?_
    simp only [List.map_cons, List.cons_append, slots]
    have e1 : (lnC (lnO y) :: slot (frO y) :: (A ++ (List.map slot (ys.map frO) ++ (List.map lnC (ys.map lnO) ++ R)))).Perm (slot (frO y) :: lnC (lnO y) :: (A ++ (List.map slot (ys.map frO) ++ (List.map lnC (ys.map lnO) ++ R)))) := .swap _ _ _
    refine e1.trans ?_
    have e2 : (slot (frO y) :: lnC (lnO y) :: (A ++ (List.map slot (ys.map frO) ++ (List.map lnC (ys.map lnO) ++ R)))).Perm (slot (frO y) :: (A ++ (List.map slot (ys.map frO) ++ lnC (lnO y) :: (List.map lnC (ys.map lnO) ++ R)))) := by
      refine .cons _ ?_
      rw [← List.append_assoc A, ← List.append_assoc A]
      exact List.perm_middle.symm
    exact e2.trans List.perm_middle.symm
theorem apartObjects_ok (w0 w : World) (A : Option Addr) (m c : Nat) (ys : List RO) (L : List Chunk) (hm : Mem w0 w (ys.map RoC ++ (Own 6 (.slice A m c) (ys.flatMap cRO) :: L))) (hs : Fact (∀ x, x ∈ ys → x.ob.items.length ≤ 2097152 ∧ x.ob.keys.length ≤ 2097152)) (hmm : m ≤ 8388608) :
    Calls Tryz.prog 18 #[.slice A m c] w fun e w' => e = .returned (.bool true) ∧ Mem w0 w' L := by
  obtain ⟨iV, vi, vz0, vz1, vz2⟩ := info_parts inf_ApVs
  obtain ⟨iS, si, sz0, sz1, sz2⟩ := info_parts inf_NN_apLongs
  have hrd0 : Fact (∀ (W : World) (C : List Chunk), Mem w0 W (C ++ (ys.map RoC ++ (Own 6 (.slice A m c) (ys.flatMap cRO) :: L))) → RdC W 6 (.slice A m c) (ys.flatMap cRO)) := ⟨fun W C h => h.rd (List.mem_append_right _ (List.mem_append_right _ m0))⟩
  have hyl : ys.length = m := rd_len cRO_len (by omega) (hrd0.out w [] hm)
  replace hyl := Fact.mk hyl
  have hcell : Fact (∀ (W : World) (C : List Chunk), Mem w0 W (C ++ (ys.map RoC ++ (Own 6 (.slice A m c) (ys.flatMap cRO) :: L))) → ∀ k, k < m → ∃ b o, A = some ⟨b, o, none⟩ ∧ W.cell? ⟨b, o + k * 6 + 1, none⟩ = some (.slice (ys.getD k ro0).A (ys.getD k ro0).ob.items.length (ys.getD k ro0).c) ∧ W.cell? ⟨b, o + k * 6 + 2, none⟩ = some (.slice (ys.getD k ro0).KA (ys.getD k ro0).ob.keys.length (ys.getD k ro0).kc)) := ⟨fun W C h k hk => by
    obtain ⟨b, o, e, hc, _, _⟩ := rd_at cRO_len (by omega) ro0 (hrd0.out W C h) k hk
    exact ⟨b, o, e, hc 1 _ rfl, hc 2 _ rfl⟩⟩
  generalize hR : (ys.map RoC ++ (Own 6 (.slice A m c) (ys.flatMap cRO) :: L)) = R at hm hcell
  clear hrd0
  replace hR := Fact.mk hR
  go_enter Tryz.func18, Tryz.ntmps18
  go_wp2
  go_loopw [3, 4, 5] (fun s3 s4 s5 w' => ∃ (k : Nat) (I : Option Addr) (ic : Nat) (K : Option Addr) (kc : Nat), s5 = .int .i64 k ∧ k ≤ m ∧ s3 = .slice I k ic ∧ s4 = .slice K k kc ∧ Mem w0 w' (Own 1 (.slice I k ic) (svs ((ys.take k).map frO)) :: Own 1 (.slice K k kc) (nws ((ys.take k).map lnO)) :: R)) (fun _ _ s5 _ => m - (intOf s5).toNat)
  case atStart => exact ⟨0, none, 0, none, 0, rfl, by omega, rfl, rfl, (hm.nil 1 none).nil 1 none⟩
  case round =>
    obtain ⟨k, I, ic, K, kc, rfl, hk, rfl, rfl, hmr⟩ := hrel
    clear hm
    by_cases hlt : k < m
    · obtain ⟨b, o, rfl, c1, c2⟩ := hcell.out wr [_, _] hmr k hlt
      have htk : ys.take (k + 1) = ys.take k ++ [ys.getD k ro0] := by
        rw [List.take_succ_eq_append_getElem (by have := hyl.out; omega)]
        simp [show k < ys.length by have := hyl.out; omega]
      have hc2 : Fact (∀ (W : World) (C : List Chunk), Mem w0 W (C ++ R) → W.cell? ⟨b, o + k * 6 + 2, none⟩ = some (.slice (ys.getD k ro0).KA (ys.getD k ro0).ob.keys.length (ys.getD k ro0).kc)) := ⟨fun W C h => by
        obtain ⟨b', o', e, _, h2⟩ := hcell.out W C h k hlt
        cases e
        exact h2⟩
      generalize ys.getD k ro0 = y at c1 c2 htk hc2
      replace htk := Fact.mk htk
      clear c2
      go_wp2_with (first | (at_builtin; refine wp_app rfl _ _ _ rfl 36 iV _ 1 24 ty_ApVVs vi vz0 vz1 vz2 rfl I k ic _ rfl (hmr.alloc _).swap _ 1 1 [.slice y.A y.ob.items.length y.c] rfl (RdC.lit _ _ _ _ _ rfl (by simp [maxLen]) (svs_one [frO y])) (by unfold maxLen; omega) (by omega) ?_; intro I1 ic1 w5 hm5; have hm6 := hm5.drop2; have c2 := hc2.out w5 [_, _] hm6) | (at_builtin; refine wp_app rfl _ _ _ rfl 39 iS _ 1 24 ty_NN_apLongs si sz0 sz1 sz2 rfl K k kc _ rfl (hm6.alloc _).pull2 _ 1 1 [.slice y.KA y.ob.keys.length y.kc] rfl (RdC.lit _ _ _ _ _ rfl (by simp [maxLen]) (nws_one [lnO y])) (by unfold maxLen; omega) (by omega) ?_; intro K1 kc1 w7 hm7))
      go_roundw
      case rel =>
        refine ⟨k + 1, I1, ic1, K1, kc1, by go_num, by omega, rfl, rfl, ?_⟩
        rw [htk.out, List.map_append, List.map_append]
        have hm8 := hm7.drop2.swap
        simpa [svs, nws, sv, nw, frO, lnO] using hm8
      case measure => exact measP_lt hlt
    · obtain rfl : k = m := by omega
      rw [List.take_of_length_le (by rw [hyl.out]; exact Nat.le_refl _), ← hR.out] at hmr
      have hm1 := ros_open ys [_, _] _ hmr
      have hm2 : Mem w0 wr (slots (ys.map frO) ++ (Own 1 (.slice I k ic) (svs (ys.map frO)) :: (Own 1 (.slice K k kc) (nws (ys.map lnO)) :: ((ys.map lnO).map lnC ++ (Own 6 (.slice A k c) (ys.flatMap cRO) :: L))))) := hm1.perm (by
        have := (List.perm_append_comm (l₁ := [Own 1 (.slice I k ic) (svs (ys.map frO)), Own 1 (.slice K k kc) (nws (ys.map lnO))]) (l₂ := slots (ys.map frO))).append_right ((ys.map lnO).map lnC ++ (Own 6 (.slice A k c) (ys.flatMap cRO) :: L))
        simpa using this)
      have hv := apartValues_ok w0 wr I k ic 2097152 (ys.map frO) _ hm2 ⟨by rw [List.length_map, hyl.out]⟩ ⟨fun z hz => by
        obtain ⟨y, hy, rfl⟩ := List.mem_map.1 hz
        exact (hs.out y hy).1⟩ (by omega) (by omega)
      have hl := fun (w' : World) (h : Mem w0 w' (Own 1 (.slice K k kc) (nws (ys.map lnO)) :: ((ys.map lnO).map lnC ++ (Own 6 (.slice A k c) (ys.flatMap cRO) :: L)))) => apLongs_ok w0 w' K k kc (ys.map lnO) _ (h.perm List.perm_middle.symm) ⟨by rw [List.length_map, hyl.out]⟩ ⟨fun z hz => by
        obtain ⟨y, hy, rfl⟩ := List.mem_map.1 hz
        have := (hs.out y hy).2
        show y.ob.keys.length ≤ _
        omega⟩ (by omega)
      replace hv := Fact.mk hv
      replace hl := Fact.mk hl
      clear hm1 hm2 hmr
      go_wp2_with fail
      refine hv.out.mono ?_
      rintro e w2 ⟨rfl, hm3⟩
      have hl2 := Fact.mk (hl.out w2 hm3)
      clear hv hl hm3
      go_wp2_with fail
      refine hl2.out.mono ?_
      rintro e w3 ⟨rfl, hm4⟩
      clear hl2
      go_wp2_with fail
      go_ret
      exact ⟨rfl, hm4.tail⟩
end Go.Proofs.YtpibchjkmaghnaaGreat
