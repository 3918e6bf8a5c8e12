/- A heap's channels: opened, closed again; Shut, Chan. -/
import Derived.Test.YtpibchjkmaghnaaHpChan
import Derived.Test.YtpibchjkmaghnaaDelV
namespace Go.Proofs.Ytpibchjkmaghnaa
open Go.RowKit Go.Mm
set_option maxHeartbeats 2000000
set_option maxRecDepth 100000
/-- What a thing has beside its block and its items. -/
def Th.more (t : Th) : List Chunk := [Own 1 (.slice t.KA t.kn t.kc) (nums .i64 t.ob.keys), MapC t.mp t.ob.keys]
def Th.queue (t : Th) (A : Option Addr) (n c : Nat) (items : List V2) (sh : Bool) : Th := { t with A := A, n := n, c := c, ob := { t.ob with items := items, shut := sh } }
theorem Th.chunksC (t : Th) (hk : t.ob.kind = 9) : t.chunks = Blk t.g (.cells [.int .i64 t.ob.cap, .slice t.A t.n t.c, .bool t.ob.shut].toArray 97) :: Own 2 (.slice t.A t.n t.c) (fV t.ob.items) :: t.more := by
  unfold Th.chunks Th.cells thEl Th.more
  rw [hk]
  rfl
theorem Hp.opnC {w0 w : World} {L : List Chunk} {h : Hp} (hm : Mem w0 w (HpC h :: L)) (i : Nat) (hi : i < h.ths.length) (t : Th) (ht : h.ths.getD i th0 = t) (hk : t.ob.kind = 9) :
    Mem w0 w (Blk t.g (.cells [.int .i64 t.ob.cap, .slice t.A t.n t.c, .bool t.ob.shut].toArray 97) :: Own 2 (.slice t.A t.n t.c) (fV t.ob.items) :: (t.more ++ (h.rest i ++ L))) := by
  have h1 := Hp.opn hm i hi
  rw [ht, t.chunksC hk] at h1
  exact h1
theorem Hp.clsC {w0 w : World} {L : List Chunk} {h : Hp} (i : Nat) (hi : i < h.ths.length) (t : Th) (ht : h.ths.getD i th0 = t) (hk : t.ob.kind = 9) (A : Option Addr) (n c : Nat) (items : List V2) (sh : Bool)
    (hm : Mem w0 w (Blk t.g (.cells [.int .i64 t.ob.cap, .slice A n c, .bool sh].toArray 97) :: Own 2 (.slice A n c) (fV items) :: (t.more ++ (h.rest i ++ L)))) : Mem w0 w (HpC (h.upd i (t.queue A n c items sh)) :: L) := by
  refine Hp.cls i hi (t.queue A n c items sh) (by rw [ht]; rfl) ?_
  rw [Th.chunksC (t.queue A n c items sh) hk]
  exact hm
theorem Mem.mapnil {w0 w : World} {L : List Chunk} (h : Mem w0 w L) : Mem w0 w (MapC none [] :: L) := by
  refine ⟨h.below, fun c hc => ?_, fun c hc k hk => ?_, List.pairwise_cons.2 ⟨fun _ _ k hk => (nomatch (show none = some k from hk)), h.dis⟩⟩
  · rcases List.mem_cons.1 hc with rfl | hc
    · exact (rfl : ([] : List Int) = [])
    · exact h.ok c hc
  · rcases List.mem_cons.1 hc with rfl | hc
    · exact nomatch (show none = some k from hk)
    · exact h.rng c hc k hk
theorem asK_yes {h : Hp} {v : V2} {i : Nat} {t : Th} (hn : nm h.objs v = some i) (ht : h.ths.getD i th0 = t) (k : Int) (hk : t.ob.kind = k) : asK h v k = some ⟨t.g, 0, none⟩ := by
  unfold asK
  rw [hn]
  simp only [ht]
  rw [if_pos hk]
def shutR (o : Ob) : Int := if o.shut then 7 else 0
theorem shut_ok (w0 w : World) (L : List Chunk) (h : Hp) (hm : Mem w0 w (HpC h :: L)) (hok : Fact h.Ok) (K N : Int) (i : Nat) (hn : nm h.objs (K, N) = some i) (t : Th) (ht : Fact (h.ths.getD i th0 = t)) (hk : Fact (t.ob.kind = 9)) :
    Calls Try.prog 16 #[.pointer (some ⟨h.g, 0, none⟩), .agg #[.int .i64 K, .int .i64 N]] w fun e w' => e = .returned (.int .i64 (shutR t.ob)) ∧ Mem w0 w' (HpC (h.upd i (t.queue t.A t.n t.c t.ob.items true)) :: L) := by
  have hil := (nm_in hn).1
  have has := Fact.mk (asK_yes hn ht.out 9 hk.out)
  clear hn
  go_enter Try.func16, Try.ntmps16
  go_upto_region 1 with (fail)
  have hm1 := hm.alloc (.cells [.int .i64 K, .int .i64 N].toArray 27)
  generalize hgb : w.heap.size = gb at hm1 ⊢
  generalize hw1 : w.alloc (.cells [.int .i64 K, .int .i64 N].toArray 27) = w1 at hm1
  try refine wp_world hw1 ?_
  clear hw1 hgb
  go_wp2_with (refine wp_rng rfl 27 _ rfl gb 0 rfl (cV (K, N)) (rng_blk hm1 m0) row_V sz_V ?_)
  refine (channel_ok w0 w1 _ h hm1 m1 hok K N).mono ?_
  rintro e w2 ⟨rfl, hg2⟩
  rw [has.out]
  have hm2 := Hp.opnC (hm1.gr hg2).swap i hil t ht.out hk.out
  have c2 := hm2.cell m0 2 rfl
  have f2 := hm2.free m0 2
  cases hs : t.ob.shut with
  | true =>
    have hs' := Fact.mk hs
    rw [hs] at c2
    clear hs
    simp only [trapK]
    go_wp2
    go_ret
    refine ⟨by unfold shutR; rw [hs'.out]; rfl, ?_⟩
    have hm3 := Hp.clsC i hil t ht.out hk.out t.A t.n t.c t.ob.items true (by rw [hs'.out] at hm2; exact hm2)
    exact hm3.drop2
  | false =>
    have hs' := Fact.mk hs
    rw [hs] at c2
    clear hs
    simp only [trapK]
    go_wp2
    go_ret
    refine ⟨by unfold shutR; rw [hs'.out]; rfl, ?_⟩
    have hm3 := hm2.set 2 (.bool true)
    exact (Hp.clsC i hil t ht.out hk.out t.A t.n t.c t.ob.items true hm3).drop2
end Go.Proofs.Ytpibchjkmaghnaa
