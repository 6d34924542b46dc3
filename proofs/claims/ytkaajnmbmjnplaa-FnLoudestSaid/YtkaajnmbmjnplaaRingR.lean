import Derived.Test.YtkaajnmbmjnplaaRoomB
import Derived.Test.YtkaajnmbmjnplaaRing
namespace Go.Proofs.Ytkaajnmbmjnplaa
open Go.RowKit Go.Fl Go.BigFrame

/-- A call that gives no body. -/
def RetNoB (w : World) (e : Ending) (w' : World) : Prop := e = .returned (.tuple #[.agg #[.slice none 0 0], .bool false]) ∧ Below w.heap.size w w'
def RetNoF (w : World) (e : Ending) (w' : World) : Prop := e = .returned (.tuple #[.slice none 0 0, .bool false]) ∧ Below w.heap.size w w'

set_option maxRecDepth 10000 in
set_option maxHeartbeats 4000000 in
theorem roomBodyBad_c {ma sa : Option Addr} {mc sc s e : Nat} {xs : List MW} {sh : List (List Nat)} (w : World) (h : RoomP w ma xs sa sh) (ok : RoomOk xs sh) (hs : sh.length ≤ s) :
    Calls Try.prog 37 #[.agg #[.slice ma xs.length mc, .slice sa sh.length sc], .int .i64 s, .int .i64 e] w (RetNoB w) := by
  have L0 := Lib.hid (fun w' hb => isRoomImpl_c (mc := mc) (sc := sc) w' (h.below hb) ok)
  have ds : decide (s < sh.length) = false := by simp; omega
  clear h ok
  go_enter Try.func37, Try.ntmps37
  go_upto_region 1 with fail
  obtain ⟨B0, P0, Q0, hs0⟩ := two_new w (.cells #[.slice ma xs.length mc, .slice sa sh.length sc] 42) (.cells #[.slice none 0 0] 25)
  generalize ((w.alloc (.cells #[.slice ma xs.length mc, .slice sa sh.length sc] 42)).alloc (.cells #[.slice none 0 0] 25)) = W0 at *
  have c0 := cur_cell P0 0
  have c1 := cur_cell P0 1
  simp at c0 c1
  go_wp2_with fail
  refine (L0.out _ B0).mono ?_
  rintro e_ W1 ⟨rfl, b0⟩
  have B1 := B0.trans (b0.mono (by omega))
  have P1 := (b0.block _ (by omega)).trans P0
  have Q1 := (b0.block _ (by omega)).trans Q0
  have hs1 : w.heap.size + 2 ≤ W1.heap.size := Nat.le_trans (Nat.le_of_eq hs0) b0.size
  clear B0 P0 Q0 hs0 b0 c0 c1 L0
  have c0 := cur_cell P1 0
  have c1 := cur_cell P1 1
  simp at c0 c1
  go_wp2_with fail
  refine (isPlace_c _).mono ?_
  rintro e_ W2 ⟨rfl, b0⟩
  rw [ds]
  have B2 := B1.trans (b0.mono (by omega))
  have Q2 := (b0.block _ (by omega)).trans Q1
  clear B1 P1 Q1 b0 c0 c1
  have c1 := cur_cell Q2 0
  have f1 := cur_free Q2 0
  simp at c1
  have hR5 := Lib.hid (cur_set Q2 0 (.slice none 0 0))
  have B5 := Lib.hid (below_set B2 (show w.heap.size ≤ w.heap.size + 1 by omega) 0 (.slice none 0 0))
  clear Q2 B2
  go_wp2_with fail
  refine bodyPost_ret_by (v := .tuple #[.agg #[.slice none 0 0], .bool false]) ?_ rfl ⟨rfl, B5.out⟩
  exact results_body rfl _ _ (w.heap.size + 1) _ #[.slice none 0 0] _ _ _ rfl rfl hR5.out rfl Try.underlying25 (by kernel_rfl)

set_option maxRecDepth 10000 in
set_option maxHeartbeats 4000000 in
theorem ringRoomBad_c {ma sa ia : Option Addr} {mc sc ic il s e : Nat} {xs : List MW} {sh : List (List Nat)} (w : World) (h : RoomP w ma xs sa sh) (ok : RoomOk xs sh) (hs : sh.length ≤ s) :
    Calls Try.prog 18 #[.agg #[.slice ma xs.length mc, .slice sa sh.length sc], .int .i64 s, .int .i64 e, .slice ia il ic, .int .i64 20] w (RetNoF w) := by
  have L0 := Lib.hid (fun w' hb => roomBodyBad_c (mc := mc) (sc := sc) (e := e) w' (h.below hb) ok hs)
  clear h ok
  go_enter Try.func18, Try.ntmps18
  go_upto_region 1 with fail
  have B0 : Below w.heap.size w (w.alloc (.cells #[.slice ma xs.length mc, .slice sa sh.length sc] 42)) := (Below.refl _ _).alloc (Nat.le_refl _) _
  have P0 := heap_alloc_new w (.cells #[.slice ma xs.length mc, .slice sa sh.length sc] 42)
  generalize w.alloc (.cells #[.slice ma xs.length mc, .slice sa sh.length sc] 42) = W0 at *
  have c0 := cur_cell P0 0
  have c1 := cur_cell P0 1
  simp at c0 c1
  go_wp2_with fail
  refine (L0.out _ B0).mono ?_
  rintro e_ W1 ⟨rfl, b0⟩
  have B1 := B0.trans (b0.mono B0.size)
  have B2 := B1.alloc B1.size (.cells #[.slice none 0 0] 25)
  go_wp2_with fail
  go_ret2
  exact ⟨rfl, B2⟩

set_option maxRecDepth 10000 in
set_option maxHeartbeats 4000000 in
theorem ringRoom_c {ma sa ia : Option Addr} {mc sc ic s e : Nat} {xs : List MW} {sh : List (List Nat)} {inp : List Nat} (w : World) (h : RoomP w ma xs sa sh) (ok : RoomOk xs sh) (hs : s < sh.length) (he : e < sh.length) (hi : FsP w .f32 ia inp.length inp) (hin : ∀ x ∈ inp, Lim .f32 1 x) :
    Calls Try.prog 18 #[.agg #[.slice ma xs.length mc, .slice sa sh.length sc], .int .i64 s, .int .i64 e, .slice ia inp.length ic, .int .i64 20] w (RetFs (ringW (roomW xs sh[s] sh[e]) inp 20) w) := by
  have L0 := Lib.hid (fun w' hb => roomBody_c (mc := mc) (sc := sc) w' (h.below hb) ok hs he)
  have RO := Lib.hid (roomW_ok ok.ok ok.wf (ok.row _ (List.getElem_mem hs)).1 (ok.row _ (List.getElem_mem he)).1 (ok.row _ (List.getElem_mem hs)).2 (ok.row _ (List.getElem_mem he)).2)
  have HI := Lib.hid hi
  have HN := Lib.hid hin
  generalize roomW xs sh[s] sh[e] = rw_ at *
  clear h ok hi hin
  go_enter Try.func18, Try.ntmps18
  go_upto_region 1 with fail
  have B0 : Below w.heap.size w (w.alloc (.cells #[.slice ma xs.length mc, .slice sa sh.length sc] 42)) := (Below.refl _ _).alloc (Nat.le_refl _) _
  have P0 := heap_alloc_new w (.cells #[.slice ma xs.length mc, .slice sa sh.length sc] 42)
  generalize w.alloc (.cells #[.slice ma xs.length mc, .slice sa sh.length sc] 42) = W0 at *
  have c0 := cur_cell P0 0
  have c1 := cur_cell P0 1
  simp at c0 c1
  go_wp2_with fail
  refine (L0.out _ B0).mono ?_
  rintro e_ W1 ⟨v, rfl, hown, b0⟩
  rw [RO.out.1]
  rw [show kept rw_ = rw_ by unfold kept; rw [RO.out.1]; rfl] at hown
  obtain ⟨va, vc, rfl⟩ := owns_slice hown
  have B1 := B0.trans (b0.mono B0.size)
  have SH := MsP.of_owns rfl hown
  clear b0 B0 P0 c0 c1 L0 hown
  go_upto_region 2 with fail
  have P2 := heap_alloc_new W1 (.cells #[.slice va rw_.length vc] 25)
  have B2 := B1.alloc B1.size (.cells #[.slice va rw_.length vc] 25)
  have S2 := SH.below ((Below.refl _ _).alloc (Nat.le_refl _) (.cells #[.slice va rw_.length vc] 25))
  generalize W1.alloc (.cells #[.slice va rw_.length vc] 25) = W2 at *
  generalize W1.heap.size = O at *
  have c0 := cur_cell P2 0
  simp at c0
  go_wp2_with fail
  refine (ringBody_c W2 S2 RO.out.2 RO.out.1 (HI.out.below B2) HN.out).mono ?_
  rintro e_ W3 ⟨v, rfl, hown, b3⟩
  have B3 := B2.trans (b3.mono B2.size)
  have O3 := owns_le hown B2.size
  clear hown b3
  go_wp2_with fail
  go_ret2
  exact ⟨v, rfl, O3, B3⟩
end Go.Proofs.Ytkaajnmbmjnplaa
