import Derived.Test.YtkaajnmbmjnplaaRingR
import Derived.Test.YtkaajnmbmjnplaaL1Abs
import Derived.Deep.QuietTactic
import Derived.BigQuiet
namespace Go.Proofs.Ytkaajnmbmjnplaa
open Go.RowKit Go.Fl Go.BigFrame

/-- No loudest ear. -/
def RetNoE (w : World) (e : Ending) (w' : World) : Prop := e = .returned (.tuple #[.int .i64 0, .bool false]) ∧ Below w.heap.size w w'

set_option maxRecDepth 10000 in
set_option maxHeartbeats 4000000 in
theorem loudestBad_c {ma sa ia : Option Addr} {mc sc ic il s : Nat} {xs : List MW} {sh : List (List Nat)} (w : World) (h : RoomP w ma xs sa sh) (ok : RoomOk xs sh) (hs : sh.length ≤ s) :
    Calls Try.prog 16 #[.agg #[.slice ma xs.length mc, .slice sa sh.length sc], .int .i64 s, .slice ia il ic, .int .i64 20] w (RetNoE w) := by
  have RR := Lib.hid (fun w' (hb : Below w.heap.size w w') e => ringRoomBad_c (mc := mc) (sc := sc) (ic := ic) (il := il) (ia := ia) (e := e) w' (h.below hb) ok hs)
  have u3 := under3
  clear h ok
  go_enter Try.func16, Try.ntmps16
  go_upto_region 1 with fail
  have B0 := Lib.hid (show Below w.heap.size w (w.alloc (.cells #[.slice ma xs.length mc, .slice sa sh.length sc] 42)) from (Below.refl _ _).alloc (Nat.le_refl _) _)
  have P0 := Lib.hid (heap_alloc_new w (.cells #[.slice ma xs.length mc, .slice sa sh.length sc] 42))
  have hs0 : w.heap.size < (w.alloc (.cells #[.slice ma xs.length mc, .slice sa sh.length sc] 42)).heap.size := by rw [World.size_alloc]; omega
  generalize w.alloc (.cells #[.slice ma xs.length mc, .slice sa sh.length sc] 42) = W0 at *
  have c0 := cur_cell P0.out 0
  have c1 := cur_cell P0.out 1
  simp at c0 c1
  go_wp2_with fail
  go_loopw [10, 19] (fun b i wr => b = .int .i64 0 ∧ i = .int .i64 0 ∧ wr = W0) (fun _ i _ => sh.length - (intOf i).toNat)
  case atStart => exact ⟨rfl, rfl, rfl⟩
  case round =>
    obtain ⟨rfl, rfl, rfl⟩ := hrel
    rcases Nat.eq_zero_or_pos sh.length with h0 | h0
    · have d1 : decide ((0 : Int) < (sh.length : Int)) = false := decide_eq_false (by omega)
      have d2 : decide ((sh.length : Int) > 0) = false := decide_eq_false (by omega)
      go_upto_region 12 with fail
      go_big_quiet (fail)
      go_wp2_with fail
      go_ret2
      exact ⟨rfl, below_drewN' B0.out _⟩
    · have d1 : decide ((0 : Int) < (sh.length : Int)) = true := decide_eq_true (by omega)
      go_wp2_with fail
      refine (RR.out _ B0.out 0).mono ?_
      rintro r W1 ⟨rfl, b1⟩
      have B1 := Lib.hid (B0.out.trans (b1.mono B0.out.size))
      go_wp2_with fail
      go_ret2
      exact ⟨rfl, B1.out⟩

/-! ### The reference -/
set_option maxRecDepth 10000 in
set_option maxHeartbeats 4000000 in
theorem isRoomSpec_c {ma sa : Option Addr} {mc sc : Nat} {xs : List MW} {sh : List (List Nat)} (w : World) (h : RoomP w ma xs sa sh) (ok : RoomOk xs sh) :
    Calls Try.prog 66 #[.agg #[.slice ma xs.length mc, .slice sa sh.length sc]] w (RetBel (.bool true) w) := by
  have hlen := ok.len
  have hpl := ok.places
  have hok := ok.ok
  have L0 := Lib.hid (fun w' hb => l2Modes_c (cap := mc) w' (h.modes.below hb) ok.wf (by omega))
  rw [hok] at L0
  have H := Lib.hid h
  have OK := Lib.hid ok
  have u3 := under3
  have d16 : decide ((sh.length : Int) > 16) = false := by simp; omega
  clear h ok hok
  go_enter Try.func66, Try.ntmps66
  go_upto_region 1 with fail
  have B0 : Below w.heap.size w (w.alloc (.cells #[.slice ma xs.length mc, .slice sa sh.length sc] 42)) := (Below.refl _ _).alloc (Nat.le_refl _) _
  have P0 := heap_alloc_new w (.cells #[.slice ma xs.length mc, .slice sa sh.length sc] 42)
  have hs0 : w.heap.size < (w.alloc (.cells #[.slice ma xs.length mc, .slice sa sh.length sc] 42)).heap.size := by rw [World.size_alloc]; omega
  generalize w.alloc (.cells #[.slice ma xs.length mc, .slice sa sh.length sc] 42) = W0 at *
  have c0 := cur_cell P0 0
  have c1 := cur_cell P0 1
  simp at c0 c1
  go_wp2_with fail
  refine (L0.out _ B0).mono ?_
  rintro e W1 ⟨rfl, b0⟩
  have B1 := Lib.hid (B0.trans (b0.mono (by omega)))
  have P1 := Lib.hid ((b0.block _ hs0).trans P0)
  have hs1 := Nat.lt_of_lt_of_le hs0 b0.size
  clear B0 P0 hs0 b0 c0 c1 L0
  have c0 := cur_cell P1.out 0
  have c1 := cur_cell P1.out 1
  simp at c0 c1
  go_wp2_with fail
  go_loopw [20] (fun i wr => ∃ I : Nat, i = .int .i64 I ∧ I ≤ sh.length ∧ Hid (Below w.heap.size w wr) ∧ Hid (wr.heap[w.heap.size]? = some (.cells #[.slice ma xs.length mc, .slice sa sh.length sc] 42 (0, 0))) ∧ w.heap.size < wr.heap.size) (fun i _ => sh.length - (intOf i).toNat)
  case atStart => exact ⟨0, rfl, Nat.zero_le _, B1, P1, hs1⟩
  case round =>
    clear B1 P1 hs1 c0 c1
    obtain ⟨I, rfl, hI, hB, hP, hs⟩ := hrel
    rcases Nat.lt_or_eq_of_le hI with hlt | heq
    · have d1 : decide ((I : Int) < (sh.length : Int)) = true := by simpa using hlt
      obtain ⟨g, off, ra, rc, rfl, cr, hg, hr⟩ := (H.out.below hB.out).rows I hlt
      obtain ⟨hrl, hrx⟩ := OK.out.row _ (List.getElem_mem hlt)
      have HR := Lib.hid hr
      have HX := Lib.hid hrx
      rw [hrl] at cr
      clear hr hrx
      have c0 := cur_cell hP.out 0
      simp at c0
      generalize sh[I] = l at *
      go_wp2_with fail
      go_loopw [32] (fun j wx => ∃ J n : Nat, j = .int .i64 J ∧ J ≤ l.length ∧ wx = wr.drewN n) (fun j _ => l.length - (intOf j).toNat)
      case atStart => exact ⟨0, 0, rfl, Nat.zero_le _, rfl⟩
      case round =>
        obtain ⟨J, n, rfl, hJ, rfl⟩ := hrel
        rcases Nat.lt_or_eq_of_le hJ with hlt2 | heq2
        · have d2 : decide ((J : Int) < (xs.length : Int)) = true := by simp; omega
          obtain ⟨gr, offr, rfl, cw, _⟩ := HR.out.2.1 J (by omega)
          have hw := HX.out _ (List.getElem_mem hlt2)
          have o1 := weight_leq hw
          have fx := hw.fin (by omega)
          have e1 := fun W => run_convert_float_float (P := Try.prog) W 35 50 .f32 .f64 _ _ under35s under50 (conv_wd fx)
          have MA := Lib.hid (fun W => l1Abs_c (p := some (wd l[J])) (FV.mk (not_nan_le (k := .f64) (Nat.le_of_lt (wd_facts fx).1)) (wd_facts fx).2.2.2.1) W)
          clear hw fx
          generalize l[J] = x at *
          go_wp2_with fail
          refine (MA.out _).mono ?_
          rintro e _ ⟨r, rfl, fr, n2, rfl⟩
          obtain ⟨rfl, _⟩ := (show FV .f64 (some (rg Ieee.double (wd x))) r from fr).not_nan
          go_wp2_with fail
          exact ⟨⟨J + 1, _, by go_num, hlt2, rfl⟩, by simp [intOf]; omega⟩
        · subst heq2
          have d2 : decide ((l.length : Int) < (xs.length : Int)) = false := by simp; omega
          go_wp2_with fail
          have hd : Below wr.heap.size wr (wr.drewN n) := below_drewN' (Below.refl _ _) n
          exact ⟨⟨I + 1, by go_num, hlt, Lib.hid (below_drewN' hB.out n), Lib.hid hP.out, hs⟩, by simp [intOf]; omega⟩
    · subst heq
      have d1 : decide ((sh.length : Int) < (sh.length : Int)) = false := by simp
      go_wp2_with fail
      go_ret
      exact ⟨rfl, hB.out⟩

set_option maxRecDepth 10000 in
set_option maxHeartbeats 4000000 in
theorem roomBodyBadS_c {ma sa : Option Addr} {mc sc s e : Nat} {xs : List MW} {sh : List (List Nat)} (w : World) (h : RoomP w ma xs sa sh) (ok : RoomOk xs sh) (hs : sh.length ≤ s) :
    Calls Try.prog 50 #[.agg #[.slice ma xs.length mc, .slice sa sh.length sc], .int .i64 s, .int .i64 e] w (RetNoB w) := by
  have L0 := Lib.hid (fun w' hb => isRoomSpec_c (mc := mc) (sc := sc) w' (h.below hb) ok)
  have ds : decide (s < sh.length) = false := by simp; omega
  clear h ok
  go_enter Try.func50, Try.ntmps50
  go_upto_region 1 with fail
  obtain ⟨B0, P0, Q0, hs0⟩ := two_new w (.cells #[.slice ma xs.length mc, .slice sa sh.length sc] 42) (.cells #[.slice none 0 0] 25)
  generalize ((w.alloc (.cells #[.slice ma xs.length mc, .slice sa sh.length sc] 42)).alloc (.cells #[.slice none 0 0] 25)) = W0 at *
  have c0 := cur_cell P0 0
  have c1 := cur_cell P0 1
  simp at c0 c1
  go_wp2_with fail
  refine (L0.out _ B0).mono ?_
  rintro e_ W1 ⟨rfl, b0⟩
  have B1 := B0.trans (b0.mono (by omega))
  have P1 := (b0.block _ (by omega)).trans P0
  have Q1 := (b0.block _ (by omega)).trans Q0
  have hs1 : w.heap.size + 2 ≤ W1.heap.size := Nat.le_trans (Nat.le_of_eq hs0) b0.size
  clear B0 P0 Q0 hs0 b0 c0 c1 L0
  have c0 := cur_cell P1 0
  have c1 := cur_cell P1 1
  simp at c0 c1
  go_wp2_with fail
  refine (l4Place_c _).mono ?_
  rintro e_ W2 ⟨rfl, b0⟩
  rw [ds]
  have B2 := B1.trans (b0.mono (by omega))
  have Q2 := (b0.block _ (by omega)).trans Q1
  clear B1 P1 Q1 b0 c0 c1
  have c1 := cur_cell Q2 0
  have f1 := cur_free Q2 0
  simp at c1
  have hR5 := Lib.hid (cur_set Q2 0 (.slice none 0 0))
  have B5 := Lib.hid (below_set B2 (show w.heap.size ≤ w.heap.size + 1 by omega) 0 (.slice none 0 0))
  clear Q2 B2
  go_wp2_with fail
  refine bodyPost_ret_by (v := .tuple #[.agg #[.slice none 0 0], .bool false]) ?_ rfl ⟨rfl, B5.out⟩
  exact results_body rfl _ _ (w.heap.size + 1) _ #[.slice none 0 0] _ _ _ rfl rfl hR5.out rfl Try.underlying25 (by kernel_rfl)

set_option maxRecDepth 10000 in
set_option maxHeartbeats 4000000 in
theorem ringRoomBadS_c {ma sa ia : Option Addr} {mc sc ic il s e : Nat} {xs : List MW} {sh : List (List Nat)} (w : World) (h : RoomP w ma xs sa sh) (ok : RoomOk xs sh) (hs : sh.length ≤ s) :
    Calls Try.prog 35 #[.agg #[.slice ma xs.length mc, .slice sa sh.length sc], .int .i64 s, .int .i64 e, .slice ia il ic, .int .i64 20] w (RetNoF w) := by
  have L0 := Lib.hid (fun w' hb => roomBodyBadS_c (mc := mc) (sc := sc) (e := e) w' (h.below hb) ok hs)
  clear h ok
  go_enter Try.func35, Try.ntmps35
  go_upto_region 1 with fail
  have B0 : Below w.heap.size w (w.alloc (.cells #[.slice ma xs.length mc, .slice sa sh.length sc] 42)) := (Below.refl _ _).alloc (Nat.le_refl _) _
  have P0 := heap_alloc_new w (.cells #[.slice ma xs.length mc, .slice sa sh.length sc] 42)
  generalize w.alloc (.cells #[.slice ma xs.length mc, .slice sa sh.length sc] 42) = W0 at *
  have c0 := cur_cell P0 0
  have c1 := cur_cell P0 1
  simp at c0 c1
  go_wp2_with fail
  refine (L0.out _ B0).mono ?_
  rintro e_ W1 ⟨rfl, b0⟩
  have B1 := B0.trans (b0.mono B0.size)
  have B2 := B1.alloc B1.size (.cells #[.slice none 0 0] 25)
  go_wp2_with fail
  go_ret2
  exact ⟨rfl, B2⟩

set_option maxRecDepth 10000 in
set_option maxHeartbeats 4000000 in
theorem loudestBadS_c {ma sa ia : Option Addr} {mc sc ic il s : Nat} {xs : List MW} {sh : List (List Nat)} (w : World) (h : RoomP w ma xs sa sh) (ok : RoomOk xs sh) (hs : sh.length ≤ s) :
    Calls Try.prog 17 #[.agg #[.slice ma xs.length mc, .slice sa sh.length sc], .int .i64 s, .slice ia il ic, .int .i64 20] w (RetNoE w) := by
  have RR := Lib.hid (fun w' (hb : Below w.heap.size w w') e => ringRoomBadS_c (mc := mc) (sc := sc) (ic := ic) (il := il) (ia := ia) (e := e) w' (h.below hb) ok hs)
  have u3 := under3
  clear h ok
  go_enter Try.func17, Try.ntmps17
  go_upto_region 1 with fail
  have B0 := Lib.hid (show Below w.heap.size w (w.alloc (.cells #[.slice ma xs.length mc, .slice sa sh.length sc] 42)) from (Below.refl _ _).alloc (Nat.le_refl _) _)
  have P0 := Lib.hid (heap_alloc_new w (.cells #[.slice ma xs.length mc, .slice sa sh.length sc] 42))
  have hs0 : w.heap.size < (w.alloc (.cells #[.slice ma xs.length mc, .slice sa sh.length sc] 42)).heap.size := by rw [World.size_alloc]; omega
  generalize w.alloc (.cells #[.slice ma xs.length mc, .slice sa sh.length sc] 42) = W0 at *
  have c0 := cur_cell P0.out 0
  have c1 := cur_cell P0.out 1
  simp at c0 c1
  go_wp2_with fail
  go_loopw [10, 19] (fun b i wr => b = .int .i64 0 ∧ i = .int .i64 0 ∧ wr = W0) (fun _ i _ => sh.length - (intOf i).toNat)
  case atStart => exact ⟨rfl, rfl, rfl⟩
  case round =>
    obtain ⟨rfl, rfl, rfl⟩ := hrel
    rcases Nat.eq_zero_or_pos sh.length with h0 | h0
    · have d1 : decide ((0 : Int) < (sh.length : Int)) = false := decide_eq_false (by omega)
      have d2 : decide ((sh.length : Int) > 0) = false := decide_eq_false (by omega)
      go_upto_region 14 with fail
      go_big_quiet (fail)
      go_wp2_with fail
      go_ret2
      exact ⟨rfl, below_drewN' B0.out _⟩
    · have d1 : decide ((0 : Int) < (sh.length : Int)) = true := decide_eq_true (by omega)
      go_wp2_with fail
      refine (RR.out _ B0.out 0).mono ?_
      rintro r W1 ⟨rfl, b1⟩
      have B1 := Lib.hid (B0.out.trans (b1.mono B0.out.size))
      go_wp2_with fail
      go_ret2
      exact ⟨rfl, B1.out⟩
end Go.Proofs.Ytkaajnmbmjnplaa
