import Derived.Test.YtkaajnmbmjnplaaGain
import Derived.Test.YtkaajnmbmjnplaaMulS
import Derived.Test.YtkaajnmbmjnplaaBodyF
import Derived.Test.YtkaajnmbmjnplaaL1Abs
import Derived.Shelf.Abstract
namespace Go.Proofs.Ytkaajnmbmjnplaa
open Go.RowKit Go.Fl Go.Shelf Go.Proofs

theorem enter_isRoom1 : ∀ args w, (callFunc 72 args).run Try.prog w = .ok (.enter 72 args) w :=
  enters_of Try.func72 (by kernel_rfl) rfl

/-- A weight that is at most one is below sixteen. -/
theorem weight_leq {x : Nat} (h : Lim .f32 0 x) : (FloatKind.f64.format.order (rg Ieee.double (wd x)) 4625196817309499392 == some .lt || FloatKind.f64.format.order (rg Ieee.double (wd x)) 4625196817309499392 == some .eq) = true := by
  have h1 := lim_wd h (by omega)
  have h2 : rg Ieee.double (wd x) ≤ pwr .f64 0 := h1.2
  have h3 := ple_rung (r := rg Ieee.double (wd x)) (g := 4625196817309499392) (Nat.le_trans h2 (by decide)) (by decide)
  rw [decide_eq_true (Nat.le_trans h2 (by decide))] at h3
  exact h3

set_option maxRecDepth 10000 in
set_option maxHeartbeats 1000000 in
theorem isRoom1_c {x : Nat} (h : Lim .f32 0 x) (w : World) :
    Calls Try.prog 72 (#[.float .f32 x] ++ #[]) w (RetBel (.bool false) w) := by
  have fx := h.fin (by omega)
  have e1 := fun W => run_convert_float_float (P := Try.prog) W 35 50 .f32 .f64 _ _ under35s under50 (conv_wd fx)
  have o1 := weight_leq h
  have MA := Lib.hid (fun W => mathAbs_c (p := some (wd x)) (FV.mk (not_nan_le (k := .f64) (Nat.le_of_lt (wd_facts fx).1)) (wd_facts fx).2.2.2.1) W)
  rw [show (#[Value.float .f32 x] ++ #[] : Array Value) = #[.float .f32 x] from rfl]
  clear h fx
  go_enter Try.func72, Try.ntmps72
  go_wp2_with fail
  refine (MA.out _).mono ?_
  rintro e _ ⟨r, rfl, fr, n, rfl⟩
  obtain ⟨rfl, _⟩ := (show FV .f64 (some (rg Ieee.double (wd x))) r from fr).not_nan
  go_wp2_with fail
  go_ret
  exact ⟨rfl, below_drewN' (Below.refl _ _) _⟩

set_option maxRecDepth 10000 in
set_option maxHeartbeats 2000000 in
theorem indexFuncF_c {a : Option Addr} {cap fid : Nat} {xs : List Nat} (w : World) (h : FsP w .f32 a xs.length xs) (hl : xs.length ≤ 1000)
    (hin : ∀ args w, (callFunc fid args).run Try.prog w = .ok (.enter fid args) w)
    (hcall : ∀ W, ∀ x ∈ xs, Calls Try.prog fid (#[.float .f32 x] ++ #[]) W (RetBel (.bool false) W)) :
    Calls Try.prog 80 #[.slice a xs.length cap, .func (.func fid) #[] #[]] w (RetBel (.int .i64 (-1)) w) := by
  have H := Lib.hid h
  have HC := Lib.hid hcall
  have u3 := under3
  clear h hcall
  go_enter Try.func80, Try.ntmps80
  go_wp2_with fail
  go_loopw [8] (fun i wr => ∃ I : Nat, i = .int .i64 I ∧ I ≤ xs.length ∧ Hid (Below w.heap.size w wr)) (fun i _ => xs.length - (intOf i).toNat)
  case atStart => exact ⟨0, rfl, Nat.zero_le _, Lib.hid (Below.refl _ _)⟩
  case round =>
    obtain ⟨I, rfl, hI, hB⟩ := hrel
    rcases Nat.lt_or_eq_of_le hI with hlt | heq
    · have d1 : decide ((I : Int) < (xs.length : Int)) = true := by simpa using hlt
      obtain ⟨g, off, rfl, c0, hg⟩ := (H.out.below hB.out).2.1 I hlt
      have LX := Lib.hid (HC.out wr _ (List.getElem_mem hlt))
      generalize xs[I] = x at *
      go_wp2_with fail
      refine LX.out.mono ?_
      rintro e W2 ⟨rfl, b2⟩
      have B2 := Lib.hid (hB.out.trans (b2.mono hB.out.size))
      go_wp2_with fail
      exact ⟨⟨I + 1, by go_num, hlt, B2⟩, by simp [intOf]; omega⟩
    · subst heq
      have d1 : decide ((xs.length : Int) < (xs.length : Int)) = false := by simp
      go_wp2_with fail
      go_ret
      exact ⟨rfl, hB.out⟩

set_option maxRecDepth 10000 in
set_option maxHeartbeats 1000000 in
theorem containsFuncF_c {a : Option Addr} {cap : Nat} {xs : List Nat} (w : World) (h : FsP w .f32 a xs.length xs) (hl : xs.length ≤ 1000) (hx : ∀ x ∈ xs, Lim .f32 0 x) :
    Calls Try.prog 71 #[.slice a xs.length cap, .func (.func 72) #[] #[]] w (RetBel (.bool false) w) := by
  have C := Lib.hid (indexFuncF_c (cap := cap) w h hl enter_isRoom1 (fun W x hm => isRoom1_c (hx x hm) W))
  clear h hx hl
  go_enter Try.func71, Try.ntmps71
  go_wp2_with fail
  refine C.out.mono ?_
  rintro e w1 ⟨rfl, b1⟩
  go_wp2_with fail
  go_ret
  exact ⟨rfl, b1⟩

/-- A room, as it lies. -/
structure RoomP (w : World) (ma : Option Addr) (xs : List MW) (sa : Option Addr) (sh : List (List Nat)) : Prop where
  modes : MsP w ma xs
  rows : ∀ p (_ : p < sh.length), ∃ g off ra rc, sa = some ⟨g, off, none⟩ ∧ w.cell? ⟨g, off + p, none⟩ = some (.slice ra sh[p].length rc) ∧ g < w.heap.size ∧ FsP w .f32 ra sh[p].length sh[p]

theorem RoomP.below {w w' : World} {ma sa : Option Addr} {xs : List MW} {sh : List (List Nat)} (h : RoomP w ma xs sa sh) (hb : Below w.heap.size w w') : RoomP w' ma xs sa sh :=
  ⟨h.modes.below hb, fun p hp => by
    obtain ⟨g, off, ra, rc, e, c, hg, hr⟩ := h.rows p hp
    exact ⟨g, off, ra, rc, e, (hb.cell (p := ⟨g, off + p, none⟩) hg).trans c, Nat.lt_of_lt_of_le hg hb.size, hr.below hb⟩⟩

/-- A room that the law makes: valid, and no weight greater than one. -/
structure RoomOk (xs : List MW) (sh : List (List Nat)) : Prop where
  ok : okL xs = true
  wf : ∀ x ∈ xs, wfX x
  places : sh.length ≤ 16
  row : ∀ l ∈ sh, l.length = xs.length ∧ ∀ x ∈ l, Lim .f32 0 x

theorem RoomOk.len {xs : List MW} {sh : List (List Nat)} (h : RoomOk xs sh) : xs.length ≤ 16 := by
  have := h.ok
  unfold okL at this
  simp only [Bool.and_eq_true, decide_eq_true_eq] at this
  exact this.2

set_option maxRecDepth 10000 in
set_option maxHeartbeats 4000000 in
theorem isRoomImpl_c {ma sa : Option Addr} {mc sc : Nat} {xs : List MW} {sh : List (List Nat)} (w : World) (h : RoomP w ma xs sa sh) (ok : RoomOk xs sh) :
    Calls Try.prog 52 #[.agg #[.slice ma xs.length mc, .slice sa sh.length sc]] w (RetBel (.bool true) w) := by
  have hlen := ok.len
  have hpl := ok.places
  have L0 := Lib.hid (fun w' hb => isBodyImpl_c (cap := mc) w' (h.modes.below hb) ok.wf (by omega))
  rw [ok.ok] at L0
  have H := Lib.hid h
  have OK := Lib.hid ok
  have u3 := under3
  have d16 : decide ((sh.length : Int) > 16) = false := by simp; omega
  clear h ok
  go_enter Try.func52, Try.ntmps52
  go_upto_region 1 with fail
  have B0 : Below w.heap.size w (w.alloc (.cells #[.slice ma xs.length mc, .slice sa sh.length sc] 42)) := (Below.refl _ _).alloc (Nat.le_refl _) _
  have P0 := heap_alloc_new w (.cells #[.slice ma xs.length mc, .slice sa sh.length sc] 42)
  have hs0 : w.heap.size < (w.alloc (.cells #[.slice ma xs.length mc, .slice sa sh.length sc] 42)).heap.size := by rw [World.size_alloc]; omega
  generalize w.alloc (.cells #[.slice ma xs.length mc, .slice sa sh.length sc] 42) = W0 at *
  have c0 := cur_cell P0 0
  have c1 := cur_cell P0 1
  simp at c0 c1
  go_wp2_with fail
  refine (L0.out _ B0).mono ?_
  rintro e W1 ⟨rfl, b0⟩
  have B1 := Lib.hid (B0.trans (b0.mono (by omega)))
  have P1 := Lib.hid ((b0.block _ hs0).trans P0)
  have hs1 := Nat.lt_of_lt_of_le hs0 b0.size
  clear B0 P0 hs0 b0 c0 c1 L0
  have c0 := cur_cell P1.out 0
  have c1 := cur_cell P1.out 1
  simp at c0 c1
  go_wp2_with fail
  go_loopw [19] (fun i wr => ∃ I : Nat, i = .int .i64 I ∧ I ≤ sh.length ∧ Hid (Below w.heap.size w wr) ∧ Hid (wr.heap[w.heap.size]? = some (.cells #[.slice ma xs.length mc, .slice sa sh.length sc] 42 (0, 0))) ∧ w.heap.size < wr.heap.size) (fun i _ => sh.length - (intOf i).toNat)
  case atStart => exact ⟨0, rfl, Nat.zero_le _, B1, P1, hs1⟩
  case round =>
    clear B1 P1 hs1 c0 c1
    obtain ⟨I, rfl, hI, hB, hP, hs⟩ := hrel
    rcases Nat.lt_or_eq_of_le hI with hlt | heq
    · have d1 : decide ((I : Int) < (sh.length : Int)) = true := by simpa using hlt
      obtain ⟨g, off, ra, rc, rfl, cr, hg, hr⟩ := (H.out.below hB.out).rows I hlt
      obtain ⟨hrl, hrx⟩ := OK.out.row _ (List.getElem_mem hlt)
      have LX := Lib.hid (containsFuncF_c (cap := rc) wr hr (by rw [hrl]; omega) hrx)
      rw [hrl] at cr LX
      clear hr hrx hrl
      have c0 := cur_cell hP.out 0
      simp at c0
      go_wp2_with fail
      refine LX.out.mono ?_
      rintro e W2 ⟨rfl, b2⟩
      have B2 := Lib.hid (hB.out.trans (b2.mono hB.out.size))
      have P2 := Lib.hid ((b2.block _ hs).trans hP.out)
      have hs2 := Nat.lt_of_lt_of_le hs b2.size
      go_wp2_with fail
      exact ⟨⟨I + 1, by go_num, hlt, B2, P2, hs2⟩, by simp [intOf]; omega⟩
    · subst heq
      have d1 : decide ((sh.length : Int) < (sh.length : Int)) = false := by simp
      go_wp2_with fail
      go_ret
      exact ⟨rfl, hB.out⟩

set_option maxRecDepth 10000 in
set_option maxHeartbeats 1000000 in
theorem isPlace_c {ma sa : Option Addr} {mc sc n k p : Nat} (w : World) :
    Calls Try.prog 53 #[.agg #[.slice ma n mc, .slice sa k sc], .int .i64 p] w (RetBel (.bool (decide (p < k))) w) := by
  have d0 : decide ((p : Int) ≥ 0) = true := by simp
  have B0 : Below w.heap.size w (w.alloc (.cells #[.slice ma n mc, .slice sa k sc] 42)) := (Below.refl _ _).alloc (Nat.le_refl _) _
  go_enter Try.func53, Try.ntmps53
  go_wp2_with fail
  go_ret
  exact ⟨by simp, B0⟩

set_option maxRecDepth 10000 in
set_option maxHeartbeats 1000000 in
theorem l4Place_c {ma sa : Option Addr} {mc sc n k p : Nat} (w : World) :
    Calls Try.prog 67 #[.agg #[.slice ma n mc, .slice sa k sc], .int .i64 p] w (RetBel (.bool (decide (p < k))) w) := by
  have d0 : decide ((p : Int) ≥ 0) = true := by simp
  have B0 : Below w.heap.size w (w.alloc (.cells #[.slice ma n mc, .slice sa k sc] 42)) := (Below.refl _ _).alloc (Nat.le_refl _) _
  go_enter Try.func67, Try.ntmps67
  go_wp2_with fail
  go_ret
  exact ⟨by simp, B0⟩
end Go.Proofs.Ytkaajnmbmjnplaa
