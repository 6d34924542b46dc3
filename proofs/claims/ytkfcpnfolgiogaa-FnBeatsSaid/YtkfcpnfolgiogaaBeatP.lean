import Derived.Test.YtkfcpnfolgiogaaBeat
namespace Go.Proofs.Ytkfcpnfolgiogaa
open Go.RowKit Go.Fl

/-- A call that gives an int and a bool; what lay below stays. -/
def RetIB (k : Int) (t : Bool) (w : World) (e : Ending) (w' : World) : Prop := e = .returned (.tuple #[.int .i64 k, .bool t]) ∧ Below w.heap.size w w'

theorem one_FC : FC (one64, cl .f64 0) 4607182418800017408 0 := ⟨FV.of_lt (k := .f64) (b := 4607182418800017408) (by decide), FV.of_lt (k := .f64) (b := 0) (by decide)⟩

set_option maxRecDepth 10000 in
set_option maxHeartbeats 2000000 in
theorem beatPeriod_c {m : MQ} {x : MW} (hm : FM m x) (okm : okMode m = true) (hmod : Moderate (wide m.1)) (w : World) :
    Calls Try.prog 26 #[x.val, x.val, .int .i64 5] w (RetIB 1 true w) := by
  obtain ⟨hok, hsm⟩ := beat_self hmod
  have OM := Lib.hid okm
  have HM := Lib.hid hm
  have HS := Lib.hid hsm
  have HK := Lib.hid hok
  clear okm hm hsm hok hmod
  obtain ⟨xa, xb, xc, xd⟩ := x
  go_enter Try.func26, Try.ntmps26
  go_upto_region 1 with fail
  obtain ⟨R1, S1, B1, l1⟩ := box_two w (.cells #[.complex .f32 xa xb, .complex .f32 xc xd] 43) (.cells #[.complex .f32 xa xb, .complex .f32 xc xd] 43)
  generalize (w.alloc (.cells #[.complex .f32 xa xb, .complex .f32 xc xd] 43)).alloc (.cells #[.complex .f32 xa xb, .complex .f32 xc xd] 43) = W1 at *
  have c0 := cur_cell R1.out 0
  have c1 := cur_cell R1.out 1
  have d0 := cur_cell S1.out 0
  have d1 := cur_cell S1.out 1
  simp at c0 c1 d0 d1
  go_wp2_with fail
  refine (beatOf_c (x := ⟨xa, xb, xc, xd⟩) (y := ⟨xa, xb, xc, xd⟩) HM.out HM.out OM.out OM.out _).mono ?_
  rintro e W2 ⟨p, q, rfl, fb, b2⟩
  rw [HK.out]
  have B2 := B1.trans (b2.mono (Nat.le_of_lt (Nat.lt_of_succ_lt l1)))
  clear b2 B1 R1 S1 l1 c0 c1 d0 d1
  go_wp2_with fail
  go_loopw [10, 11] (fun o i wr => o = .complex .f64 p q ∧ i = .int .i64 1 ∧ ∃ n, wr = W2.drewN n) (fun _ _ _ => 0)
  case atStart => exact ⟨rfl, rfl, 0, rfl⟩
  case round =>
    obtain ⟨rfl, rfl, n, rfl⟩ := hrel
    go_wp2_with fail
    refine (subDouble_c (u := (one64, cl .f64 0)) fb one_FC _).mono ?_
    rintro e _ ⟨s1, s2, rfl, fs, n1, rfl⟩
    go_wp2_with fail
    refine (sizeImpl_c fs _).mono ?_
    rintro e _ ⟨t, rfl, ft, n2, rfl⟩
    have h16 : (FloatKind.f64.format.order t 4589168020290535424 == some .lt || FloatKind.f64.format.order t 4589168020290535424 == some .eq) = true := by
      have e1 : FloatKind.f64.format.order t 4589168020290535424 = ford .f64 (offBy (cdiv (wide m.1) (wide m.1)) (one64, cl .f64 0)) sixteenth := order_FV ft (FV.of_lt (k := .f64) (b := 4589168020290535424) (by decide))
      rw [e1]
      exact HS.out
    go_wp2_with fail
    go_ret2
    exact ⟨rfl, below_drewN' B2 _⟩
end Go.Proofs.Ytkfcpnfolgiogaa
