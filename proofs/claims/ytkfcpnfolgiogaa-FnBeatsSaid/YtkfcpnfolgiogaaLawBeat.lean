/- The law FnBeats holds for every slice of bytes: the beat of two modes, multiplied by the second pole, is near the first one, within 2^-44, if the sizes of both poles are at least 2^-20, and a mode beats with itself at once. No condition. -/
import Derived.Test.YtkfcpnfolgiogaaBeatP
import Derived.Test.YtkfcpnfolgiogaaOpenB
namespace Go.Proofs.Ytkfcpnfolgiogaa
open Go.RowKit Go.Fl

/-- The law's walk: true, and what was there is as it was. -/
def LawEnds (w : World) (e : Ending) (w' : World) : Prop := e = .returned (.bool true) ∧ Below w.heap.size w w'

theorem okMode_parts {m : MQ} (h : okMode m = true) : cfin (wide m.1) = true ∧ ple (csq (wide m.1)) one64 = true := by
  unfold okMode at h
  simp only [Bool.and_eq_true] at h
  exact ⟨h.1.1.1.1, h.1.1.2⟩

set_option maxRecDepth 10000 in
set_option maxHeartbeats 4000000 in
theorem law_FnBeats (w : World) {a : Option Addr} {len cap : Nat} (h : BsP w a len) :
    Calls Try.prog 5 #[.slice a len cap] w (LawEnds w) := by
  by_cases hl : len ≤ 1048576
  · have H := Lib.hid h
    have d0 : decide (1048576 < (len : Int)) = false := by simp; omega
    clear h
    have t0 := store_new0
    have t1 := store_new1
    go_enter Try.func5, Try.ntmps5
    go_wp2_with fail
    refine (makeMode_c _ H.out hl).mono ?_
    rintro e w1 ⟨m, x, rfl, fm, om, b1⟩
    obtain ⟨xa, xb, xc, xd⟩ := x
    go_upto_region 4 with fail
    have R1 := Lib.hid (heap_alloc_new w1 (.cells #[.complex .f32 xa xb, .complex .f32 xc xd] 43))
    have B1 := b1.alloc b1.size (.cells #[.complex .f32 xa xb, .complex .f32 xc xd] 43)
    have l1 : w1.heap.size < (w1.alloc (.cells #[.complex .f32 xa xb, .complex .f32 xc xd] 43)).heap.size := by rw [World.size_alloc]; omega
    have hG : w.heap.size ≤ w1.heap.size := b1.size
    generalize w1.alloc (.cells #[.complex .f32 xa xb, .complex .f32 xc xd] 43) = W1 at *
    generalize w1.heap.size = G at *
    clear b1
    go_wp2_with fail
    refine (fresh_c _ (H.out.below B1) 3 (by decide) (by decide)).mono ?_
    rintro e w2 ⟨a2, len2, cap2, rfl, bs2, l2, m2, b2⟩
    have R2 := Lib.hid ((b2.block _ l1).trans R1.out)
    have B2 := B1.trans (b2.mono B1.size)
    have S2 := Lib.hid bs2
    have l2' := Nat.lt_of_lt_of_le l1 b2.size
    clear bs2 b2 B1 R1 l1
    go_wp2_with fail
    refine (makeMode_c _ S2.out m2).mono ?_
    rintro e w3 ⟨n, y, rfl, fn, on, b3⟩
    obtain ⟨ya, yb, yc, yd⟩ := y
    have R3 := Lib.hid ((b3.block _ l2').trans R2.out)
    have B3 := B2.trans (b3.mono B2.size)
    have l3 := Nat.lt_of_lt_of_le l2' b3.size
    clear b3 B2 R2 l2' S2
    go_upto_region 5 with fail
    have R4 := Lib.hid ((heap_alloc_old w3 (.cells #[.complex .f32 ya yb, .complex .f32 yc yd] 43) l3).trans R3.out)
    have S4 := Lib.hid (heap_alloc_new w3 (.cells #[.complex .f32 ya yb, .complex .f32 yc yd] 43))
    have B4 := B3.alloc B3.size (.cells #[.complex .f32 ya yb, .complex .f32 yc yd] 43)
    have l4 : w3.heap.size < (w3.alloc (.cells #[.complex .f32 ya yb, .complex .f32 yc yd] 43)).heap.size := by rw [World.size_alloc]; omega
    generalize w3.alloc (.cells #[.complex .f32 ya yb, .complex .f32 yc yd] 43) = W4 at *
    generalize w3.heap.size = K at *
    clear R3 B3 t0 t1
    have c0 := cur_cell R4.out 0
    have c1 := cur_cell R4.out 1
    have e0 := cur_cell S4.out 0
    have e1 := cur_cell S4.out 1
    simp at c0 c1 e0 e1
    have FM1 := Lib.hid fm
    have FN1 := Lib.hid fn
    have OM := Lib.hid om
    have ON := Lib.hid on
    obtain ⟨ha, hb, -, -⟩ := fm
    obtain ⟨ka, kb, -, -⟩ := fn
    clear om on
    go_wp2_with (first | (refine upon_widen_complex _ underCs underC ha hb ?_; intro p1 p2 n1 g1 g2) | (refine upon_widen_complex _ underCs underC ka kb ?_; intro q1 q2 n2 g3 g4))
    refine (sizeSpec_c (z := wide m.1) ⟨g1, g2⟩ _).mono ?_
    rintro e _ ⟨s1, rfl, fs1, n3, rfl⟩
    go_wp2_with fail
    refine (power_c 20 (by decide) _).mono ?_
    rintro e _ ⟨v1, rfl, fv1, n4, rfl⟩
    have o1 : FloatKind.f64.format.order s1 v1 = ford .f64 (fop .add .f64 (fabs .f64 (wide m.1).1) (fabs .f64 (wide m.1).2)) (some (pw 20)) := order_FV fs1 fv1
    cases h1 : (FloatKind.f64.format.order s1 v1 == some .lt)
    case true =>
      clear o1
      go_wp2_with fail
      go_ret
      exact ⟨rfl, below_drewN' B4 _⟩
    case false =>
      have P1 := Lib.hid (pole_mod ha hb (okMode_parts OM.out).1 (okMode_parts OM.out).2 (by rw [← o1]; exact h1))
      clear o1
      go_wp2_with fail
      refine (sizeSpec_c (z := wide n.1) ⟨g3, g4⟩ _).mono ?_
      rintro e _ ⟨s2, rfl, fs2, n5, rfl⟩
      go_wp2_with fail
      refine (power_c 20 (by decide) _).mono ?_
      rintro e _ ⟨v2, rfl, fv2, n6, rfl⟩
      have o2 : FloatKind.f64.format.order s2 v2 = ford .f64 (fop .add .f64 (fabs .f64 (wide n.1).1) (fabs .f64 (wide n.1).2)) (some (pw 20)) := order_FV fs2 fv2
      cases h2 : (FloatKind.f64.format.order s2 v2 == some .lt)
      case true =>
        clear o2
        go_wp2_with fail
        go_ret
        exact ⟨rfl, below_drewN' B4 _⟩
      case false =>
        have P2 := Lib.hid (pole_mod ka kb (okMode_parts ON.out).1 (okMode_parts ON.out).2 (by rw [← o2]; exact h2))
        have BO := Lib.hid (beat_ok P1.out.1 P2.out.1 P1.out.2)
        clear o2
        go_wp2_with fail
        refine (beatOf_c (x := ⟨xa, xb, xc, xd⟩) (y := ⟨ya, yb, yc, yd⟩) FM1.out FN1.out OM.out ON.out _).mono ?_
        rintro e W5 ⟨z1, z2, rfl, fz, b5⟩
        rw [BO.out.1]
        have R5 := Lib.hid ((b5.block G (by simpa using Nat.lt_trans l3 l4)).trans R4.out)
        have B5 := (below_drewN' B4 _).trans (b5.mono (below_drewN' B4 _).size)
        clear b5 c0 c1 e0 e1 B4 R4 S4
        have c0 := cur_cell R5.out 0
        have c1 := cur_cell R5.out 1
        simp at c0 c1
        go_wp2_with fail
        refine (beatPeriod_c (x := ⟨xa, xb, xc, xd⟩) FM1.out OM.out P1.out.1 _).mono ?_
        rintro e W6 ⟨rfl, b6⟩
        have B6 := B5.trans (b6.mono B5.size)
        clear b6 B5 c0 c1 R5
        go_wp2_with fail
        refine (multiplyDouble_c (u := wide n.1) fz ⟨g3, g4⟩ _).mono ?_
        rintro e _ ⟨r1, r2, rfl, fr, n7, rfl⟩
        go_wp2_with fail
        refine (power_c 44 (by decide) _).mono ?_
        rintro e _ ⟨v3, rfl, fv3, n8, rfl⟩
        go_wp2_with fail
        refine (small_c (u := wide m.1) fr ⟨g1, g2⟩ fv3 _).mono ?_
        rintro e _ ⟨rfl, n9, rfl⟩
        rw [BO.out.2]
        go_wp2_with fail
        go_ret
        exact ⟨rfl, below_drewN' B6 _⟩
  · have d0 : decide (1048576 < (len : Int)) = true := by simp; omega
    clear h
    go_enter Try.func5, Try.ntmps5
    go_wp2_with fail
    go_ret
    exact ⟨rfl, Below.refl _ _⟩
open Go.ChangeShapes Go.WideShapes Go.ChangeAt
set_option maxRecDepth 100000 in
theorem lifted_FnBeats (os : Os) (started : os.Started) (H : Type) (enc : TypeId × Value → H) :
    ReturnsInHanded {} Try.checked os 5 .any (Rows.fnBeatsSpec.pre6 enc Try.prog Try.f5 Rows.fnBeatsRow.domain false) (Rows.fnBeatsSpec.post enc Try.prog Try.f5 false true false false) := by
  refine returnsInHanded_of_change (C := Try.checked) own started (by kernel_rfl) Try.func5
    (ChangeSpec.witness6 (enc := enc) (C := Try.checked) false ⟨#[], #[.slice none 0 0], []⟩ 8 (by kernel_rfl) (by kernel_rfl) (by kernel_rfl) (by kernel_rfl)) ?_
  intro W base args ds gs before hval0 hW hcnd _
  have hval : ∀ (j : Nat) t v, Try.f5.params[j]? = some t → args[j]? = some v → Value.okWide Try.prog W .any base t v := hval0
  have hW' := hW
  obtain ⟨p, q, hA0, hV, rfl, hfz, hnd⟩ := hW
  have hA : DataW.TrodAll enc Try.prog W 0 (fun _ => true) true Try.f5.params.toList args.toList ds p := hA0
  rw [Try.params5] at hA hval
  obtain ⟨v0, vs0, d0, ds0, p0, q0, hargs, rfl, rfl, h0, r0⟩ := trodAll_cons hA
  obtain ⟨rfl, rfl, rfl⟩ := trodAll_nil r0
  obtain rfl : args = #[v0] := by cases args; simp_all
  obtain ⟨rfl, rfl⟩ := trodVars_none hV
  obtain ⟨a0, len0, cap0, rfl⟩ := okWide_slice (Try.underlying22) (hval 0 22 v0 rfl rfl)
  have k0 := h0
  have lt0 : ∀ x ∈ p0, x.block < W.heap.size := by obtain ⟨m, hm⟩ := k0; exact DataW.trod_lt m _ _ _ hm
  have w0 : BsP W a0 len0 := by obtain ⟨fuel, hf⟩ := h0; exact open_bytes Try.underlying22 Try.underlying5 (by kernel_rfl) hf
  clear hA0 hval0
  refine (law_FnBeats W w0).mono fun e W' ⟨he, bel⟩ => ?_
  subst he
  exact ⟨_, rfl, _, _, _, [], _, [], hW', trodAll_mk1 (shut_bool Try.underlying4 _), (trodAll_cons_mk (Below.trod laidOut (by kernel_rfl) (of_decide_eq_true (by kernel_rfl)) k0 bel lt0) trodAll_mk0), rfl, bel.frame _, fun h => by cases h⟩

theorem proved_FnBeats : Rows.FnBeatsSaid :=
  OpenClaim.holds_of_wide 5 Try.f5 rfl rfl rfl rfl rfl rfl rfl ⟨rfl, rfl, rfl, rfl, rfl⟩ rfl rfl rfl rfl rfl (by kernel_rfl) Try.func5 (by kernel_rfl)
    (of_decide_eq_true (by kernel_rfl)) (by unfold Func.isWrapper; first | (rw [if_pos (by decide +kernel)]; kernel_rfl) | (rw [if_neg (by decide +kernel)]; exact ⟨rfl, rfl⟩))
    (fun os started H enc _ => lifted_FnBeats os started H enc)
#print axioms proved_FnBeats
end Go.Proofs.Ytkfcpnfolgiogaa
