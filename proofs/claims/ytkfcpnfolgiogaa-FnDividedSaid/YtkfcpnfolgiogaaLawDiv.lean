/- The law FnDivided holds for every slice of bytes: a quotient in double precision of numbers of moderate size, multiplied by the divisor, differs from the dividend by at most 2^-44 times its size, and a quotient is refused where a number is not finite, the divisor is 0 or the result is not finite. No condition. -/
import Derived.Test.YtkfcpnfolgiogaaDivided
import Derived.Test.YtkfcpnfolgiogaaOpenB
namespace Go.Proofs.Ytkfcpnfolgiogaa
open Go.RowKit Go.Fl

/-- The law's walk: true, and what was there is as it was. -/
def LawEnds (w : World) (e : Ending) (w' : World) : Prop := e = .returned (.bool true) ∧ Below w.heap.size w w'

theorem ceq_c0 : ceq c0 c0 = true := by decide +kernel
theorem cdivOk_c0 (z : CN) : cdivOk z c0 = false := by unfold cdivOk; rw [ceq_c0]; simp

set_option maxRecDepth 10000 in
set_option maxHeartbeats 4000000 in
theorem law_FnDivided (w : World) {a : Option Addr} {len cap : Nat} (h : BsP w a len) :
    Calls Try.prog 3 #[.slice a len cap] w (LawEnds w) := by
  by_cases hl : len ≤ 1048576
  · have H := Lib.hid h
    have d0 : decide (1048576 < (len : Int)) = false := by simp; omega
    clear h
    go_enter Try.func3, Try.ntmps3
    go_wp2_with fail
    refine (makeModerate_c _ H.out hl).mono ?_
    rintro e w1 ⟨Z, z1, z2, rfl, fz, mz, b1⟩
    go_wp2_with fail
    refine (fresh_c _ (H.out.below b1) 3 (by decide) (by decide)).mono ?_
    rintro e w2 ⟨a2, len2, cap2, rfl, bs2, l2, m2, b2⟩
    have B2 := b1.trans (b2.mono b1.size)
    have S2 := Lib.hid bs2
    clear bs2 b1 b2
    go_wp2_with fail
    refine (makeModerate_c _ S2.out m2).mono ?_
    rintro e w3 ⟨U, u1, u2, rfl, fu, mu, b3⟩
    have B3 := B2.trans (b3.mono B2.size)
    have HD := Lib.hid (divided_ok mz mu)
    clear S2 B2 b3 mz mu
    go_wp2_with fail
    refine (divideDouble_c fz fu _).mono ?_
    rintro e _ ⟨q1, q2, rfl, fq, n1, rfl⟩
    rw [HD.out.1]
    go_wp2_with fail
    refine (multiplyDouble_c fq fu _).mono ?_
    rintro e _ ⟨m1, m2', rfl, fm, n2, rfl⟩
    go_wp2_with fail
    refine (sizeSpec_c fz _).mono ?_
    rintro e _ ⟨s1, rfl, fs, n3, rfl⟩
    go_wp2_with fail
    refine (power_c 44 (by decide) _).mono ?_
    rintro e _ ⟨p1, rfl, fp, n4, rfl⟩
    go_wp2_with (refine upon_flop _ (by decide) fs fp ?_; intro t1 n5 ft)
    refine (small_c fm fz ft _).mono ?_
    rintro e _ ⟨rfl, n6, rfl⟩
    rw [HD.out.2]
    have B4 := Lib.hid (below_drewN' B3 (n1 + n2 + n3 + n4 + n5 + n6))
    clear HD fq fm fs fp ft fz fu B3
    go_wp2_with fail
    generalize w3.drewN (n1 + n2 + n3 + n4 + n5 + n6) = w4 at *
    refine (fresh_c _ (H.out.below B4.out) 5 (by decide) (by decide)).mono ?_
    rintro e w5 ⟨a5, len5, cap5, rfl, bs5, l5, m5, b5⟩
    have B5 := B4.out.trans (b5.mono B4.out.size)
    have S5 := Lib.hid bs5
    clear bs5 b5 B4
    go_wp2_with fail
    refine (makeDouble_c _ S5.out m5).mono ?_
    rintro e w6 ⟨X, x1, x2, rfl, fx, b6⟩
    have B6 := B5.trans (b6.mono B5.size)
    clear S5 B5 b6
    go_wp2_with fail
    refine (fresh_c _ (H.out.below B6) 7 (by decide) (by decide)).mono ?_
    rintro e w7 ⟨a7, len7, cap7, rfl, bs7, l7, m7, b7⟩
    have B7 := B6.trans (b7.mono B6.size)
    have S7 := Lib.hid bs7
    clear bs7 b7 B6
    go_wp2_with fail
    refine (makeDouble_c _ S7.out m7).mono ?_
    rintro e w8 ⟨Y, y1, y2, rfl, fy, b8⟩
    have B8 := Lib.hid (B7.trans (b8.mono B7.size))
    clear S7 B7 b8 H
    go_wp2_with fail
    refine (divideDouble_c fx fy _).mono ?_
    rintro e _ ⟨r1, r2, rfl, fr, n1', rfl⟩
    have HK : cdivOk X Y = (cfin X && cfin Y && !ceq Y c0 && cfin (cquo X Y)) := rfl
    cases hk : cdivOk X Y
    · obtain ⟨hr1, hr2⟩ : r1 = 0 ∧ r2 = 0 := by
        have e : cdiv X Y = c0 := by unfold cdiv; rw [hk]; rfl
        rw [e] at fr
        have z0 : cl .f64 0 = some 0 := by decide +kernel
        have k1 : FV .f64 (cl .f64 0) r1 := fr.1
        have k2 : FV .f64 (cl .f64 0) r2 := fr.2
        rw [z0] at k1 k2
        exact ⟨k1.some_eq.symm, k2.some_eq.symm⟩
      subst hr1
      subst hr2
      clear HK hk fr
      go_wp2_with fail
      refine (divideDouble_c fx fc0 _).mono ?_
      rintro e _ ⟨t1', t2', rfl, ft', n2', rfl⟩
      rw [cdivOk_c0]
      go_wp2_with fail
      go_ret
      exact ⟨rfl, below_drewN' B8.out _⟩
    · rw [hk] at HK
      have HK2 := HK.symm
      simp only [Bool.and_eq_true, Bool.not_eq_true'] at HK2
      obtain ⟨⟨⟨hk1, hk2⟩, hk3⟩, hk4⟩ := HK2
      have e : cdiv X Y = cquo X Y := by unfold cdiv; rw [hk]; rfl
      rw [e] at fr
      clear HK hk e
      have K1 := Lib.hid hk1
      have K2 := Lib.hid hk2
      have K3 := Lib.hid hk3
      have K4 := Lib.hid hk4
      clear hk1 hk2 hk3 hk4
      go_wp2_with fail
      refine (finiteSpec_c fx _).mono ?_
      rintro e _ ⟨rfl, n2', rfl⟩
      rw [K1.out]
      go_wp2_with fail
      refine (finiteSpec_c fy _).mono ?_
      rintro e _ ⟨rfl, n3', rfl⟩
      rw [K2.out]
      go_wp2_with fail
      refine (equalDouble_c fy fc0 _).mono ?_
      rintro e _ ⟨rfl, n4', rfl⟩
      rw [K3.out]
      go_wp2_with fail
      refine (finiteSpec_c fr _).mono ?_
      rintro e _ ⟨rfl, n5', rfl⟩
      rw [K4.out]
      go_wp2_with fail
      refine (divideDouble_c fx fc0 _).mono ?_
      rintro e _ ⟨t1', t2', rfl, ft', n6', rfl⟩
      rw [cdivOk_c0]
      go_wp2_with fail
      go_ret
      exact ⟨rfl, below_drewN' B8.out _⟩
  · have d0 : decide (1048576 < (len : Int)) = true := by simp; omega
    clear h
    go_enter Try.func3, Try.ntmps3
    go_wp2_with fail
    go_ret
    exact ⟨rfl, Below.refl _ _⟩
open Go.ChangeShapes Go.WideShapes Go.ChangeAt
set_option maxRecDepth 100000 in
theorem lifted_FnDivided (os : Os) (started : os.Started) (H : Type) (enc : TypeId × Value → H) :
    ReturnsInHanded {} Try.checked os 3 .any (Rows.fnDividedSpec.pre6 enc Try.prog Try.f3 Rows.fnDividedRow.domain false) (Rows.fnDividedSpec.post enc Try.prog Try.f3 false true false false) := by
  refine returnsInHanded_of_change (C := Try.checked) own started (by kernel_rfl) Try.func3
    (ChangeSpec.witness6 (enc := enc) (C := Try.checked) false ⟨#[], #[.slice none 0 0], []⟩ 8 (by kernel_rfl) (by kernel_rfl) (by kernel_rfl) (by kernel_rfl)) ?_
  intro W base args ds gs before hval0 hW hcnd _
  have hval : ∀ (j : Nat) t v, Try.f3.params[j]? = some t → args[j]? = some v → Value.okWide Try.prog W .any base t v := hval0
  have hW' := hW
  obtain ⟨p, q, hA0, hV, rfl, hfz, hnd⟩ := hW
  have hA : DataW.TrodAll enc Try.prog W 0 (fun _ => true) true Try.f3.params.toList args.toList ds p := hA0
  rw [Try.params3] at hA hval
  obtain ⟨v0, vs0, d0, ds0, p0, q0, hargs, rfl, rfl, h0, r0⟩ := trodAll_cons hA
  obtain ⟨rfl, rfl, rfl⟩ := trodAll_nil r0
  obtain rfl : args = #[v0] := by cases args; simp_all
  obtain ⟨rfl, rfl⟩ := trodVars_none hV
  obtain ⟨a0, len0, cap0, rfl⟩ := okWide_slice (Try.underlying22) (hval 0 22 v0 rfl rfl)
  have k0 := h0
  have lt0 : ∀ x ∈ p0, x.block < W.heap.size := by obtain ⟨m, hm⟩ := k0; exact DataW.trod_lt m _ _ _ hm
  have w0 : BsP W a0 len0 := by obtain ⟨fuel, hf⟩ := h0; exact open_bytes Try.underlying22 Try.underlying5 (by kernel_rfl) hf
  clear hA0 hval0
  refine (law_FnDivided W w0).mono fun e W' ⟨he, bel⟩ => ?_
  subst he
  exact ⟨_, rfl, _, _, _, [], _, [], hW', trodAll_mk1 (shut_bool Try.underlying4 _), (trodAll_cons_mk (Below.trod laidOut (by kernel_rfl) (of_decide_eq_true (by kernel_rfl)) k0 bel lt0) trodAll_mk0), rfl, bel.frame _, fun h => by cases h⟩

theorem proved_FnDivided : Rows.FnDividedSaid :=
  OpenClaim.holds_of_wide 3 Try.f3 rfl rfl rfl rfl rfl rfl rfl ⟨rfl, rfl, rfl, rfl, rfl⟩ rfl rfl rfl rfl rfl (by kernel_rfl) Try.func3 (by kernel_rfl)
    (of_decide_eq_true (by kernel_rfl)) (by unfold Func.isWrapper; first | (rw [if_pos (by decide +kernel)]; kernel_rfl) | (rw [if_neg (by decide +kernel)]; exact ⟨rfl, rfl⟩))
    (fun os started H enc _ => lifted_FnDivided os started H enc)
#print axioms proved_FnDivided
end Go.Proofs.Ytkfcpnfolgiogaa
