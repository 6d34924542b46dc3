import Derived.Test.YtjamceoofgfokaaDoorParts
import Derived.Test.YtjamceoofgfokaaDoorL1Abs
namespace Go.Fl
open Go
theorem odd_bound {r : Nat} (h0 : 0 < r) (hr : r < D64.infRung) : oddOf (V D64 r) < 2 ^ 53 ∧ twos (V D64 r) < 2200 ∧ 0 < oddOf (V D64 r) := by
  have hN := V_lt_U hr
  have hN0 := V_pos h0
  obtain ⟨m, e, -, h2, -, h4⟩ := read_pos hr
  have hm0 : 0 < m := by rcases Nat.eq_zero_or_pos m with h | h; subst h; rw [Nat.zero_mul] at h2; omega; exact h
  have hmU : m < U 2200 := by
    refine Nat.lt_of_le_of_lt ?_ hN
    rw [← h2]
    exact Nat.le_mul_of_pos_right _ (Nat.two_pow_pos e)
  obtain ⟨a1, a2⟩ := odd_spec hm0 hmU
  have k := odd_is hN0 hN (m := oddOf m) (a := twos m + e) (b := 0) a2 (by
    rw [Nat.pow_zero, Nat.mul_one, ← h2, Nat.pow_add, ← Nat.mul_assoc]
    congr 1
    rw [Nat.mul_comm]
    exact a1.symm)
  obtain ⟨b1, b2⟩ := odd_spec hN0 hN
  refine ⟨?_, ?_, by omega⟩
  · rw [← k.1]
    have : oddOf m ≤ m := Nat.div_le_self _ _
    omega
  · refine U_lt (Nat.lt_of_le_of_lt ?_ hN)
    show 2 ^ twos (V D64 r) ≤ _
    conv => rhs; rw [b1]
    exact Nat.le_mul_of_pos_right _ (by omega)

/-- The sign's text. -/
def sgn (b : Nat) : List UInt8 := if sg D64 b then [45] else []

theorem fmtD_fin {b : Nat} (h : rg D64 b < D64.infRung) (h0 : ¬ rg D64 b = 0) : fmtD (some b) = sgn b ++ (Lib.itoa (oddOf (V D64 (rg D64 b)) : Int) ++ [112] ++ Lib.itoa ((twos (V D64 (rg D64 b)) : Int) - 1074)) := by
  unfold fmtD sgn
  dsimp only
  rw [if_pos h, if_neg h0]
theorem fmtD_zero {b : Nat} (h0 : rg D64 b = 0) : fmtD (some b) = sgn b ++ [48] := by
  unfold fmtD sgn
  dsimp only
  rw [if_pos (by rw [h0, D_I]; decide), if_pos h0]
theorem fmtD_inf {p : Option Nat} (h : isFin .f64 p = false) : fmtD p = [] := by
  cases p with
  | none => rfl
  | some b =>
    unfold fmtD
    dsimp only
    rw [if_neg (show ¬ rg D64 b < D64.infRung from of_decide_eq_false h)]

theorem zero_words {b : Nat} (hb : b < 2 ^ 64) (h0 : rg D64 b = 0) : b = 0 ∨ b = 9223372036854775808 := by
  unfold rg at h0
  rw [D_S] at h0
  omega
end Go.Fl
namespace Go.Proofs.YtjamceoofgfokaaDoor
open Go.RowKit Go.Fl

theorem below_drewN' {B : Nat} {w w' : World} (h : Below B w w') (n : Nat) : Below B w (w'.drewN n) := ⟨h.os, h.tape, h.output, h.size, h.block⟩

set_option maxRecDepth 10000 in
set_option maxHeartbeats 4000000 in
theorem formatSpec_c {p : Option Nat} {x : Nat} (hx : FV .f64 p x) (w : World) :
    Calls Tryd.prog 7 #[.float .f64 x] w (RetS (fmtD p) w) := by
  cases hf : isFin .f64 p with
  | false =>
    have hfm := Lib.hid (fmtD_inf hf)
    go_enter Tryd.func7, Tryd.ntmps7
    go_wp2_with (go_at_call 16; refine (l1Finite_c hx _).mono ?_; rw [hf]; rintro e _ ⟨rfl, n1, rfl⟩)
    go_ret
    exact ⟨by rw [hfm.out]; rfl, below_drewN' (Below.refl _ _) _⟩
  | true =>
    cases p with
    | none => cases hf
    | some c =>
      obtain ⟨rfl, hn⟩ := hx.not_nan
      have hr : rg D64 c < D64.infRung := of_decide_eq_true hf
      have heq := eq_iv (k := .f64) hn (zero_not_nan _)
      have hltz := lt_iv (k := .f64) hn (zero_not_nan _)
      rw [iv_lit_zero] at heq hltz
      replace heq : (FloatKind.f64.format.order c 0 == some .eq) = decide (iv D64 c = 0) := heq
      replace hltz : (FloatKind.f64.format.order c 0 == some .lt) = decide (iv D64 c < 0) := hltz
      have hz := iv_zero_iff D64 c
      by_cases h0 : rg D64 c = 0
      · have t2 : (FloatKind.f64.format.order c 0 == some .eq) = true := by rw [heq, hz.2 h0]; rfl
        have hfm := Lib.hid (fmtD_zero h0)
        clear heq hltz hr hz
        rcases zero_words hx.2 h0 with rfl | rfl
        · have q1 := fun w => run_float_arith (P := Tryd.prog) w .quo 22 .f64 4607182418800017408 0 9218868437227405312 (by decide +kernel)
          have t1 : (FloatKind.f64.format.order 9218868437227405312 0 == some .lt) = false := by decide +kernel
          go_enter Tryd.func7, Tryd.ntmps7
          go_wp2_with (go_at_call 16; refine (l1Finite_c hx _).mono ?_; rw [hf]; rintro e _ ⟨rfl, n1, rfl⟩)
          go_ret
          exact ⟨by rw [hfm.out]; rfl, below_drewN' (Below.refl _ _) _⟩
        · have q1 := fun w => run_float_arith (P := Tryd.prog) w .quo 22 .f64 4607182418800017408 9223372036854775808 18442240474082181120 (by decide +kernel)
          have t1 : (FloatKind.f64.format.order 18442240474082181120 0 == some .lt) = true := by decide +kernel
          go_enter Tryd.func7, Tryd.ntmps7
          go_wp2_with (go_at_call 16; refine (l1Finite_c hx _).mono ?_; rw [hf]; rintro e _ ⟨rfl, n1, rfl⟩)
          go_ret
          exact ⟨by rw [hfm.out]; rfl, below_drewN' (Below.refl _ _) _⟩
      · have t2 : (FloatKind.f64.format.order c 0 == some .eq) = false := by rw [heq]; simpa [hz] using h0
        have t3 : (FloatKind.f64.format.order c 0 == some .lt) = sg D64 c := by
          rw [hltz]
          have := iv_neg_iff D64 c
          cases hs : sg D64 c
          · rw [hs] at this; simpa using this
          · rw [hs] at this; simp at this; simp; show iv D64 c < 0; omega
        have hfm := Lib.hid (fmtD_fin hr h0)
        obtain ⟨b1, b2, b3⟩ := odd_bound (r := rg D64 c) (by omega) hr
        have hp0 : 0 < rg D64 c := by omega
        have R0 := Lib.hid hr
        have P0 := Lib.hid hp0
        have X0 := Lib.hid hx
        have F0 := Lib.hid hf
        have S0 : Hid (sgn c = if sg D64 c then [45] else []) := Lib.hid rfl
        clear heq hltz hz h0 hr hp0 hn hx hf
        have abs0 : ∀ w', Calls Tryd.prog 18 #[.float .f64 c] w' (RetF .f64 (some (rg D64 c)) w') := fun w' => l1Abs_c X0.out w'
        have par0 : ∀ w', Calls Tryd.prog 17 #[.float .f64 (rg D64 c)] w' (RetParts (V D64 (rg D64 c)) w') := fun w' => l1Parts_c P0.out R0.out w'
        have A0 := Lib.hid abs0
        have Q0 := Lib.hid par0
        clear abs0 par0
        generalize V D64 (rg D64 c) = N at *
        have la := itoa_length (n := (oddOf N : Int)) (by omega) (by omega)
        have lb := itoa_length (n := (twos N : Int) - 1074) (by omega) (by omega)
        have num1 : ∀ w', Calls Tryd.prog 19 #[.int .i64 (oddOf N)] w' (RetS (Lib.itoa (oddOf N)) w') := fun w' => l1Number_c (by omega) (by omega) w'
        have num2 : ∀ w', Calls Tryd.prog 19 #[.int .i64 ((twos N : Int) - 1074)] w' (RetS (Lib.itoa ((twos N : Int) - 1074)) w') := fun w' => l1Number_c (by omega) (by omega) w'
        have N1 := Lib.hid num1
        have N2 := Lib.hid num2
        clear num1 num2 b1 b2 b3
        generalize Lib.itoa (oddOf N) = ta at *
        generalize Lib.itoa ((twos N : Int) - 1074) = tb at *
        have cat := cat_bytes
        cases hs : sg D64 c
        case false =>
          rw [hs] at t3 S0
          have T3 := Lib.hid t3
          clear hs
          go_enter Tryd.func7, Tryd.ntmps7
          go_wp2_with (go_at_call 16; refine (l1Finite_c X0.out _).mono ?_; rw [F0.out]; rintro e _ ⟨rfl, n1, rfl⟩)
          refine (A0.out _).mono ?_
          rintro e _ ⟨r, rfl, hr', n2, rfl⟩
          obtain rfl : rg D64 c = r := hr'.some_eq
          clear hr'
          go_wp2_with fail
          refine (Q0.out _).mono ?_
          rintro e _ ⟨rfl, n3, rfl⟩
          go_wp2_with fail
          refine (N1.out _).mono ?_
          rintro e w1 ⟨rfl, b1⟩
          have B1 := Lib.hid ((below_drewN' (Below.refl w.heap.size w) (n1 + n2 + n3)).trans b1)
          clear b1
          go_wp2_with fail
          refine (N2.out _).mono ?_
          rintro e w2 ⟨rfl, b2⟩
          have B2 := B1.out.trans (b2.mono B1.out.size)
          clear b2 B1
          go_wp2_with fail
          go_ret
          exact ⟨by rw [hfm.out, S0.out]; simp, B2⟩
        case true =>
          rw [hs] at t3 S0
          have T3 := Lib.hid t3
          clear hs
          go_enter Tryd.func7, Tryd.ntmps7
          go_wp2_with (go_at_call 16; refine (l1Finite_c X0.out _).mono ?_; rw [F0.out]; rintro e _ ⟨rfl, n1, rfl⟩)
          refine (A0.out _).mono ?_
          rintro e _ ⟨r, rfl, hr', n2, rfl⟩
          obtain rfl : rg D64 c = r := hr'.some_eq
          clear hr'
          go_wp2_with fail
          refine (Q0.out _).mono ?_
          rintro e _ ⟨rfl, n3, rfl⟩
          go_wp2_with fail
          refine (N1.out _).mono ?_
          rintro e w1 ⟨rfl, b1⟩
          have B1 := Lib.hid ((below_drewN' (Below.refl w.heap.size w) (n1 + n2 + n3)).trans b1)
          clear b1
          go_wp2_with fail
          refine (N2.out _).mono ?_
          rintro e w2 ⟨rfl, b2⟩
          have B2 := B1.out.trans (b2.mono B1.out.size)
          clear b2 B1
          go_wp2_with fail
          go_ret
          exact ⟨by rw [hfm.out, S0.out]; simp, B2⟩
end Go.Proofs.YtjamceoofgfokaaDoor
