import Derived.Test.YtjamceoofgfokaaDoorPars
import Derived.Test.YtjamceoofgfokaaDoorMathAbs
namespace Go.Fl
open Go

theorem U52 : U 52 = 2 ^ 52 := rfl
theorem U105 : U 105 = U 53 * U 52 := U_add 53 52
theorem fop_some {x y t : Nat} (h : floatBits .mul .f64 x y = some t) : fop .mul .f64 (some x) (some y) = some t := h
theorem V_one : V D64 4607182418800017408 = U 1074 := by decide +kernel

/-- The fields of a whole number's word. -/
theorem nat_fields {m r : Nat} (h0 : 0 < m) (hm : m < 2 ^ 53) (hV : V D64 r = m * U 1074) : 1023 ≤ r / 2 ^ 52 ∧ r / 2 ^ 52 ≤ 1075 := by
  have h1 : 4607182418800017408 ≤ r := by
    refine Nat.not_lt.1 fun h => ?_
    have := V_lt D64 h
    rw [V_one, hV] at this
    have := Nat.le_mul_of_pos_left (U 1074) h0
    omega
  have h2 : r < C53 := by
    refine (V_lt_iff D64).1 ?_
    rw [hV, V_C53]
    exact Nat.mul_lt_mul_of_pos_right hm (U_pos _)
  have : C53 = 4845873199050653696 := rfl
  omega

theorem read_one : D64.read 4607182418800017408 = .number false (2 ^ 52) (-52) := by decide +kernel
theorem read_tiny : D64.read 4368491638549381120 = .number false (2 ^ 52) (-105) := by decide +kernel

/-- The product of a power of two and a positive number. -/
theorem mul_pow {c y t j : Nat} {pl : Int} (hc : D64.read c = .number false (2 ^ 52) pl) (hpl : pl = -(j : Int)) (hy : y < D64.infRung) (ht0 : 0 < t) (ht : t < D64.infRung) (hV : V D64 t * U j = 2 ^ 52 * V D64 y) : floatBits .mul .f64 c y = some t := by
  obtain ⟨m, e, h1, h2, h3, h4⟩ := read_pos hy
  show ((D64.read c).product (D64.read y)).map D64.write = _
  rw [h1, hc]
  show some (D64.nearest (false ^^ false) (2 ^ 52 * m) (pl + (-1074 + (e : Int)))) = _
  rw [nearest_exact (false ^^ false) ht0 ht ⟨e, j, by rw [hV, ← h2]; show 2 ^ 52 * m * 2 ^ e = _; rw [Nat.mul_assoc], by omega⟩]
  rw [show (false ^^ false) = false from rfl, word_pos]

/-- What t stands for is m * 2^e. -/
def Stands (t m : Nat) (e : Int) : Prop := ∃ a b : Nat, V D64 t * U a = m * U b ∧ (b : Int) - a = e + 1074

theorem V_word {E M : Nat} (hE : 1 ≤ E) (hM : M < 2 ^ 52) : V D64 (E * 2 ^ 52 + M) = (2 ^ 52 + M) * U (E - 1) := by
  obtain ⟨E, rfl⟩ : ∃ k, E = k + 1 := ⟨E - 1, by omega⟩
  have := V_ek D64 (e := E) (k := 2 ^ 52 + M) (Or.inr (by rw [D_B]; omega)) (by rw [D_B]; omega)
  rw [D_B] at this
  rw [show (E + 1) * 2 ^ 52 + M = E * 2 ^ 52 + (2 ^ 52 + M) by omega, this]
  rfl

/-- The scaled number and the one that is looked for. -/
theorem scaled {m r t E M : Nat} {e : Int} (hV : V D64 r = m * U 1074) (hr : r = E * 2 ^ 52 + M) (hE : 1 ≤ E) (hM : M < 2 ^ 52) (hs : Stands t m e) (Q k : Nat) (hQ : 1 ≤ Q) (hq : (Q : Int) - k = e + E) : V D64 t * U k = V D64 (Q * 2 ^ 52 + M) := by
  obtain ⟨a, b, h1, h2⟩ := hs
  rw [hr, V_word hE hM] at hV
  rw [V_word hQ hM]
  -- multiply by U (a + E - 1)
  have e1 : (2 ^ 52 + M) * U (Q - 1) * U (E - 1 + a) = m * U 1074 * U (Q - 1) * U a := by
    rw [← hV, U_add]
    generalize U (E - 1) = u
    generalize U (Q - 1) = v
    ac_rfl
  have e2 : V D64 t * U k * U (E - 1 + a) = m * U b * U k * U (E - 1) := by
    rw [← h1, U_add]
    ac_rfl
  have e3 : m * U 1074 * U (Q - 1) * U a = m * U (1074 + (Q - 1) + a) := by rw [U_mul3]; generalize U 1074 = u; ac_rfl
  have e4 : m * U b * U k * U (E - 1) = m * U (b + k + (E - 1)) := by rw [U_mul3]; ac_rfl
  refine Nat.eq_of_mul_eq_mul_right (U_pos (E - 1 + a)) ?_
  rw [e1, e2, e3, e4]
  congr 2
  omega

theorem fin_word {E M : Nat} (hE : E < 2047) (hM : M < 2 ^ 52) : E * 2 ^ 52 + M < D64.infRung := by
  rw [D_I]
  have := Nat.mul_le_mul_right (2 ^ 52) (show E ≤ 2046 by omega)
  omega

/-- Where the scaled number lies. -/
theorem scaled_range {m r t E M : Nat} {e : Int} (hV : V D64 r = m * U 1074) (hr : r = E * 2 ^ 52 + M) (hE : 1 ≤ E) (hM : M < 2 ^ 52) (ht0 : 0 < t) (ht : t < D64.infRung) (hs : Stands t m e) : -52 ≤ e + E ∧ e + E ≤ 2046 := by
  have hVt := V_pos ht0
  have hVt2 : V D64 t < U 2098 := Nat.lt_of_lt_of_le (V_lt D64 ht) (by decide +kernel)
  constructor
  · refine Int.not_lt.1 fun h => ?_
    obtain ⟨k, hk⟩ : ∃ k : Nat, (1 : Int) - k = e + E := ⟨(1 - (e + E)).toNat, by omega⟩
    have := scaled hV hr hE hM hs 1 k (by omega) hk
    rw [V_word (by omega) hM] at this
    have h2 : U k < U 53 := by
      have h3 : U k ≤ V D64 t * U k := Nat.le_mul_of_pos_left _ hVt
      rw [this] at h3
      have h4 : (2 ^ 52 + M) * U (1 - 1) = 2 ^ 52 + M := Nat.mul_one _
      rw [h4] at h3
      have h5 : U 53 = 2 ^ 53 := rfl
      omega
    have := U_lt h2
    omega
  · refine Int.not_lt.1 fun h => ?_
    obtain ⟨Q, hQ⟩ : ∃ Q : Nat, (Q : Int) = e + E := ⟨(e + E).toNat, by omega⟩
    have := scaled hV hr hE hM hs Q 0 (by omega) (by omega)
    rw [U_zero, Nat.mul_one, V_word (by omega) hM] at this
    have h2 : U (52 + (Q - 1)) < U 2098 := by
      refine Nat.lt_of_le_of_lt ?_ hVt2
      rw [this, U_add]
      exact Nat.mul_le_mul_right _ (show 2 ^ 52 ≤ 2 ^ 52 + M by omega)
    have := U_lt h2
    omega
end Go.Fl
namespace Go.Proofs.YtjamceoofgfokaaDoor
open Go.RowKit Go.Fl

theorem f64frombits_run' (n : Int) (w : World) : (callFunc 41 #[.int .u64 n]).run Tryd.prog w = .ok (.value (.float .f64 n.toNat)) w := by
  rw [run_callFunc_extern (e := Extern.MathFloatBits.float64frombits) Tryd.func41 (by kernel_rfl) (by kernel_rfl) (by kernel_rfl) (by kernel_rfl)]
  rfl

/-- A call that scales m by 2^e. -/
def RetLd (m : Nat) (e : Int) (w : World) (en : Ending) (w' : World) : Prop :=
  ∃ x, en = .returned (.float .f64 x) ∧ x < 2 ^ 64 ∧ (∀ t, 0 < t → t < D64.infRung → Stands t m e → x = t) ∧ ∃ n, w' = w.drewN n

theorem and_low {r : Nat} (h : r < 2 ^ 63) : bits .andNot .u64 (r : Int) 9218868437227405312 = ((r % 2 ^ 52 : Nat) : Int) := by
  rw [show (9218868437227405312 : Int) = ((9218868437227405312 : Nat) : Int) from rfl, u64_andNot_nat r 9218868437227405312 (by omega) (by decide)]
  congr 1
  have e1 : r &&& (2 ^ 63 - 1) = r := by rw [Nat.and_two_pow_sub_one_eq_mod, Nat.mod_eq_of_lt h]
  have e2 : (2 ^ 63 - 1 : Nat) &&& (18446744073709551615 - 9218868437227405312) = 2 ^ 52 - 1 := by decide
  rw [← e1, Nat.and_assoc, e2, e1, Nat.and_two_pow_sub_one_eq_mod]

theorem or_high {Q M : Nat} (hQ : Q < 2048) (hM : M < 2 ^ 52) : bits .or .u64 (M : Int) ((Q : Int) * 4503599627370496) = ((Q * 2 ^ 52 + M : Nat) : Int) := by
  have hq : Q * 2 ^ 52 ≤ 2047 * 2 ^ 52 := Nat.mul_le_mul_right _ (by omega)
  rw [show (Q : Int) * 4503599627370496 = ((Q * 2 ^ 52 : Nat) : Int) by omega, u64_or_nat M (Q * 2 ^ 52) (by omega) (by omega)]
  have := Nat.two_pow_add_eq_or_of_lt hM Q
  rw [Nat.or_comm, Nat.mul_comm Q, ← this]

theorem and_exp : ∀ E : Nat, E < 1100 → bits .and .i64 (E : Int) 2047 = (E : Int) := by decide +kernel

set_option maxRecDepth 10000 in
set_option maxHeartbeats 400000 in
/-- Copysign(0, x) of a positive x. -/
theorem copysign_zero {r : Nat} (hr : r < 2 ^ 63) (w : World) : Calls Tryd.prog 32 #[.float .f64 0, .float .f64 r] w fun e w' => e = .returned (.float .f64 0) ∧ w' = w := by
  have r1 := fun x w => f64bits_run x w
  have r2 := fun n w => f64frombits_run' n w
  have b1 : bits .andNot .u64 0 9223372036854775808 = 0 := by decide +kernel
  have b2 : bits .and .u64 (r : Int) 9223372036854775808 = 0 := by
    rw [show (9223372036854775808 : Int) = ((9223372036854775808 : Nat) : Int) from rfl, u64_and_nat r 9223372036854775808 (by omega) (by decide)]
    have e1 : r &&& (2 ^ 63 - 1) = r := by rw [Nat.and_two_pow_sub_one_eq_mod, Nat.mod_eq_of_lt hr]
    have e2 : (2 ^ 63 - 1 : Nat) &&& 9223372036854775808 = 0 := by decide
    rw [← e1, Nat.and_assoc, e2, Nat.and_zero]
    rfl
  have b3 : bits .or .u64 0 0 = 0 := by decide +kernel
  go_enter Tryd.func32, Tryd.ntmps32
  go_wp2
  go_ret
  exact ⟨rfl, rfl⟩

set_option maxRecDepth 10000 in
set_option maxHeartbeats 2000000 in
theorem ldexp0_c {m r E M : Nat} {e : Int} (r1 : r < D64.infRung) (h52 : 2 ^ 52 ≤ r) (hr : r = E * 2 ^ 52 + M) (hE1 : 1023 ≤ E) (hE2 : E ≤ 1075) (hM : M < 2 ^ 52) (he : -2000 ≤ e) (he2 : e ≤ 2000)
    (hFR : ∀ t, 0 < t → t < D64.infRung → Stands t m e → -52 ≤ e + E ∧ e + E ≤ 2046)
    (hFS : ∀ t, Stands t m e → ∀ Q k : Nat, 1 ≤ Q → (Q : Int) - k = e + E → V D64 t * U k = V D64 (Q * 2 ^ 52 + M)) (w : World) :
    Calls Tryd.prog 40 #[.float .f64 r, .int .i64 e] w (RetLd m e w) := by
  have FR := Lib.hid hFR
  have FS := Lib.hid hFS
  have hx : FV .f64 (some r) r := FV.mk (pos_not_nan r1) (by have : D64.infRung < 2 ^ 64 := by decide +kernel
                                                             exact Nat.lt_trans r1 this)
  have hrg : rg FloatKind.f64.format r = r := rg_small r1
  have hself := order_self (k := .f64) (pos_not_nan r1)
  have o1 : (FloatKind.f64.format.order r 0 == some .eq) = false := by
    show (D64.order r 0 == some .eq) = false
    rw [order_pos r1 (by decide +kernel), Nat.compare_eq_gt.2 (by omega)]; rfl
  have o2 : (FloatKind.f64.format.order r 9218868437227405311 == some .gt) = false := by
    show (D64.order r 9218868437227405311 == some .gt) = false
    rw [order_pos r1 (by decide +kernel)]
    have : r ≤ 9218868437227405311 := by rw [D_I] at r1; omega
    rcases Nat.lt_or_eq_of_le this with h | h
    · rw [Nat.compare_eq_lt.2 h]; rfl
    · rw [Nat.compare_eq_eq.2 h]; rfl
  have o3 : (FloatKind.f64.format.order r 4503599627370496 == some .lt) = false := by
    show (D64.order r 4503599627370496 == some .lt) = false
    rw [order_pos r1 (by decide +kernel)]
    rcases Nat.lt_or_eq_of_le h52 with h | h
    · rw [Nat.compare_eq_gt.2 h]; rfl
    · rw [Nat.compare_eq_eq.2 h.symm]; rfl
  have hr63 : r < 2 ^ 63 := Nat.lt_trans r1 (by decide +kernel)
  have b1 : wrap64 ((r : Int) / 4503599627370496) = (E : Int) := by unfold wrap64; omega
  have b2 : bits .and .i64 (E : Int) 2047 = (E : Int) := and_exp E (by omega)
  have b3 : bits .andNot .u64 (r : Int) 9218868437227405312 = (M : Int) := by rw [and_low hr63]; congr 1; omega
  have o4 : (FloatKind.f64.format.order r 0 == some .lt) = false := by
    show (D64.order r 0 == some .lt) = false
    rw [order_pos r1 (by decide +kernel), Nat.compare_eq_gt.2 (by omega)]; rfl
  have HR63 := Lib.hid hr63
  have X0 := Lib.hid hx
  clear hFR hFS hr r1 hx h52 hr63
  have r1' := fun w => f64bits_run r w
  have r2' := fun n w => f64frombits_run' n w
  obtain ⟨p, hp⟩ : ∃ p : Int, e + ((E : Int) - 1023) = p := ⟨_, rfl⟩
  have HP := Lib.hid hp
  rcases Int.lt_or_le p (-1075) with hA | hA
  · have dA : (p < -1075) = True := by simp [hA]
    go_enter Tryd.func40, Tryd.ntmps40
    go_wp2_with (first | (go_at_call 33; go_in) | (go_at_call 34; go_in) | (go_at_call 48; go_in) | (go_at_call 49; go_in) | (go_at_call 32; refine (copysign_zero HR63.out _).mono ?_; rintro e _ ⟨rfl, rfl⟩) | (go_at_call 42; refine (mathAbs_c X0.out _).mono ?_; rintro e _ ⟨r', rfl, hr', n, rfl⟩; obtain rfl : rg FloatKind.f64.format r = r' := FV.some_eq (k := .f64) hr'; clear hr'; rw [hrg]))
    go_ret
    refine ⟨0, rfl, by decide, fun t t1 t2 ts => ?_, _, rfl⟩
    have := FR.out t t1 t2 ts
    have := HP.out
    omega
  · rcases Int.lt_or_le 1023 p with hB | hB
    · have dB : (1023 < p) = True := by simp [hB]
      have dA : (p < -1075) = False := by simp; omega
      go_enter Tryd.func40, Tryd.ntmps40
      go_wp2_with (first | (go_at_call 33; go_in) | (go_at_call 34; go_in) | (go_at_call 48; go_in) | (go_at_call 49; go_in) | (go_at_call 32; refine (copysign_zero HR63.out _).mono ?_; rintro e _ ⟨rfl, rfl⟩) | (go_at_call 42; refine (mathAbs_c X0.out _).mono ?_; rintro e _ ⟨r', rfl, hr', n, rfl⟩; obtain rfl : rg FloatKind.f64.format r = r' := FV.some_eq (k := .f64) hr'; clear hr'; rw [hrg]))
      go_ret
      refine ⟨_, rfl, by decide, fun t t1 t2 ts => ?_, _, rfl⟩
      have := FR.out t t1 t2 ts
      have := HP.out
      omega
    · rcases Int.lt_or_le p (-1022) with hC | hC
      · obtain ⟨Q, hQ⟩ : ∃ Q : Nat, p + 53 + 1023 = (Q : Int) := ⟨(p + 53 + 1023).toNat, by omega⟩
        have hQ1 : 1 ≤ Q := by omega
        have hQ2 : Q < 2048 := by omega
        have b4 := or_high hQ2 hM
        have hfin : Q * 2 ^ 52 + M < D64.infRung := fin_word (by omega) hM
        have hy : FV .f64 (some (Q * 2 ^ 52 + M)) (Q * 2 ^ 52 + M) := FV.mk (pos_not_nan hfin) (Nat.lt_trans hfin (by decide +kernel))
        generalize hyy : Q * 2 ^ 52 + M = y at *
        have YY := Lib.hid hyy
        have hc : FV .f64 (cl .f64 4368491638549381120) 4368491638549381120 := FV.of_lt (k := .f64) (by decide)
        clear hyy
        have dA : (p < -1075) = False := by simp; omega
        have dB : (1023 < p) = False := by simp; omega
        have dC : (p < -1022) = True := by simp [hC]
        go_enter Tryd.func40, Tryd.ntmps40
        go_wp2_with (first | (go_at_call 33; go_in) | (go_at_call 34; go_in) | (go_at_call 48; go_in) | (go_at_call 49; go_in) | (go_at_call 32; refine (copysign_zero HR63.out _).mono ?_; rintro e _ ⟨rfl, rfl⟩) | (go_at_call 42; refine (mathAbs_c X0.out _).mono ?_; rintro e _ ⟨r', rfl, hr', n, rfl⟩; obtain rfl : rg FloatKind.f64.format r = r' := FV.some_eq (k := .f64) hr'; clear hr'; rw [hrg]) | (refine upon_flop _ (by decide) hc hy ?_; intro x nx hx'))
        go_ret
        refine ⟨x, rfl, hx'.2, fun t t1 t2 ts => ?_, _, rfl⟩
        have e1 := FS.out t ts Q 53 hQ1 (by have := HP.out; omega)
        rw [YY.out] at e1
        have e2 : V D64 t * U 105 = 2 ^ 52 * V D64 y := by
          rw [← e1, U105, U52, Nat.mul_comm (2 ^ 52), ← Nat.mul_assoc]
        have e3 := mul_pow read_tiny rfl hfin t1 t2 e2
        have e4 : fop .mul .f64 (cl .f64 4368491638549381120) (some y) = some t := by
          rw [show cl .f64 4368491638549381120 = some 4368491638549381120 by decide +kernel]
          exact fop_some e3
        rw [e4] at hx'
        exact hx'.some_eq.symm
      · obtain ⟨Q, hQ⟩ : ∃ Q : Nat, p + 1023 = (Q : Int) := ⟨(p + 1023).toNat, by omega⟩
        have hQ1 : 1 ≤ Q := by omega
        have hQ2 : Q < 2048 := by omega
        have b4 := or_high hQ2 hM
        have hfin : Q * 2 ^ 52 + M < D64.infRung := fin_word (by omega) hM
        have hy : FV .f64 (some (Q * 2 ^ 52 + M)) (Q * 2 ^ 52 + M) := FV.mk (pos_not_nan hfin) (Nat.lt_trans hfin (by decide +kernel))
        generalize hyy : Q * 2 ^ 52 + M = y at *
        have YY := Lib.hid hyy
        have hc : FV .f64 (cl .f64 4607182418800017408) 4607182418800017408 := FV.of_lt (k := .f64) (by decide)
        clear hyy
        have dA : (p < -1075) = False := by simp; omega
        have dB : (1023 < p) = False := by simp; omega
        have dC : (p < -1022) = False := by simp; omega
        go_enter Tryd.func40, Tryd.ntmps40
        go_wp2_with (first | (go_at_call 33; go_in) | (go_at_call 34; go_in) | (go_at_call 48; go_in) | (go_at_call 49; go_in) | (go_at_call 32; refine (copysign_zero HR63.out _).mono ?_; rintro e _ ⟨rfl, rfl⟩) | (go_at_call 42; refine (mathAbs_c X0.out _).mono ?_; rintro e _ ⟨r', rfl, hr', n, rfl⟩; obtain rfl : rg FloatKind.f64.format r = r' := FV.some_eq (k := .f64) hr'; clear hr'; rw [hrg]) | (refine upon_flop _ (by decide) hc hy ?_; intro x nx hx'))
        go_ret
        refine ⟨x, rfl, hx'.2, fun t t1 t2 ts => ?_, _, rfl⟩
        have e1 := FS.out t ts Q 0 hQ1 (by have := HP.out; omega)
        rw [YY.out] at e1
        have e2 : V D64 t * U 52 = 2 ^ 52 * V D64 y := by
          rw [← e1, U_zero, Nat.mul_one, U52, Nat.mul_comm]
        have e3 := mul_pow read_one rfl hfin t1 t2 e2
        have e4 : fop .mul .f64 (cl .f64 4607182418800017408) (some y) = some t := by
          rw [show cl .f64 4607182418800017408 = some 4607182418800017408 by decide +kernel]
          exact fop_some e3
        rw [e4] at hx'
        exact hx'.some_eq.symm

set_option maxRecDepth 10000 in
set_option maxHeartbeats 1000000 in
theorem ldexp_c {m : Nat} {e : Int} (hm : 0 < m) (hm2 : m < 2 ^ 53) (he : -2000 ≤ e) (he2 : e ≤ 2000) (w : World) :
    Calls Tryd.prog 31 #[.float .f64 (floatOfInt .f64 (m : Int)), .int .i64 e] w (RetLd m e w) := by
  obtain ⟨r, r1, r2, r3, r4⟩ := nat_word hm hm2
  rw [r4]
  obtain ⟨hE1, hE2⟩ := nat_fields hm hm2 r3
  have hr : r = r / 2 ^ 52 * 2 ^ 52 + r % 2 ^ 52 := by omega
  have hM : r % 2 ^ 52 < 2 ^ 52 := Nat.mod_lt _ (by decide)
  have L0 := Lib.hid (fun w => ldexp0_c (m := m) (e := e) r1 (by omega) hr hE1 hE2 hM he he2 (fun t => scaled_range (t := t) (e := e) r3 hr (by omega) hM) (fun t => scaled (t := t) (e := e) r3 hr (by omega) hM) w)
  clear hr hE1 hE2 hM r1 r2 r3 r4
  go_enter Tryd.func31, Tryd.ntmps31
  go_wp2_with fail
  refine (L0.out _).mono ?_
  rintro en _ ⟨x, rfl, h1, h2, n, rfl⟩
  go_wp2_with fail
  go_ret
  exact ⟨x, rfl, h1, h2, n, rfl⟩

set_option maxRecDepth 10000 in
set_option maxHeartbeats 400000 in
/-- Copysign(x, -1). -/
theorem copysign_neg {x : Nat} (hx : x < 2 ^ 64) (w : World) : Calls Tryd.prog 32 #[.float .f64 x, .float .f64 13830554455654793216] w fun e w' => e = .returned (.float .f64 (rg D64 x + 2 ^ 63)) ∧ w' = w := by
  have r1 := fun x w => f64bits_run x w
  have r2 := fun n w => f64frombits_run' n w
  have b1 : bits .andNot .u64 (x : Int) 9223372036854775808 = ((rg D64 x : Nat) : Int) := by
    rw [show (9223372036854775808 : Int) = ((9223372036854775808 : Nat) : Int) from rfl, u64_andNot_nat x 9223372036854775808 (by omega) (by decide)]
    congr 1
    exact clear_top64 x
  have b2 : bits .and .u64 13830554455654793216 9223372036854775808 = 9223372036854775808 := by decide +kernel
  have b3 : bits .or .u64 ((rg D64 x : Nat) : Int) 9223372036854775808 = ((rg D64 x + 2 ^ 63 : Nat) : Int) := by
    have h := rg_lt D64 x
    rw [D_S] at h
    rw [show (9223372036854775808 : Int) = ((9223372036854775808 : Nat) : Int) from rfl, u64_or_nat _ 9223372036854775808 (by omega) (by decide)]
    have := Nat.two_pow_add_eq_or_of_lt h 1
    rw [Nat.mul_one] at this
    rw [Nat.or_comm, show (9223372036854775808 : Nat) = 2 ^ 63 from rfl, ← this, Nat.add_comm]
  generalize rg D64 x + 2 ^ 63 = y at *
  generalize rg D64 x = z at *
  go_enter Tryd.func32, Tryd.ntmps32
  go_wp2
  go_ret
  exact ⟨by simp, rfl⟩
end Go.Proofs.YtjamceoofgfokaaDoor
