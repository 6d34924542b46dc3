import Derived.Test.YtjamceoofgfokaaDoorFinite
import Derived.Lib.TrailingZeros
import Derived.Lib.ItoaNum
namespace Go.Fl
open Go

abbrev D64 : Ieee.Format := Ieee.double
theorem D_B : D64.binade = 2 ^ 52 := rfl
theorem D_L : D64.leastPlace = -1074 := by decide
theorem D_I : D64.infRung = 2047 * 2 ^ 52 := rfl
theorem D_S : D64.signWeight = 2 ^ 63 := rfl

/-- A power of two, by a name. -/
def U (n : Nat) : Nat := 2 ^ n
theorem U_pos (n : Nat) : 0 < U n := Nat.two_pow_pos n
theorem U_add (m n : Nat) : U (m + n) = U m * U n := Nat.pow_add 2 m n

theorem V_pos {r : Nat} (h : 0 < r) : 0 < V D64 r := by
  have := V_lt D64 h
  omega

/-- A number that the format has is written as it is. -/
theorem nearest_exact (s : Bool) {mag : Nat} {place : Int} {r : Nat} (h0 : 0 < r) (hr : r < D64.infRung) (hm : ∃ i j : Nat, mag * U i = V D64 r * U j ∧ place - i = -1074 - j) : D64.nearest s mag place = D64.word s r := by
  obtain ⟨i, j, h1, h2⟩ := hm
  replace h1 : mag * 2 ^ i = V D64 r * 2 ^ j := h1
  obtain ⟨e, k, hrk, he, hk⟩ := rung_ek D64 r
  have hV : V D64 r = k * 2 ^ e := by rw [hrk]; exact V_ek D64 he (by omega)
  have hk0 : k ≠ 0 := by rintro rfl; rw [Nat.zero_mul] at hV; have := V_pos h0; omega
  have hmag : mag ≠ 0 := by
    rintro rfl
    have : 0 < V D64 r * 2 ^ j := Nat.mul_pos (V_pos h0) (Nat.two_pow_pos _)
    omega
  rw [nearest_rung D64 s hmag, rung_exact D64 he hk hk0 ⟨i, e + j, by rw [h1, hV, Nat.mul_assoc, ← Nat.pow_add], by rw [D_L]; omega⟩, ← hrk, Nat.min_eq_left (Nat.le_of_lt hr)]

theorem word_pos {r : Nat} : D64.word false r = r := by unfold Ieee.Format.word; rw [if_neg (by decide)]

theorem rg_small {r : Nat} (h : r < D64.infRung) : rg D64 r = r := Nat.mod_eq_of_lt (Nat.lt_trans h (by rw [D_I, D_S]; decide))
theorem sg_small {r : Nat} (h : r < D64.infRung) : sg D64 r = false := by
  unfold sg
  rw [Nat.div_eq_of_lt (Nat.lt_trans h (by rw [D_I, D_S]; decide))]
  rfl

/-- What a positive word reads as. -/
theorem read_pos {r : Nat} (h : r < D64.infRung) : ∃ m e : Nat, D64.read r = .number false m (-1074 + e) ∧ m * 2 ^ e = V D64 r ∧ (e = 0 ∨ 2 ^ 52 ≤ m) ∧ m < 2 * 2 ^ 52 := by
  have hr := rg_small h
  obtain ⟨m, e, h1, h2, h3, h4⟩ := read_fin D64 (b := r) (by rw [hr]; exact h)
  rw [hr] at h2
  rw [sg_small h, D_L] at h1
  exact ⟨m, e, h1, h2, h3, h4⟩

theorem read_two : D64.read 4611686018427387904 = .number false (2 ^ 52) (-51) := by decide +kernel

theorem V_add {r : Nat} (h : D64.binade ≤ r) : V D64 (r + D64.binade) = 2 * V D64 r := by
  obtain ⟨e, k, hrk, he, hk⟩ := rung_ek D64 r
  have hkB : D64.binade ≤ k := by
    rcases he with he | he
    · subst he; omega
    · exact he
  have e1 : r + D64.binade = (e + 1) * D64.binade + k := by rw [hrk, Nat.add_mul]; omega
  rw [e1, hrk, V_ek D64 (Or.inr hkB) (by omega), V_ek D64 (Or.inr hkB) (by omega), Nat.pow_succ]
  ac_rfl

/-- Twice a number that is not too great. -/
theorem double_word {r : Nat} (h0 : 0 < r) (h : r + D64.binade < D64.infRung) : ∃ r', floatBits .mul .f64 r 4611686018427387904 = some r' ∧ V D64 r' = 2 * V D64 r ∧ r < r' ∧ r' < D64.infRung := by
  have key : ∀ r', V D64 r' = 2 * V D64 r → r' < D64.infRung → floatBits .mul .f64 r 4611686018427387904 = some r' := fun r' hV hr' => by
    obtain ⟨m, e, h1, h2, h3, h4⟩ := read_pos (r := r) (by omega)
    have hp : 0 < r' := by
      have := V_pos h0
      rcases Nat.eq_zero_or_pos r' with h | h
      · subst h; rw [V_zero] at hV; omega
      · exact h
    show ((D64.read r).product (D64.read 4611686018427387904)).map D64.write = _
    rw [h1, read_two]
    show some (D64.nearest (false ^^ false) (m * 2 ^ 52) (-1074 + (e : Int) + -51)) = _
    rw [nearest_exact (false ^^ false) hp hr' ⟨e, 51, by show m * 2 ^ 52 * 2 ^ e = V D64 r' * 2 ^ 51; rw [hV, ← h2, Nat.mul_assoc, Nat.mul_comm (2 ^ 52), ← Nat.mul_assoc]; show m * 2 ^ e * (2 ^ 51 * 2) = _; generalize m * 2 ^ e = y; omega, by omega⟩]
    rw [show (false ^^ false) = false from rfl, word_pos]
  by_cases hn : D64.binade ≤ r
  · exact ⟨r + D64.binade, key _ (V_add hn) h, V_add hn, by rw [D_B]; omega, h⟩
  · have hV : V D64 r = r := by unfold V; rw [if_pos (by omega)]
    have hV2 : V D64 (2 * r) = 2 * V D64 r := by
      have := V_ek D64 (e := 0) (k := 2 * r) (Or.inl rfl) (by omega)
      rw [Nat.zero_mul, Nat.zero_add, Nat.pow_zero, Nat.mul_one] at this
      rw [this, hV]
    have hlt : 2 * r < D64.infRung := by rw [D_I]; rw [D_B] at hn; omega
    exact ⟨2 * r, key _ hV2 hlt, hV2, by omega, hlt⟩

/-- Half of a number that is not small. -/
theorem halve_word {r : Nat} (h : 2 * D64.binade ≤ r) (hr : r < D64.infRung) : floatBits .quo .f64 r 4611686018427387904 = some (r - D64.binade) ∧ V D64 r = 2 * V D64 (r - D64.binade) := by
  have hB := D_B
  have hV : V D64 r = 2 * V D64 (r - D64.binade) := by
    have := V_add (r := r - D64.binade) (by omega)
    rw [show r - D64.binade + D64.binade = r by omega] at this
    exact this
  refine ⟨?_, hV⟩
  obtain ⟨m, e, h1, h2, h3, h4⟩ := read_pos hr
  have he : 2 ^ 52 ≤ m := by
    rcases h3 with rfl | h3
    · have := V_le D64 h
      have e2 : V D64 (2 * D64.binade) = 2 ^ 53 := by decide +kernel
      rw [e2] at this
      simp at h2
      omega
    · exact h3
  have hm0 : m ≠ 0 := by omega
  have hlog : m.log2 = 52 := log2_eq he (by omega)
  have hp : 0 < r - D64.binade := by omega
  have hmore : D64.fractionBits + 2 + (2 ^ 52 : Nat).log2 - m.log2 = 54 := by rw [hlog]; decide +kernel
  show ((D64.read r).quotient (D64.fractionBits + 2) (D64.read 4611686018427387904)).map D64.write = _
  rw [h1, read_two]
  unfold Ieee.Datum.quotient
  dsimp only
  rw [if_neg (by decide), hmore, Nat.shiftLeft_eq]
  have d1 : m * 2 ^ 54 / 2 ^ 52 = m * 4 := by omega
  have d2 : m * 2 ^ 54 % 2 ^ 52 = 0 := by omega
  rw [d1, d2]
  show some (D64.nearest (false ^^ false) (2 * (m * 4) + 0) (-1074 + (e : Int) - -51 - ((54 : Nat) : Int) - 1)) = _
  rw [nearest_exact (false ^^ false) (r := r - D64.binade) hp (by omega) ⟨e, 4, by
    show (2 * (m * 4) + 0) * 2 ^ e = V D64 (r - D64.binade) * 2 ^ 4
    have : (2 * (m * 4) + 0) * 2 ^ e = 8 * (m * 2 ^ e) := by generalize 2 ^ e = y; rw [Nat.add_zero, show 2 * (m * 4) = 8 * m by omega, Nat.mul_assoc]
    rw [this, h2, hV]; omega, by omega⟩]
  rw [show (false ^^ false) = false from rfl, word_pos]

/-- The word of 2^53. -/
def C53 : Nat := 4845873199050653696
theorem V_C53 : V D64 C53 = 2 ^ 53 * U 1074 := by decide +kernel
theorem C53_B : 2 * D64.binade ≤ C53 := by decide +kernel

theorem iv_pos {r : Nat} (h : r < D64.infRung) : iv D64 r = (V D64 r : Nat) := by
  unfold iv
  rw [sg_small h, rg_small h]
  rfl

theorem pos_not_nan {r : Nat} (h : r < D64.infRung) : (FloatKind.f64.decode r).isNaN = false := by
  obtain ⟨m, e, h1, -⟩ := read_pos h
  show (D64.read r).isNaN = false
  rw [h1]
  rfl

theorem order_pos {r s : Nat} (h : r < D64.infRung) (k : s < D64.infRung) : D64.order r s = some (compare r s) := by
  rw [order_iv D64 (okf .f64) (pos_not_nan h) (pos_not_nan k), iv_pos h, iv_pos k]
  congr 1
  rcases Nat.lt_trichotomy r s with c | c | c
  · rw [Int.compare_eq_lt.2 (by have := V_lt D64 c; omega), Nat.compare_eq_lt.2 c]
  · subst c; rw [Int.compare_eq_eq.2 rfl, Nat.compare_eq_eq.2 rfl]
  · rw [Int.compare_eq_gt.2 (by have := V_lt D64 c; omega), Nat.compare_eq_gt.2 c]

/-- A natural number below 2^53, as a word. -/
theorem nat_word {n : Nat} (h0 : 0 < n) (h : n < 2 ^ 53) : ∃ r, r < D64.infRung ∧ 0 < r ∧ V D64 r = n * U 1074 ∧ floatOfInt .f64 (n : Int) = r := by
  have hlog : n.log2 ≤ 52 := by have := (Nat.log2_lt (by omega : n ≠ 0)).2 h; omega
  have hk1 : 2 ^ 52 ≤ n * 2 ^ (52 - n.log2) := by
    have := Nat.mul_le_mul_right (2 ^ (52 - n.log2)) (Nat.log2_self_le (by omega : n ≠ 0))
    rw [← Nat.pow_add, show n.log2 + (52 - n.log2) = 52 by omega] at this
    exact this
  have hk2 : n * 2 ^ (52 - n.log2) < 2 * 2 ^ 52 := by
    have := Nat.mul_lt_mul_of_pos_right (k := 2 ^ (52 - n.log2)) (Nat.lt_log2_self (n := n)) (Nat.two_pow_pos _)
    rw [← Nat.pow_add, show n.log2 + 1 + (52 - n.log2) = 53 by omega] at this
    exact this
  have hV : V D64 ((1074 - (52 - n.log2)) * D64.binade + n * 2 ^ (52 - n.log2)) = n * U 1074 := by
    rw [V_ek D64 (Or.inr hk1) (by rw [D_B]; omega), Nat.mul_assoc, ← Nat.pow_add]
    show n * U (52 - n.log2 + (1074 - (52 - n.log2))) = _
    congr 2
    omega
  have hlt : (1074 - (52 - n.log2)) * D64.binade + n * 2 ^ (52 - n.log2) < D64.infRung := by
    rw [D_B, D_I]
    have : 1074 - (52 - n.log2) ≤ 1074 := by omega
    have := Nat.mul_le_mul_right (2 ^ 52) this
    omega
  generalize (1074 - (52 - n.log2)) * D64.binade + n * 2 ^ (52 - n.log2) = r at *
  have hr0 : 0 < r := by
    rcases Nat.eq_zero_or_pos r with h | h
    · subst h
      rw [V_zero] at hV
      have : 0 < n * U 1074 := Nat.mul_pos h0 (U_pos _)
      omega
    · exact h
  refine ⟨r, hlt, hr0, hV, ?_⟩
  show D64.nearest (decide ((n : Int) < 0)) (n : Int).natAbs 0 = _
  have e1 : decide ((n : Int) < 0) = false := by simp
  rw [e1, Int.natAbs_natCast, nearest_exact false hr0 hlt ⟨1074, 0, by rw [hV]; exact (Nat.mul_one _).symm, by omega⟩, word_pos]

theorem cut_zero (s : Bool) (n d : Nat) : Ieee.Toward.zero.cut s n d = n / 2 ^ d := by
  unfold Ieee.Toward.cut
  dsimp only
  rw [Nat.shiftLeft_eq, Nat.one_mul, Bool.toNat_false, Nat.add_zero]
  rcases Nat.le_total d (n.log2 + 2) with h | h
  · rw [Nat.min_eq_left h]
  · rw [Nat.min_eq_right h]
    have h1 : n < 2 ^ (n.log2 + 2) := Nat.lt_of_lt_of_le Nat.lt_log2_self (Nat.pow_le_pow_right (by decide) (by omega))
    have h2 : n < 2 ^ d := Nat.lt_of_lt_of_le h1 (Nat.pow_le_pow_right (by decide) h)
    rw [Nat.div_eq_of_lt h1, Nat.div_eq_of_lt h2]

/-- The integer of a number below 2^53. -/
theorem int_word {r : Nat} (h : r < C53) : floatToIntVal .f64 r .i64 = some ((V D64 r / U 1074 : Nat) : Int) ∧ V D64 r / U 1074 < 2 ^ 53 := by
  have hC : C53 < D64.infRung := by decide +kernel
  have hlt : V D64 r / U 1074 < 2 ^ 53 := by
    have h1 := V_lt D64 h
    rw [V_C53] at h1
    exact Nat.div_lt_of_lt_mul (by rw [Nat.mul_comm]; exact h1)
  refine ⟨?_, hlt⟩
  obtain ⟨m, e, h1, h2, h3, h4⟩ := read_pos (r := r) (by omega)
  have key : (D64.read r).toInt .zero = some ((V D64 r / U 1074 : Nat) : Int) := by
    rw [h1]
    unfold Ieee.Datum.toInt Ieee.Datum.integral
    dsimp only
    have hcut : Ieee.Toward.zero.cut false (m <<< (-1074 + (e : Int)).toNat) (-(-1074 + (e : Int))).toNat = V D64 r / U 1074 := by
      rw [cut_zero, Nat.shiftLeft_eq, ← h2]
      rcases Nat.lt_or_ge e 1074 with c | c
      · have a1 : (-1074 + (e : Int)).toNat = 0 := by omega
        have a2 : (-(-1074 + (e : Int))).toNat = 1074 - e := by omega
        rw [a1, a2, Nat.pow_zero, Nat.mul_one]
        have a3 : U 1074 = 2 ^ (1074 - e) * 2 ^ e := by rw [← Nat.pow_add]; show U 1074 = U _; congr 1; omega
        rw [a3, Nat.mul_div_mul_right _ _ (Nat.two_pow_pos e)]
      · have a1 : (-1074 + (e : Int)).toNat = e - 1074 := by omega
        have a2 : (-(-1074 + (e : Int))).toNat = 0 := by omega
        rw [a1, a2, Nat.pow_zero, Nat.div_one]
        have a3 : (2 : Nat) ^ e = 2 ^ (e - 1074) * U 1074 := by show U e = U (e - 1074) * U 1074; rw [← U_add]; congr 1; omega
        rw [a3, ← Nat.mul_assoc, Nat.mul_div_cancel _ (U_pos 1074)]
    rw [hcut]
    unfold Ieee.signed
    rw [if_neg (by decide), Nat.shiftLeft_zero]
  unfold floatToIntVal
  rw [show FloatKind.f64.decode r = D64.read r from rfl, key]
  dsimp only
  have b1 : IntKind.i64.min = -9223372036854775808 := by decide
  have b2 : IntKind.i64.max = 9223372036854775807 := by decide
  generalize V D64 r / U 1074 = n at *
  rw [b1, b2, if_pos (by omega)]

/-- Is a number below 2^53 whole? -/
theorem whole_word {r : Nat} (h0 : 0 < r) (h : r < C53) : ∃ s, floatOfInt .f64 ((V D64 r / U 1074 : Nat) : Int) = s ∧ s < 2 ^ 64 ∧ (D64.order r s == some .eq) = decide (V D64 r % U 1074 = 0) := by
  have hC : C53 < D64.infRung := by decide +kernel
  have hlt := (int_word h).2
  have hr : r < D64.infRung := by omega
  have hVp := V_pos h0
  have hdm := Nat.div_add_mod (V D64 r) (U 1074)
  rcases Nat.eq_zero_or_pos (V D64 r / U 1074) with hz | hp
  · rw [hz]
    refine ⟨0, by decide +kernel, by decide, ?_⟩
    rw [order_pos hr (by rw [D_I]; omega), Nat.compare_eq_gt.2 h0]
    rw [hz, Nat.mul_zero, Nat.zero_add] at hdm
    have : ¬ V D64 r % U 1074 = 0 := by rw [hdm]; omega
    simp [this]
  · obtain ⟨s, s1, s2, s3, s4⟩ := nat_word hp hlt
    refine ⟨s, s4, Nat.lt_trans s1 (by rw [D_I]; decide), ?_⟩
    rw [order_pos hr s1]
    rw [Nat.mul_comm, ← s3] at hdm
    generalize V D64 r % U 1074 = z at *
    rcases Nat.lt_trichotomy r s with c | c | c
    · have := V_lt D64 c
      omega
    · subst c
      have : z = 0 := by omega
      rw [Nat.compare_eq_eq.2 rfl, this]
      rfl
    · have := V_lt D64 c
      have : ¬ z = 0 := by omega
      rw [Nat.compare_eq_gt.2 c]
      simp [this]

/-- Two ways of writing a number as an odd one times a power of two are one. -/
theorem odd_uniq {a b m n : Nat} (h : 2 ^ a * (2 * m + 1) = 2 ^ b * (2 * n + 1)) : a = b ∧ m = n := by
  have key : ∀ {a b m n : Nat}, a ≤ b → 2 ^ a * (2 * m + 1) = 2 ^ b * (2 * n + 1) → a = b ∧ m = n := by
    intro a b m n hab h
    obtain ⟨d, rfl⟩ : ∃ d, b = a + d := ⟨b - a, by omega⟩
    rw [Nat.pow_add, Nat.mul_assoc] at h
    have h' := Nat.eq_of_mul_eq_mul_left (Nat.two_pow_pos a) h
    cases d with
    | zero => simp at h'; exact ⟨by omega, by omega⟩
    | succ d =>
      rw [Nat.pow_succ, Nat.mul_comm (2 ^ d) 2, Nat.mul_assoc] at h'
      omega
  rcases Nat.le_total a b with c | c
  · exact key c h
  · obtain ⟨h1, h2⟩ := key c h.symm
    exact ⟨h1.symm, h2.symm⟩

/-- The number of twos in N, and what is left. -/
def twos (N : Nat) : Nat := Lib.ctzFrom 2200 N
def oddOf (N : Nat) : Nat := N / 2 ^ twos N

theorem odd_gen (f N : Nat) (h0 : 0 < N) (h : N < U f) : N = 2 ^ Lib.ctzFrom f N * (N / 2 ^ Lib.ctzFrom f N) ∧ N / 2 ^ Lib.ctzFrom f N % 2 = 1 := by
  obtain ⟨m, hm, -⟩ := Lib.ctzFrom_spec f N h0 h
  have e : N / 2 ^ Lib.ctzFrom f N = 2 * m + 1 := Nat.div_eq_of_eq_mul_right (Nat.two_pow_pos _) hm
  exact ⟨by rw [e]; exact hm, by omega⟩
theorem odd_spec {N : Nat} (h0 : 0 < N) (h : N < U 2200) : N = 2 ^ twos N * oddOf N ∧ oddOf N % 2 = 1 := odd_gen 2200 N h0 h

theorem odd_is {N a b m : Nat} (h0 : 0 < N) (h : N < U 2200) (hm : m % 2 = 1) (he : m * 2 ^ a = N * 2 ^ b) : m = oddOf N ∧ a = twos N + b := by
  obtain ⟨h1, h2⟩ := odd_spec h0 h
  obtain ⟨q, hq⟩ : ∃ q, m = 2 * q + 1 := ⟨m / 2, by omega⟩
  obtain ⟨s, hs⟩ : ∃ s, oddOf N = 2 * s + 1 := ⟨oddOf N / 2, by omega⟩
  rw [hs] at h1
  rw [h1, hq, Nat.mul_comm, Nat.mul_right_comm, ← Nat.pow_add] at he
  obtain ⟨e1, e2⟩ := odd_uniq he
  exact ⟨by omega, e1⟩

/-- The text of a number. -/
def fmtD (p : Option Nat) : List UInt8 :=
  match p with
  | none => []
  | some b =>
    if rg D64 b < D64.infRung then
      (if sg D64 b then [45] else []) ++ (if rg D64 b = 0 then [48] else Lib.itoa (oddOf (V D64 (rg D64 b)) : Int) ++ [112] ++ Lib.itoa ((twos (V D64 (rg D64 b)) : Int) - 1074))
    else []
end Go.Fl
