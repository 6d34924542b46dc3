import Derived.Test.YtkfcpnfolgiogaaNum
namespace Go.Fl
open Go

def p2 (n : Int) : Rat := (2 : Rat) ^ n

theorem p2_add (m n : Int) : p2 (m + n) = p2 m * p2 n := Rat.zpow_add (by decide) m n
theorem p2_pos (n : Int) : 0 < p2 n := Rat.zpow_pos (by decide)
theorem p2_nat (k : Nat) : p2 (k : Int) = ((2 ^ k : Nat) : Rat) := by
  unfold p2
  rw [Rat.zpow_natCast, Rat.natCast_pow]
  rfl
theorem p2_le {m n : Int} (h : m ≤ n) : p2 m ≤ p2 n := by
  obtain ⟨k, rfl⟩ : ∃ k : Nat, n = m + k := ⟨(n - m).toNat, by omega⟩
  rw [p2_add, p2_nat]
  have h1 := p2_pos m
  have h2 : (1 : Rat) ≤ ((2 ^ k : Nat) : Rat) := by
    have := Rat.natCast_le_natCast.2 (Nat.two_pow_pos k)
    exact this
  have := Rat.mul_le_mul_of_nonneg_left h2 (Rat.le_of_lt h1)
  grind

def sv (s : Bool) : Rat := if s then -1 else 1

theorem Bd.sv {x B : Rat} (h : Bd x B) (s : Bool) : Bd (Fl.sv s * x) B := by
  cases s
  · unfold Fl.sv; rw [if_neg (by decide), Rat.one_mul]; exact h
  · unfold Fl.sv; rw [if_pos rfl]
    have := h.neg
    have e : (-1 : Rat) * x = -x := by grind
    rw [e]
    exact this

/-- What a finite word is worth. -/
def bv (f : Ieee.Format) (b : Nat) : Rat := (iv f b : Rat) * p2 f.leastPlace

theorem bv_word (f : Ieee.Format) {s : Bool} {r : Nat} (h : r < f.signWeight) : bv f (f.word s r) = sv s * ((V f r : Nat) * p2 f.leastPlace) := by
  unfold bv iv sv
  rw [sg_word f h, rg_word f h]
  cases s
  · simp only [Bool.false_eq_true, if_false, Rat.intCast_natCast]
    grind
  · simp only [if_true, Rat.intCast_neg, Rat.intCast_natCast]
    grind

theorem bv_read (f : Ieee.Format) {b : Nat} (h : rg f b < f.infRung) : ∃ (m : Nat) (p : Int), f.read b = .number (sg f b) m p ∧ bv f b = sv (sg f b) * (m * p2 p) := by
  obtain ⟨m, e, hr, hv, _⟩ := read_fin f h
  refine ⟨m, _, hr, ?_⟩
  unfold bv iv sv
  rw [← hv, p2_add, p2_nat]
  cases sg f b
  · simp only [Bool.false_eq_true, if_false, Rat.intCast_natCast, Rat.natCast_mul]
    grind
  · simp only [if_true, Rat.intCast_neg, Rat.intCast_natCast, Rat.natCast_mul]
    grind

theorem rung_err (f : Ieee.Format) {mag : Nat} (h0 : mag ≠ 0) (place : Int) :
    Bd ((V f (rung f mag place) : Nat) * p2 f.leastPlace - mag * p2 place) ((mag * p2 place * p2 (-(f.fractionBits : Int)) + p2 f.leastPlace) / 2) := by
  obtain ⟨e, n, d, c, last, hlast, hR, hc1, hc2, hn1, hn2, hcase, hlog⟩ := rung_parts f h0 place
  have hV := V_ek f hc1 hc2
  rw [hR, hV]
  have hY : ((c * 2 ^ e : Nat) : Rat) * p2 f.leastPlace = c * p2 last := by
    rw [hlast, p2_add, p2_nat, Rat.natCast_mul]
    grind
  rw [hY]
  have hw : ∃ w : Rat, 0 < w ∧ mag * p2 place = n * w ∧ p2 last = ((2 ^ d : Nat) : Rat) * w := by
    rcases hcase with ⟨rfl, j, hj, hn⟩ | ⟨hd, hn⟩
    · refine ⟨p2 last, p2_pos _, ?_, ?_⟩
      · rw [hj, hn, p2_add, p2_nat, Rat.natCast_mul]
        grind
      · have : ((2 ^ 0 : Nat) : Rat) = 1 := rfl
        rw [this]
        grind
    · refine ⟨p2 place, p2_pos _, by rw [hn], ?_⟩
      rw [← hd, p2_add, p2_nat]
      grind
  obtain ⟨w, hw0, hX, hl⟩ := hw
  have g1 := Rat.natCast_le_natCast.2 hn1
  have g2 := Rat.natCast_le_natCast.2 hn2
  simp only [Rat.natCast_add, Rat.natCast_mul, Rat.natCast_ofNat] at g1 g2
  have hlX : p2 last ≤ mag * p2 place * p2 (-(f.fractionBits : Int)) + p2 f.leastPlace := by
    have k1 := p2_pos (-(f.fractionBits : Int))
    have k2 := p2_pos f.leastPlace
    have k3 := p2_pos place
    rcases hlog with h | h
    · subst h
      have : last = f.leastPlace := by omega
      rw [this]
      have := Rat.mul_nonneg (Rat.mul_nonneg (Rat.natCast_nonneg (a := mag)) (Rat.le_of_lt k3)) (Rat.le_of_lt k1)
      grind
    · have : last = (mag.log2 : Int) + (place + -(f.fractionBits : Int)) := by omega
      rw [this, p2_add, p2_add, p2_nat]
      have h1 := Rat.natCast_le_natCast.2 (Nat.log2_self_le h0)
      have h2 := Rat.mul_le_mul_of_nonneg_right h1 (Rat.le_of_lt (Rat.mul_pos k3 k1))
      grind
  rw [hX] at hlX ⊢
  rw [hl] at hlX ⊢
  generalize ((2 ^ d : Nat) : Rat) = g at *
  have a1 := Rat.mul_le_mul_of_nonneg_right g1 (Rat.le_of_lt hw0)
  have a2 := Rat.mul_le_mul_of_nonneg_right g2 (Rat.le_of_lt hw0)
  constructor <;> grind

theorem p2_zero : p2 0 = 1 := rfl
theorem p2_one : p2 1 = 2 := by
  have := p2_nat 1
  exact this
theorem p2_succ (n : Int) : p2 (n + 1) = 2 * p2 n := by rw [p2_add, p2_one]; grind

abbrev D64 : Ieee.Format := Ieee.double
theorem D64_least : D64.leastPlace = -1074 := by decide
theorem D64_frac : D64.fractionBits = 52 := rfl
theorem D64_inf : D64.infRung = 2046 * D64.binade + D64.binade := by decide
theorem binade_pow (k : Nat) : ((2 ^ 52 * 2 ^ k : Nat) : Rat) * p2 (-1074) = p2 (52 + k + -1074) := by
  rw [← Nat.pow_add, ← p2_nat, ← p2_add]
  congr 1
theorem V_inf_k (k : Nat) : (V D64 (k * D64.binade + D64.binade) : Nat) * p2 D64.leastPlace = p2 (52 + k + -1074) := by
  rw [V_ek D64 (Or.inr (Nat.le_refl _)) (by omega), D64_least]
  exact binade_pow k
theorem V_inf : (V D64 D64.infRung : Nat) * p2 D64.leastPlace = p2 1024 := by
  rw [D64_inf, V_inf_k 2046]
  congr 1
theorem inf_lt : D64.infRung < D64.signWeight := by decide

/-- Rounding of a number that is not too great. -/
theorem near_num (s : Bool) (mag : Nat) (place : Int) {M : Rat} (hx : Bd (sv s * (mag * p2 place)) M) (hM : M ≤ p2 1000) :
    ∃ r, D64.nearest s mag place = r ∧ rg D64 r < D64.infRung ∧ r < 2 ^ 64 ∧ Bd (bv D64 r - sv s * (mag * p2 place)) (M * p2 (-53) + p2 (-1075)) := by
  have c1 := p2_pos (-53)
  have c2 := p2_pos (-1075)
  have hM0 := hx.nonneg
  have hpos := Rat.mul_nonneg hM0 (Rat.le_of_lt c1)
  by_cases h0 : mag = 0
  · subst h0
    refine ⟨_, rfl, ?_, Ieee.Format.write_lt D64 (.number s 0 place), ?_⟩
    · unfold Ieee.Format.nearest
      rw [if_pos rfl, rg_word D64 (by decide)]
      decide
    · unfold Ieee.Format.nearest
      rw [if_pos rfl, bv_word D64 (by decide), V_zero]
      have : ((0 : Nat) : Rat) = 0 := rfl
      rw [this]
      constructor <;> grind
  · have hX : (mag : Rat) * p2 place ≤ M := by
      obtain ⟨h1, h2⟩ := hx
      unfold sv at h1 h2
      cases s
      · rw [if_neg (by decide)] at h2; grind
      · rw [if_pos rfl] at h1; grind
    have hX0 : 0 ≤ (mag : Rat) * p2 place := Rat.mul_nonneg (Rat.natCast_nonneg (a := mag)) (Rat.le_of_lt (p2_pos place))
    have he := rung_err D64 h0 place
    rw [D64_frac] at he
    have q1 : p2 (-((52 : Nat) : Int)) = 2 * p2 (-53) := by
      rw [show (-((52 : Nat) : Int)) = (-53) + 1 by decide]
      exact p2_succ _
    have q2 : p2 (-1074) = 2 * p2 (-1075) := by
      rw [show (-1074 : Int) = (-1075) + 1 by decide]
      exact p2_succ _
    have hM2 := Rat.mul_le_mul_of_nonneg_right hX (Rat.le_of_lt c1)
    have he2 : Bd ((V D64 (rung D64 mag place) : Nat) * p2 D64.leastPlace - mag * p2 place) (M * p2 (-53) + p2 (-1075)) := by
      refine he.mono ?_
      rw [q1, D64_least, q2]
      grind
    have hR : rung D64 mag place < D64.infRung := by
      refine Nat.lt_of_not_le fun h => ?_
      have g1 := Rat.natCast_le_natCast.2 (V_le D64 h)
      have g2 := Rat.mul_le_mul_of_nonneg_right g1 (Rat.le_of_lt (p2_pos D64.leastPlace))
      rw [V_inf] at g2
      have g3 := he2.2
      have k1 : p2 (-53) ≤ 1 := p2_le (n := 0) (by decide)
      have k2 : p2 (-1075) ≤ 1 := p2_le (n := 0) (by decide)
      have k3 : 1 ≤ p2 1000 := p2_le (m := 0) (by decide)
      have k4 : p2 1001 = 2 * p2 1000 := p2_succ 1000
      have k5 : p2 1002 = 2 * p2 1001 := p2_succ 1001
      have k6 : p2 1002 ≤ p2 1024 := p2_le (by decide)
      have k7 := Rat.mul_le_mul_of_nonneg_left k1 hM0
      grind
    rw [nearest_rung D64 s h0, Nat.min_eq_left (Nat.le_of_lt hR)]
    have hsw : rung D64 mag place < D64.signWeight := Nat.lt_trans hR inf_lt
    refine ⟨_, rfl, by rw [rg_word D64 hsw]; exact hR, ?_, ?_⟩
    · rw [← Nat.min_eq_left (Nat.le_of_lt hR), ← nearest_rung D64 s h0]
      exact Ieee.Format.write_lt D64 (.number s mag place)
    · rw [bv_word D64 hsw]
      have := he2.sv s
      have e : sv s * ((V D64 (rung D64 mag place) : Nat) * p2 D64.leastPlace - mag * p2 place) = sv s * ((V D64 (rung D64 mag place) : Nat) * p2 D64.leastPlace) - sv s * (mag * p2 place) := by grind
      rw [e] at this
      exact this
end Go.Fl
