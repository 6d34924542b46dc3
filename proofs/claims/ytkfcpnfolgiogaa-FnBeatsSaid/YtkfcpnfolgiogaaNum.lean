import Derived.Test.YtkfcpnfolgiogaaFloat
namespace Go.Fl
open Go

/-! ### What a word is worth, as a rational number; rounding errs little -/

/-- Not greater than B, of whatever sign. -/
def Bd (x B : Rat) : Prop := -B ≤ x ∧ x ≤ B

theorem Bd.mono {x A B : Rat} (h : Bd x A) (hAB : A ≤ B) : Bd x B := by
  obtain ⟨h1, h2⟩ := h
  constructor <;> grind

theorem Bd.add {x y A B : Rat} (h : Bd x A) (k : Bd y B) : Bd (x + y) (A + B) := by
  obtain ⟨h1, h2⟩ := h
  obtain ⟨k1, k2⟩ := k
  constructor <;> grind

theorem Bd.sub {x y A B : Rat} (h : Bd x A) (k : Bd y B) : Bd (x - y) (A + B) := by
  obtain ⟨h1, h2⟩ := h
  obtain ⟨k1, k2⟩ := k
  constructor <;> grind

theorem Bd.neg {x A : Rat} (h : Bd x A) : Bd (-x) A := by
  obtain ⟨h1, h2⟩ := h
  constructor <;> grind

theorem Bd.nonneg {x A : Rat} (h : Bd x A) : 0 ≤ A := by
  obtain ⟨h1, h2⟩ := h
  grind

theorem Bd.mul {x y A B : Rat} (h : Bd x A) (k : Bd y B) : Bd (x * y) (A * B) := by
  obtain ⟨h1, h2⟩ := h
  obtain ⟨k1, k2⟩ := k
  have a1 := Rat.mul_nonneg (show 0 ≤ A - x by grind) (show 0 ≤ B + y by grind)
  have a2 := Rat.mul_nonneg (show 0 ≤ A + x by grind) (show 0 ≤ B - y by grind)
  have a3 := Rat.mul_nonneg (show 0 ≤ A - x by grind) (show 0 ≤ B - y by grind)
  have a4 := Rat.mul_nonneg (show 0 ≤ A + x by grind) (show 0 ≤ B + y by grind)
  constructor <;> grind

/-! 'cut' errs by half a unit -/
theorem cut_err (n d : Nat) : 2 * (Ieee.Toward.even.cut false n d * 2 ^ d) ≤ 2 * n + 2 ^ d ∧ 2 * n ≤ 2 * (Ieee.Toward.even.cut false n d * 2 ^ d) + 2 ^ d := by
  unfold Ieee.Toward.cut
  dsimp only
  by_cases hd : d ≤ n.log2 + 2
  · rw [Nat.min_eq_left hd, Nat.shiftLeft_eq, Nat.one_mul]
    have hp := Nat.two_pow_pos d
    generalize 2 ^ d = g at *
    have hdm := Nat.div_add_mod n g
    have hm := Nat.mod_lt n hp
    generalize n / g = q at *
    generalize n % g = r at *
    have hmul : ∀ b : Nat, (q + b) * g = g * q + b * g := fun b => by rw [Nat.add_mul, Nat.mul_comm q g]
    by_cases h1 : g < 2 * r
    · simp only [h1, decide_true, Bool.true_or, Bool.toNat_true, hmul]
      omega
    · by_cases h2 : g = 2 * r
      · cases hq : (q % 2 == 1)
        · simp only [h1, decide_false, Bool.false_or, Bool.and_false, Bool.toNat_false, hmul]
          omega
        · have : (g == 2 * r) = true := by simp [h2]
          simp only [h1, this, decide_false, Bool.false_or, Bool.and_true, Bool.toNat_true, hmul]
          omega
      · have : (g == 2 * r) = false := by simp [h2]
        simp only [h1, this, decide_false, Bool.false_or, Bool.false_and, Bool.toNat_false, hmul]
        omega
  · rw [Nat.min_eq_right (by omega), Nat.shiftLeft_eq, Nat.one_mul]
    have h1 : n < 2 ^ (n.log2 + 1) := Nat.lt_log2_self
    have h2 : (2 : Nat) ^ (n.log2 + 2) = 2 * 2 ^ (n.log2 + 1) := by rw [Nat.pow_succ, Nat.mul_comm]
    have h3 : (2 : Nat) ^ (n.log2 + 2) ≤ 2 ^ d := Nat.pow_le_pow_right (by decide) (by omega)
    rw [Nat.div_eq_of_lt (by omega), Nat.mod_eq_of_lt (by omega)]
    have h4 : decide (2 ^ (n.log2 + 2) < 2 * n) = false := by simp; omega
    have h5 : ((2 : Nat) ^ (n.log2 + 2) == 2 * n) = false := by simp; omega
    rw [h4, h5]
    simp
    omega

/-- A number in steps: what of it is kept (c), and how far that is off, in steps of a place (d). -/
theorem rung_parts (f : Ieee.Format) {mag : Nat} (h0 : mag ≠ 0) (place : Int) : ∃ (e n d c : Nat) (last : Int), last = f.leastPlace + e ∧ rung f mag place = e * f.binade + c ∧ (e = 0 ∨ f.binade ≤ c) ∧ c ≤ 2 * f.binade ∧
    2 * (c * 2 ^ d) ≤ 2 * n + 2 ^ d ∧ 2 * n ≤ 2 * (c * 2 ^ d) + 2 ^ d ∧
    ((d = 0 ∧ ∃ j : Nat, place = last + j ∧ n = mag * 2 ^ j) ∨ (place + d = last ∧ n = mag)) ∧
    (e = 0 ∨ last = place + mag.log2 - f.fractionBits) := by
  have hL1 := Nat.log2_self_le h0
  have hL2 : mag < 2 ^ (mag.log2 + 1) := Nat.lt_log2_self
  obtain ⟨e, he⟩ : ∃ e : Nat, max (place + mag.log2 - f.fractionBits) f.leastPlace = f.leastPlace + e := ⟨(max (place + mag.log2 - f.fractionBits) f.leastPlace - f.leastPlace).toNat, by omega⟩
  have hb : f.binade = 2 ^ f.fractionBits := rfl
  have he2 : e = 0 ∨ f.leastPlace + e = place + mag.log2 - f.fractionBits := by omega
  have he3 : place + mag.log2 - f.fractionBits ≤ f.leastPlace + e := by omega
  have e1 : (f.leastPlace + (e : Int) - f.leastPlace).toNat = e := by omega
  unfold rung
  dsimp only
  rw [he, e1]
  generalize hlast : f.leastPlace + (e : Int) = last at *
  have key : ∀ n d c : Nat, n < 2 ^ (f.fractionBits + d + 1) → (e = 0 ∨ 2 ^ (f.fractionBits + d) ≤ n) → 2 * (c * 2 ^ d) ≤ 2 * n + 2 ^ d → 2 * n ≤ 2 * (c * 2 ^ d) + 2 ^ d → (e = 0 ∨ f.binade ≤ c) ∧ c ≤ 2 * f.binade := by
    intro n d c h1 h2 h3 h4
    have hp := Nat.two_pow_pos d
    rw [show f.fractionBits + d + 1 = f.fractionBits + 1 + d by omega, Nat.pow_add, Nat.pow_succ, ← hb] at h1
    rw [Nat.pow_add, ← hb] at h2
    generalize 2 ^ d = g at *
    generalize f.binade = B at *
    constructor
    · rcases h2 with h2 | h2
      · exact Or.inl h2
      · right
        refine Nat.le_of_lt_succ (Nat.lt_of_mul_lt_mul_right (a := g) ?_)
        rw [Nat.succ_mul]
        omega
    · refine Nat.le_of_lt_succ (Nat.lt_of_mul_lt_mul_right (a := g) ?_)
      rw [Nat.succ_mul]
      have : 2 * B * g = B * 2 * g := by rw [Nat.mul_comm 2 B]
      omega
  by_cases hpl : last ≤ place
  · obtain ⟨j, hj⟩ : ∃ j : Nat, place = last + j := ⟨(place - last).toNat, by omega⟩
    have e2 : (place - last).toNat = j := by omega
    have e3 : (last - place).toNat = 0 := by omega
    rw [e2, e3, Nat.shiftLeft_eq]
    have hc := cut_err (mag * 2 ^ j) 0
    have hlt : mag * 2 ^ j < 2 ^ (f.fractionBits + 0 + 1) := by
      have h1 : mag * 2 ^ j < 2 ^ (mag.log2 + 1) * 2 ^ j := Nat.mul_lt_mul_of_pos_right hL2 (Nat.two_pow_pos j)
      rw [← Nat.pow_add] at h1
      exact Nat.lt_of_lt_of_le h1 (Nat.pow_le_pow_right (by decide) (by omega))
    have hge : e = 0 ∨ 2 ^ (f.fractionBits + 0) ≤ mag * 2 ^ j := by
      rcases he2 with h | h
      · exact Or.inl h
      · right
        have h1 : 2 ^ mag.log2 * 2 ^ j ≤ mag * 2 ^ j := Nat.mul_le_mul_right _ hL1
        rw [← Nat.pow_add, show mag.log2 + j = f.fractionBits + 0 by omega] at h1
        exact h1
    obtain ⟨k1, k2⟩ := key _ _ _ hlt hge hc.1 hc.2
    exact ⟨e, _, 0, _, last, hlast.symm, rfl, k1, k2, hc.1, hc.2, Or.inl ⟨rfl, j, hj, rfl⟩, he2.imp id (fun h => h)⟩
  · obtain ⟨d, hd⟩ : ∃ d : Nat, place + d = last := ⟨(last - place).toNat, by omega⟩
    have e2 : (place - last).toNat = 0 := by omega
    have e3 : (last - place).toNat = d := by omega
    rw [e2, e3, Nat.shiftLeft_zero]
    have hc := cut_err mag d
    have hlt : mag < 2 ^ (f.fractionBits + d + 1) := Nat.lt_of_lt_of_le hL2 (Nat.pow_le_pow_right (by decide) (by omega))
    have hge : e = 0 ∨ 2 ^ (f.fractionBits + d) ≤ mag := by
      rcases he2 with h | h
      · exact Or.inl h
      · right
        rw [show f.fractionBits + d = mag.log2 by omega]
        exact hL1
    obtain ⟨k1, k2⟩ := key _ _ _ hlt hge hc.1 hc.2
    exact ⟨e, _, d, _, last, hlast.symm, rfl, k1, k2, hc.1, hc.2, Or.inr ⟨hd, rfl⟩, he2⟩
end Go.Fl
