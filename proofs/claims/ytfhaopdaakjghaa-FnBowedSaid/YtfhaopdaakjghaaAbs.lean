import Derived.Test.YtfhaopdaakjghaaSame
namespace Go.Fl
open Go
/-- The absolute value: the word without its sign. -/
def fabs (k : FloatKind) (p : Option Nat) : Option Nat := p.map (rg k.format)

theorem rg_lt_width (f : Ieee.Format) (b : Nat) : rg f b < 2 ^ f.width := by
  have := rg_lt f b
  rw [two_signWeight]
  omega

theorem rg_rg (f : Ieee.Format) (b : Nat) : rg f (rg f b) = rg f b := Nat.mod_eq_of_lt (rg_lt f b)
theorem sg_rg (f : Ieee.Format) (b : Nat) : sg f (rg f b) = false := by
  unfold sg
  rw [Nat.div_eq_of_lt (rg_lt f b)]
  rfl

theorem nan_iff {k : FloatKind} {b : Nat} : (k.decode b).isNaN = true ↔ k.format.infRung < rg k.format b := isNaN_iff _ (okf k) b

theorem FV.abs {k : FloatKind} {p : Option Nat} {b : Nat} (h : FV k p b) : FV k (fabs k p) (rg k.format b) := by
  cases p with
  | none =>
    refine ⟨?_, rg_lt_width _ _⟩
    unfold cl
    rw [if_pos (nan_iff.2 (by rw [rg_rg]; exact nan_iff.1 h.nan))]
    rfl
  | some c =>
    obtain ⟨rfl, hn⟩ := h.not_nan
    refine FV.mk ?_ (rg_lt_width _ _)
    rcases hc : (k.decode (rg k.format c)).isNaN with _ | _
    · rfl
    · have h1 := nan_iff.1 hc
      rw [rg_rg] at h1
      have h2 := nan_iff.2 h1
      rw [hn] at h2
      cases h2

/-- What is not negative is its own absolute value. -/
theorem rg_of_not_neg {k : FloatKind} {b : Nat} (hb : b < 2 ^ k.format.width) (h : sg k.format b = false) : rg k.format b = b := by
  have := word_sg_rg k.format hb
  rw [h] at this
  exact this

theorem iv_neg_iff (f : Ieee.Format) (b : Nat) : iv f b < 0 ↔ sg f b = true ∧ 0 < rg f b := by
  have h0 := V_zero f
  unfold iv
  cases hs : sg f b
  · simp
  · simp only [if_true, true_and]
    constructor
    · intro h
      rcases Nat.eq_zero_or_pos (rg f b) with h' | h'
      · rw [h', h0] at h; simp at h
      · exact h'
    · intro h
      have := V_lt f h
      omega

theorem iv_zero_iff (f : Ieee.Format) (b : Nat) : iv f b = 0 ↔ rg f b = 0 := by
  have h0 := V_zero f
  unfold iv
  constructor
  · intro h
    rcases Nat.eq_zero_or_pos (rg f b) with h' | h'
    · exact h'
    · have := V_lt f h'
      split at h <;> omega
  · intro h; rw [h, h0]; split <;> rfl

theorem iv_lit_zero (f : Ieee.Format) : iv f 0 = 0 := by rw [iv_zero_iff]; exact Nat.zero_mod _

theorem zero_not_nan (k : FloatKind) : (k.decode 0).isNaN = false := by cases k <;> rfl

/-- Comparisons, by worth. -/
theorem lt_iv {k : FloatKind} {x y : Nat} (hx : (k.decode x).isNaN = false) (hy : (k.decode y).isNaN = false) : (k.format.order x y == some .lt) = decide (iv k.format x < iv k.format y) := by
  rw [order_iv _ (okf k) hx hy]
  rcases Int.lt_trichotomy (iv k.format x) (iv k.format y) with h | h | h
  · rw [Int.compare_eq_lt.2 h]; simp [h]
  · rw [Int.compare_eq_eq.2 h, h]; simp
  · rw [Int.compare_eq_gt.2 h]
    have : ¬ iv k.format x < iv k.format y := by omega
    simp [this]

theorem gt_iv {k : FloatKind} {x y : Nat} (hx : (k.decode x).isNaN = false) (hy : (k.decode y).isNaN = false) : (k.format.order x y == some .gt) = decide (iv k.format y < iv k.format x) := by
  rw [order_iv _ (okf k) hx hy]
  rcases Int.lt_trichotomy (iv k.format x) (iv k.format y) with h | h | h
  · rw [Int.compare_eq_lt.2 h]
    have : ¬ iv k.format y < iv k.format x := by omega
    simp [this]
  · rw [Int.compare_eq_eq.2 h, h]; simp
  · rw [Int.compare_eq_gt.2 h]; simp [h]

theorem eq_iv {k : FloatKind} {x y : Nat} (hx : (k.decode x).isNaN = false) (hy : (k.decode y).isNaN = false) : (k.format.order x y == some .eq) = decide (iv k.format x = iv k.format y) := by
  rw [order_iv _ (okf k) hx hy]
  rcases Int.lt_trichotomy (iv k.format x) (iv k.format y) with h | h | h
  · rw [Int.compare_eq_lt.2 h]
    have : ¬ iv k.format x = iv k.format y := by omega
    simp [this]
  · rw [Int.compare_eq_eq.2 h, h]; simp
  · rw [Int.compare_eq_gt.2 h]
    have : ¬ iv k.format x = iv k.format y := by omega
    simp [this]

theorem le_iv {k : FloatKind} {x y : Nat} (hx : (k.decode x).isNaN = false) (hy : (k.decode y).isNaN = false) : (k.format.order x y == some .lt || k.format.order x y == some .eq) = decide (iv k.format x ≤ iv k.format y) := by
  rw [lt_iv hx hy, eq_iv hx hy]
  by_cases h1 : iv k.format x < iv k.format y
  · have : iv k.format x ≤ iv k.format y := by omega
    simp [h1, this]
  · by_cases h2 : iv k.format x = iv k.format y
    · simp [h2]
    · have : ¬ iv k.format x ≤ iv k.format y := by omega
      simp [h1, h2, this]

theorem xor_two_pow {n r : Nat} (hr : r < 2 ^ n) : (2 ^ n + r) ^^^ 2 ^ n = r ∧ r ^^^ 2 ^ n = 2 ^ n + r := by
  have key : r ^^^ 2 ^ n = 2 ^ n + r := by
    apply Nat.eq_of_testBit_eq
    intro j
    rw [Nat.testBit_xor, Nat.testBit_two_pow]
    rcases Nat.lt_trichotomy j n with h | h | h
    · rw [Nat.testBit_two_pow_add_gt h]
      simp [show ¬ n = j by omega]
    · subst h
      rw [Nat.testBit_two_pow_add_eq]
      simp
    · have h1 : r.testBit j = false := Nat.testBit_lt_two_pow (Nat.lt_of_lt_of_le hr (Nat.pow_le_pow_right (by decide) (by omega)))
      have h2 : (2 ^ n + r).testBit j = false := Nat.testBit_lt_two_pow (by
        have : 2 ^ (n + 1) ≤ 2 ^ j := Nat.pow_le_pow_right (by decide) (by omega)
        rw [Nat.pow_succ] at this
        omega)
      rw [h1, h2]
      simp [show ¬ n = j by omega]
  refine ⟨?_, key⟩
  rw [← key, Nat.xor_assoc, Nat.xor_self, Nat.xor_zero]

/-- The opposite turns the sign alone. -/
theorem negFloat_word (k : FloatKind) {b : Nat} (hb : b < 2 ^ k.format.width) : Op.negFloat k b = k.format.word (!sg k.format b) (rg k.format b) := by
  have hw := word_sg_rg k.format hb
  have hr := rg_lt k.format b
  unfold Op.negFloat
  change b ^^^ k.format.signWeight = _
  conv => lhs; rw [← hw]
  obtain ⟨h1, h2⟩ := xor_two_pow hr
  change (k.format.signWeight + rg k.format b) ^^^ k.format.signWeight = rg k.format b at h1
  change rg k.format b ^^^ k.format.signWeight = k.format.signWeight + rg k.format b at h2
  unfold Ieee.Format.word
  cases sg k.format b
  · simpa using h2
  · simpa using h1
end Go.Fl
