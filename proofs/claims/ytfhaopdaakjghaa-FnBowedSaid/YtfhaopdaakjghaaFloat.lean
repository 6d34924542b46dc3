import Derived.Laws.FloatArith
import Derived.Deep.Draws
import Derived.WalkKit
namespace Go.Fl
open Go

/-! ### Rungs and what they are worth, in units of the least place -/
section
variable (f : Ieee.Format)

theorem binade_pos : 0 < f.binade := Nat.two_pow_pos _

/-- What rung r is worth, in units of 2 ^ leastPlace. -/
def V (r : Nat) : Nat := if r < f.binade then r else (f.binade + r % f.binade) * 2 ^ (r / f.binade - 1)

theorem V_ek {e k : Nat} (h : e = 0 ∨ f.binade ≤ k) (hk : k ≤ 2 * f.binade) : V f (e * f.binade + k) = k * 2 ^ e := by
  have hB := binade_pos f
  unfold V
  by_cases h1 : k < f.binade
  · have he : e = 0 := by omega
    subst he
    simp [h1]
  · by_cases h2 : k < 2 * f.binade
    · obtain ⟨j, rfl⟩ : ∃ j, k = f.binade + j := ⟨k - f.binade, by omega⟩
      have hj : j < f.binade := by omega
      have e1 : e * f.binade + (f.binade + j) = f.binade * (e + 1) + j := by rw [Nat.mul_comm f.binade, Nat.add_mul]; omega
      rw [e1, if_neg (by rw [Nat.mul_add]; omega), Nat.mul_add_mod, Nat.mod_eq_of_lt hj, Nat.mul_add_div hB, Nat.div_eq_of_lt hj]
      simp
    · have hk2 : k = 2 * f.binade := by omega
      subst hk2
      have e1 : e * f.binade + 2 * f.binade = f.binade * (e + 2) := by rw [Nat.mul_comm f.binade, Nat.add_mul]
      rw [e1, if_neg (by rw [Nat.mul_add]; omega), Nat.mul_mod_right, Nat.mul_div_cancel_left _ hB]
      have : e + 2 - 1 = e + 1 := by omega
      rw [this, Nat.pow_succ, Nat.add_zero, Nat.mul_comm 2 f.binade, Nat.mul_assoc, Nat.mul_comm 2]

theorem rung_ek (r : Nat) : ∃ e k, r = e * f.binade + k ∧ (e = 0 ∨ f.binade ≤ k) ∧ k < 2 * f.binade := by
  have hB := binade_pos f
  by_cases h : r < f.binade
  · exact ⟨0, r, by omega, Or.inl rfl, by omega⟩
  · have hd : 1 ≤ r / f.binade := (Nat.one_le_div_iff hB).2 (by omega)
    have hm := Nat.mod_lt r hB
    refine ⟨r / f.binade - 1, f.binade + r % f.binade, ?_, Or.inr (by omega), by omega⟩
    have := Nat.div_add_mod r f.binade
    obtain ⟨q, hq⟩ : ∃ q, r / f.binade = q + 1 := ⟨r / f.binade - 1, by omega⟩
    rw [hq] at this ⊢
    rw [Nat.mul_add, Nat.mul_comm] at this
    simp only [Nat.add_sub_cancel]
    omega

theorem V_succ_lt (r : Nat) : V f r < V f (r + 1) := by
  obtain ⟨e, k, rfl, h, hk⟩ := rung_ek f r
  rw [V_ek f h (by omega), Nat.add_assoc, V_ek f (by omega) (by omega)]
  exact Nat.mul_lt_mul_of_pos_right (by omega) (Nat.two_pow_pos _)

theorem V_lt {r s : Nat} (h : r < s) : V f r < V f s := by
  induction s with
  | zero => omega
  | succ s ih =>
    by_cases e : r = s
    · subst e; exact V_succ_lt f r
    · exact Nat.lt_trans (ih (by omega)) (V_succ_lt f s)

theorem V_le {r s : Nat} (h : r ≤ s) : V f r ≤ V f s := by
  rcases Nat.lt_or_ge r s with h' | h'
  · exact Nat.le_of_lt (V_lt f h')
  · have : r = s := by omega
    rw [this]; exact Nat.le_refl _

theorem V_lt_iff {r s : Nat} : V f r < V f s ↔ r < s :=
  ⟨fun h => Nat.lt_of_not_le fun h' => Nat.lt_irrefl _ (Nat.lt_of_lt_of_le h (V_le f h')), V_lt f⟩

theorem V_inj {r s : Nat} (h : V f r = V f s) : r = s := by
  rcases Nat.lt_trichotomy r s with h' | h' | h'
  · have := V_lt f h'; omega
  · exact h'
  · have := V_lt f h'; omega

theorem V_zero : V f 0 = 0 := by simp [V, binade_pos f]

/-! ### Words: sign and rung -/
def sg (b : Nat) : Bool := b / f.signWeight % 2 == 1
def rg (b : Nat) : Nat := b % f.signWeight

theorem signWeight_pos : 0 < f.signWeight := Nat.two_pow_pos _
theorem rg_lt (b : Nat) : rg f b < f.signWeight := Nat.mod_lt _ (signWeight_pos f)
theorem two_signWeight : 2 ^ f.width = 2 * f.signWeight := by
  unfold Ieee.Format.width Ieee.Format.signWeight
  rw [Nat.add_assoc, Nat.add_comm 1, Nat.pow_succ, Nat.mul_comm]

theorem sg_word {neg : Bool} {r : Nat} (h : r < f.signWeight) : sg f (f.word neg r) = neg := by
  have hs := signWeight_pos f
  unfold sg Ieee.Format.word
  cases neg
  · rw [if_neg (by simp), Nat.div_eq_of_lt h]; rfl
  · rw [if_pos rfl, Nat.add_comm, Nat.add_div_right _ hs, Nat.div_eq_of_lt h]; rfl

theorem rg_word {neg : Bool} {r : Nat} (h : r < f.signWeight) : rg f (f.word neg r) = r := by
  unfold rg Ieee.Format.word
  split
  · rw [Nat.add_mod_left, Nat.mod_eq_of_lt h]
  · rw [Nat.mod_eq_of_lt h]

theorem word_sg_rg {b : Nat} (h : b < 2 ^ f.width) : f.word (sg f b) (rg f b) = b := by
  rw [two_signWeight] at h
  unfold Ieee.Format.word sg rg
  by_cases h1 : b < f.signWeight
  · rw [Nat.div_eq_of_lt h1, Nat.mod_eq_of_lt h1]; rfl
  · obtain ⟨c, rfl⟩ : ∃ c, b = f.signWeight + c := ⟨b - f.signWeight, by omega⟩
    have hc : c < f.signWeight := by omega
    rw [Nat.add_mod_left, Nat.mod_eq_of_lt hc, Nat.add_comm, Nat.add_div_right _ (signWeight_pos f), Nat.div_eq_of_lt hc]
    simp

/-- What a word that is no NaN is worth, in units of the least place (an infinity: the next power of two). -/
def iv (b : Nat) : Int := if sg f b then -(V f (rg f b) : Int) else (V f (rg f b) : Int)

/-- What 'read' gives, by the rung. -/
theorem read_fin {b : Nat} (h : rg f b < f.infRung) :
    ∃ m e : Nat, f.read b = .number (sg f b) m (f.leastPlace + e) ∧ m * 2 ^ e = V f (rg f b) ∧ (e = 0 ∨ f.binade ≤ m) ∧ m < 2 * f.binade := by
  have hB := binade_pos f
  unfold Ieee.Format.read
  by_cases h1 : rg f b < f.binade
  · refine ⟨rg f b, 0, ?_, ?_, Or.inl rfl, by omega⟩
    · unfold rg at h1
      dsimp only
      rw [if_pos h1]
      simp [sg, rg]
    · unfold V; rw [if_pos h1]; simp
  · refine ⟨f.binade + rg f b % f.binade, rg f b / f.binade - 1, ?_, ?_, Or.inr (by omega), by have := Nat.mod_lt (rg f b) hB; omega⟩
    · unfold rg at h1 h
      dsimp only
      rw [if_neg h1, if_pos h]
      simp [sg, rg]
    · unfold V; rw [if_neg h1]

/-- More than one binade lies below infinity. -/
def Okf : Prop := f.binade < f.infRung

theorem okf (k : FloatKind) : Okf k.format := by cases k <;> unfold Okf <;> decide

theorem read_inf (hf : Okf f) {b : Nat} (h : rg f b = f.infRung) : f.read b = .infinity (sg f b) := by
  unfold Ieee.Format.read
  unfold rg at h
  unfold Okf at hf
  dsimp only
  rw [if_neg (by omega), if_neg (by omega), if_pos h]
  simp [sg]

theorem read_nan (hf : Okf f) {b : Nat} (h : f.infRung < rg f b) : (f.read b).isNaN = true := by
  unfold Ieee.Format.read
  unfold rg at h
  unfold Okf at hf
  dsimp only
  rw [if_neg (by omega), if_neg (by omega), if_neg (by omega)]
  rfl

theorem isNaN_iff (hf : Okf f) (b : Nat) : (f.read b).isNaN = true ↔ f.infRung < rg f b := by
  rcases Nat.lt_trichotomy (rg f b) f.infRung with h | h | h
  · obtain ⟨m, e, hr, _⟩ := read_fin f h
    rw [hr]; constructor
    · intro h'; cases h'
    · omega
  · rw [read_inf f hf h]; constructor
    · intro h'; cases h'
    · omega
  · exact ⟨fun _ => h, fun _ => read_nan f hf h⟩

/-! ### The order of words -/
theorem signed_iv (neg : Bool) (m e : Nat) : Ieee.signed neg m e = (if neg then -((m * 2 ^ e : Nat) : Int) else ((m * 2 ^ e : Nat) : Int)) := by
  unfold Ieee.signed
  rw [Nat.shiftLeft_eq]

theorem signed_scale (neg : Bool) (m a b : Nat) : Ieee.signed neg m (a + b) = Ieee.signed neg m a * 2 ^ b := by
  rw [signed_iv, signed_iv, Nat.pow_add, ← Nat.mul_assoc]
  cases neg <;> simp [Int.neg_mul]

theorem compare_scale (x y : Int) (b : Nat) : compare (x * 2 ^ b) (y * 2 ^ b) = compare x y := by
  have hp : (0 : Int) < 2 ^ b := Int.pow_pos (by decide)
  rcases Int.lt_trichotomy x y with h | h | h
  · rw [(Int.compare_eq_lt).2 h, Int.compare_eq_lt]; exact Int.mul_lt_mul_of_pos_right h hp
  · subst h; simp
  · rw [(Int.compare_eq_gt).2 h, Int.compare_eq_gt]; exact Int.mul_lt_mul_of_pos_right h hp

theorem order_iv (hf : Okf f) {x y : Nat} (hx : (f.read x).isNaN = false) (hy : (f.read y).isNaN = false) : f.order x y = some (compare (iv f x) (iv f y)) := by
  have hx' : rg f x ≤ f.infRung := Nat.not_lt.1 fun h => by rw [read_nan f hf h] at hx; cases hx
  have hy' : rg f y ≤ f.infRung := Nat.not_lt.1 fun h => by rw [read_nan f hf h] at hy; cases hy
  have hI : 0 < V f f.infRung := by have := V_lt f (show 0 < f.infRung by unfold Okf at hf; omega); omega
  unfold Ieee.Format.order iv
  rcases Nat.lt_or_eq_of_le hx' with h1 | h1 <;> rcases Nat.lt_or_eq_of_le hy' with h2 | h2
  · obtain ⟨m, i, hr, hv, _⟩ := read_fin f h1
    obtain ⟨n, j, hs, hw, _⟩ := read_fin f h2
    rw [hr, hs]
    simp only [Ieee.Datum.order]
    congr 1
    have e1 : (f.leastPlace + (i : Int) - min (f.leastPlace + (i : Int)) (f.leastPlace + (j : Int))).toNat = i - min i j := by omega
    have e2 : (f.leastPlace + (j : Int) - min (f.leastPlace + (i : Int)) (f.leastPlace + (j : Int))).toNat = j - min i j := by omega
    rw [e1, e2, ← compare_scale _ _ (min i j), ← signed_scale, ← signed_scale, signed_iv, signed_iv]
    have e3 : i - min i j + min i j = i := by omega
    have e4 : j - min i j + min i j = j := by omega
    rw [e3, e4, hv, hw]
  · obtain ⟨m, i, hr, hv, _⟩ := read_fin f h1
    have hl := V_lt f h1
    rw [hr, read_inf f hf h2, h2]
    simp only [Ieee.Datum.order]
    congr 1
    cases sg f y <;> cases sg f x <;> simp <;> symm <;> first | (rw [Int.compare_eq_lt]; omega) | (rw [Int.compare_eq_gt]; omega)
  · obtain ⟨n, j, hs, hw, _⟩ := read_fin f h2
    have hl := V_lt f h2
    rw [hs, read_inf f hf h1, h1]
    simp only [Ieee.Datum.order]
    congr 1
    cases sg f y <;> cases sg f x <;> simp <;> symm <;> first | (rw [Int.compare_eq_lt]; omega) | (rw [Int.compare_eq_gt]; omega)
  · rw [read_inf f hf h1, read_inf f hf h2, h1, h2]
    simp only [Ieee.Datum.order]
    congr 1
    have g1 : compare (0 : Nat) 1 = .lt := rfl
    have g2 : compare (1 : Nat) 0 = .gt := rfl
    cases sg f y <;> cases sg f x <;> simp [g1, g2] <;> symm <;> first | (rw [Int.compare_eq_lt]; omega) | (rw [Int.compare_eq_gt]; omega)

/-! ### Rounding -/
/-- The rung to which 'nearest' rounds, before it is cut at infinity. -/
def rung (mag : Nat) (place : Int) : Nat :=
  let last := max (place + mag.log2 - f.fractionBits) f.leastPlace
  (last - f.leastPlace).toNat * f.binade + Ieee.Toward.even.cut false (mag <<< (place - last).toNat) (last - place).toNat

theorem cut_even_neg (neg : Bool) (n d : Nat) : Ieee.Toward.even.cut neg n d = Ieee.Toward.even.cut false n d := rfl

theorem nearest_rung (neg : Bool) {mag : Nat} (h : mag ≠ 0) (place : Int) : f.nearest neg mag place = f.word neg (min (rung f mag place) f.infRung) := by
  unfold Ieee.Format.nearest rung
  dsimp only
  rw [if_neg h]
  rfl

theorem log2_eq {n k : Nat} (h1 : 2 ^ k ≤ n) (h2 : n < 2 ^ (k + 1)) : n.log2 = k := by
  have hn : n ≠ 0 := by have := Nat.two_pow_pos k; omega
  have a1 := (Nat.le_log2 hn).2 h1
  have a2 := (Nat.log2_lt hn).2 h2
  omega

/-- What is exactly so many units is cut exactly. -/
theorem cut_exact (way : Ieee.Toward) (neg : Bool) {k d : Nat} (hk : k ≠ 0) : way.cut neg (k * 2 ^ d) d = k := by
  have hp := Nat.two_pow_pos d
  have hle : 2 ^ d ≤ k * 2 ^ d := Nat.le_mul_of_pos_left _ (by omega)
  have hlog : d ≤ (k * 2 ^ d).log2 := (Nat.le_log2 (by omega)).2 hle
  unfold Ieee.Toward.cut
  dsimp only
  rw [Nat.min_eq_left (by omega), Nat.shiftLeft_eq, Nat.one_mul, Nat.mul_mod_left, Nat.mul_div_cancel _ hp]
  cases way <;> simp <;> omega

/-- A number that the format has is not turned by rounding. -/
theorem rung_exact {e k mag : Nat} {place : Int} (h : e = 0 ∨ f.binade ≤ k) (hk : k < 2 * f.binade) (h0 : k ≠ 0)
    (hm : ∃ i j : Nat, mag * 2 ^ i = k * 2 ^ j ∧ place - i = f.leastPlace + e - j) : rung f mag place = e * f.binade + k := by
  obtain ⟨i, j, hij, hp⟩ := hm
  have hmag : mag ≠ 0 := by
    rintro rfl
    have : 0 < k * 2 ^ j := Nat.mul_pos (by omega) (Nat.two_pow_pos _)
    omega
  have hlog : mag.log2 + i = k.log2 + j := by
    have a1 : (mag * 2 ^ i).log2 = mag.log2 + i := by
      apply log2_eq
      · rw [Nat.pow_add]; exact Nat.mul_le_mul_right _ (Nat.log2_self_le hmag)
      · rw [show mag.log2 + i + 1 = (mag.log2 + 1) + i by omega, Nat.pow_add]
        exact Nat.mul_lt_mul_of_pos_right Nat.lt_log2_self (Nat.two_pow_pos _)
    have a2 : (k * 2 ^ j).log2 = k.log2 + j := by
      apply log2_eq
      · rw [Nat.pow_add]; exact Nat.mul_le_mul_right _ (Nat.log2_self_le h0)
      · rw [show k.log2 + j + 1 = (k.log2 + 1) + j by omega, Nat.pow_add]
        exact Nat.mul_lt_mul_of_pos_right Nat.lt_log2_self (Nat.two_pow_pos _)
    rw [← a1, ← a2, hij]
  have hkl : k.log2 ≤ f.fractionBits := by
    have : k < 2 ^ (f.fractionBits + 1) := by rw [Nat.pow_succ, Nat.mul_comm]; exact hk
    have := (Nat.log2_lt h0).2 this
    omega
  have hke : e = 0 ∨ k.log2 = f.fractionBits := by
    rcases h with h | h
    · exact Or.inl h
    · right
      have := (Nat.le_log2 h0).2 h
      omega
  have hlast : max (place + mag.log2 - f.fractionBits) f.leastPlace = f.leastPlace + e := by omega
  unfold rung
  dsimp only
  rw [hlast]
  have e1 : (f.leastPlace + (e : Int) - f.leastPlace).toNat = e := by omega
  rw [e1]
  congr 1
  rw [Nat.shiftLeft_eq]
  by_cases hpl : f.leastPlace + e ≤ place
  · have e2 : (f.leastPlace + (e : Int) - place).toNat = 0 := by omega
    have hj : i ≤ j + (place - (f.leastPlace + e)).toNat := by omega
    have hi : i = j + (place - (f.leastPlace + e)).toNat := by omega
    rw [e2]
    have : mag * 2 ^ (place - (f.leastPlace + (e : Int))).toNat = k := by
      rw [hi, Nat.pow_add, Nat.mul_comm (2 ^ j), ← Nat.mul_assoc] at hij
      exact Nat.eq_of_mul_eq_mul_right (Nat.two_pow_pos j) hij
    rw [this]
    have := cut_exact .even false (k := k) (d := 0) h0
    simpa using this
  · have e2 : (place - (f.leastPlace + (e : Int))).toNat = 0 := by omega
    have hj : j = i + (f.leastPlace + (e : Int) - place).toNat := by omega
    rw [e2]
    have : mag = k * 2 ^ (f.leastPlace + (e : Int) - place).toNat := by
      rw [hj, Nat.pow_add, Nat.mul_comm (2 ^ i), ← Nat.mul_assoc] at hij
      exact Nat.eq_of_mul_eq_mul_right (Nat.two_pow_pos i) hij
    rw [this]
    simp only [Nat.pow_zero, Nat.mul_one]
    exact cut_exact .even false h0

theorem sg_lt_word {b : Nat} (h : b < 2 ^ f.width) : b = f.word (sg f b) (rg f b) := (word_sg_rg f h).symm

/-- To write what was read gives the word again. -/
theorem write_read (hf : Okf f) {b : Nat} (h : b < 2 ^ f.width) (hn : (f.read b).isNaN = false) : f.write (f.read b) = b := by
  have hle : rg f b ≤ f.infRung := Nat.not_lt.1 fun h' => by rw [read_nan f hf h'] at hn; cases hn
  rcases Nat.lt_or_eq_of_le hle with h1 | h1
  · obtain ⟨m, e, hr, hv, he, hm⟩ := read_fin f h1
    rw [hr]
    show f.nearest _ _ _ = _
    by_cases h0 : m = 0
    · subst h0
      have : rg f b = 0 := V_inj f (by rw [V_zero, ← hv, Nat.zero_mul])
      unfold Ieee.Format.nearest
      rw [if_pos rfl]
      conv => rhs; rw [← word_sg_rg f h, this]
    · rw [nearest_rung f _ h0, rung_exact f he hm h0 ⟨0, 0, rfl, by omega⟩]
      have : e * f.binade + m = rg f b := V_inj f (by rw [V_ek f he (by omega), hv])
      rw [this, Nat.min_eq_left hle, word_sg_rg f h]
  · rw [read_inf f hf h1]
    show f.word _ _ = _
    rw [← h1, word_sg_rg f h]
end

/-! ### float32 in float64 -/
/-- How many places float64's least place lies below float32's. -/
def gap : Nat := 925

/-- A float32 is a float64: the same sign; its worth is the same, in the other's units. -/
theorem widen_word {b : Nat} (h : rg Ieee.single b < Ieee.single.infRung) :
    ∃ r, Ieee.double.write (Ieee.single.read b) = Ieee.double.word (sg Ieee.single b) r ∧ r < Ieee.double.infRung ∧ V Ieee.double r = V Ieee.single (rg Ieee.single b) * 2 ^ gap := by
  have hgap : gap = 925 := rfl
  obtain ⟨m, e, hr, hv, he, hm⟩ := read_fin Ieee.single h
  have hBs : Ieee.single.binade = 2 ^ 23 := rfl
  have hBd : Ieee.double.binade = 2 ^ 52 := rfl
  have hLs : Ieee.single.leastPlace = -149 := by decide
  have hLd : Ieee.double.leastPlace = -1074 := by decide
  have hId : Ieee.double.infRung = 2047 * 2 ^ 52 := rfl
  have hIs : Ieee.single.infRung = 255 * 2 ^ 23 := rfl
  have he' : e ≤ 253 := by
    rcases he with he | he
    · omega
    · have hrr : e * Ieee.single.binade + m = rg Ieee.single b := V_inj _ (by rw [V_ek _ (Or.inr he) (by omega), hv])
      rw [hBs] at hrr he
      rw [hIs] at h
      omega
  rw [hr]
  show ∃ r, Ieee.double.nearest _ _ _ = _ ∧ _
  by_cases h0 : m = 0
  · subst h0
    refine ⟨0, ?_, by rw [hId]; decide, ?_⟩
    · unfold Ieee.Format.nearest; rw [if_pos rfl]
    · rw [← hv, V_zero, Nat.zero_mul, Nat.zero_mul]
  · have hlog : m.log2 ≤ 23 := by
      have : m < 2 ^ 24 := by rw [hBs] at hm; omega
      have := (Nat.log2_lt h0).2 this
      omega
    have hk1 : 2 ^ 52 ≤ m * 2 ^ (52 - m.log2) := by
      have := Nat.mul_le_mul_right (2 ^ (52 - m.log2)) (Nat.log2_self_le h0)
      rw [← Nat.pow_add, show m.log2 + (52 - m.log2) = 52 by omega] at this
      exact this
    have hk2 : m * 2 ^ (52 - m.log2) < 2 * 2 ^ 52 := by
      have := Nat.mul_lt_mul_of_pos_right (k := 2 ^ (52 - m.log2)) (Nat.lt_log2_self (n := m)) (Nat.two_pow_pos _)
      rw [← Nat.pow_add, show m.log2 + 1 + (52 - m.log2) = 53 by omega] at this
      exact this
    have hx := rung_exact Ieee.double (e := e + 925 - (52 - m.log2)) (k := m * 2 ^ (52 - m.log2)) (mag := m) (place := Ieee.single.leastPlace + e)
      (Or.inr (by rw [hBd]; exact hk1)) (by rw [hBd]; exact hk2) (by omega) ⟨52 - m.log2, 0, by simp, by rw [hLs, hLd]; omega⟩
    have hlt : (e + 925 - (52 - m.log2)) * Ieee.double.binade + m * 2 ^ (52 - m.log2) < Ieee.double.infRung := by
      rw [hBd, hId]
      have : e + 925 - (52 - m.log2) ≤ 1178 := by omega
      have := Nat.mul_le_mul_right (2 ^ 52) this
      omega
    refine ⟨_, ?_, hlt, ?_⟩
    · rw [nearest_rung _ _ h0, hx, Nat.min_eq_left (Nat.le_of_lt hlt)]
    · rw [V_ek _ (Or.inr (by rw [hBd]; exact hk1)) (by rw [hBd]; omega), ← hv, Nat.mul_assoc, ← Nat.pow_add, Nat.mul_assoc, ← Nat.pow_add]
      congr 2
      omega
/-- What a word stands for, all NaNs taken as one. -/
def cl (k : FloatKind) (b : Nat) : Option Nat := if (k.decode b).isNaN then none else some b

/-- The word b of kind k stands for p. -/
def FV (k : FloatKind) (p : Option Nat) (b : Nat) : Prop := cl k b = p ∧ b < 2 ^ k.format.width

theorem FV.of_lt {k : FloatKind} {b : Nat} (h : b < 2 ^ k.format.width) : FV k (cl k b) b := ⟨rfl, h⟩

/-- '+', '-', '*', '/' of what words stand for. -/
def fop (op : BinOp) (k : FloatKind) (x y : Option Nat) : Option Nat :=
  x.bind fun a => y.bind fun b => floatBits op k a b

/-- How two stand to each other. -/
def ford (k : FloatKind) (x y : Option Nat) : Option Ordering :=
  x.bind fun a => y.bind fun b => k.format.order a b

theorem read_word_nan (f : Ieee.Format) (neg : Bool) {rung : Nat} (h : rung ≤ f.infRung) : (f.read (f.word neg rung)).isNaN = false := by
  have h1 := f.infRung_lt
  have hw : f.word neg rung % f.signWeight = rung := by
    unfold Ieee.Format.word
    split
    · rw [Nat.add_mod_left, Nat.mod_eq_of_lt (by omega)]
    · rw [Nat.mod_eq_of_lt (by omega)]
  unfold Ieee.Format.read
  dsimp only
  rw [hw]
  split
  · rfl
  · split
    · rfl
    · split
      · rfl
      · omega

theorem nearest_not_nan (f : Ieee.Format) (neg : Bool) (mag : Nat) (place : Int) : (f.read (f.nearest neg mag place)).isNaN = false := by
  unfold Ieee.Format.nearest
  dsimp only
  split
  · exact read_word_nan f neg (Nat.zero_le _)
  · exact read_word_nan f neg (Nat.min_le_right ..)

theorem write_not_nan (f : Ieee.Format) {d : Ieee.Datum} (h : d.isNaN = false) : (f.read (f.write d)).isNaN = false := by
  cases d with
  | number neg mag place => exact nearest_not_nan f neg mag place
  | infinity neg => exact read_word_nan f neg (Nat.le_refl _)
  | nan neg fraction => cases h

theorem sum_not_nan {x y d : Ieee.Datum} (h : x.sum y = some d) : d.isNaN = false := by
  cases x <;> cases y <;> simp only [Ieee.Datum.sum] at h <;> (try split at h) <;> cases h <;> rfl

theorem product_not_nan {x y d : Ieee.Datum} (h : x.product y = some d) : d.isNaN = false := by
  cases x <;> cases y <;> simp only [Ieee.Datum.product] at h <;> (try split at h) <;> cases h <;> rfl

theorem quotient_not_nan {n : Nat} {x y d : Ieee.Datum} (h : x.quotient n y = some d) : d.isNaN = false := by
  cases x <;> cases y <;> simp only [Ieee.Datum.quotient] at h <;> (repeat' split at h) <;> cases h <;> rfl

theorem floatBits_not_nan {op : BinOp} {k : FloatKind} {x y r : Nat} (h : floatBits op k x y = some r) : (k.decode r).isNaN = false := by
  unfold floatBits at h
  split at h
  · obtain ⟨d, hd, rfl⟩ := Option.map_eq_some_iff.1 h
    exact write_not_nan _ (sum_not_nan hd)
  · obtain ⟨d, hd, rfl⟩ := Option.map_eq_some_iff.1 h
    exact write_not_nan _ (sum_not_nan hd)
  · obtain ⟨d, hd, rfl⟩ := Option.map_eq_some_iff.1 h
    exact write_not_nan _ (product_not_nan hd)
  · obtain ⟨d, hd, rfl⟩ := Option.map_eq_some_iff.1 h
    exact write_not_nan _ (quotient_not_nan hd)
  · cases h

theorem floatBits_nan_left {op : BinOp} {k : FloatKind} {x y : Nat} (h : (k.decode x).isNaN = true) : floatBits op k x y = none := by
  unfold FloatKind.decode at h
  unfold floatBits Ieee.Format.add Ieee.Format.sub Ieee.Format.mul Ieee.Format.div
  cases hx : k.format.read x <;> rw [hx] at h <;> cases h
  split <;> simp [Ieee.Datum.sum, Ieee.Datum.product, Ieee.Datum.quotient]

theorem floatBits_nan_right {op : BinOp} {k : FloatKind} {x y : Nat} (h : (k.decode y).isNaN = true) : floatBits op k x y = none := by
  unfold FloatKind.decode at h
  unfold floatBits Ieee.Format.add Ieee.Format.sub Ieee.Format.mul Ieee.Format.div
  cases hy : k.format.read y <;> rw [hy] at h <;> cases h
  cases hx : k.format.read x <;> split <;> simp [Ieee.Datum.sum, Ieee.Datum.product, Ieee.Datum.quotient, Ieee.Datum.opposite]

/-- An operation on words is that on what they stand for. -/
theorem fop_cl (op : BinOp) (k : FloatKind) (x y : Nat) : fop op k (cl k x) (cl k y) = floatBits op k x y := by
  unfold fop cl
  by_cases hx : (k.decode x).isNaN = true
  · rw [if_pos hx, floatBits_nan_left hx]; rfl
  · rw [if_neg hx]
    by_cases hy : (k.decode y).isNaN = true
    · rw [if_pos hy, floatBits_nan_right hy]; rfl
    · rw [if_neg hy]; rfl

theorem order_nan_left {k : FloatKind} {x y : Nat} (h : (k.decode x).isNaN = true) : k.format.order x y = none := by
  unfold FloatKind.decode at h
  unfold Ieee.Format.order
  cases hx : k.format.read x <;> rw [hx] at h <;> cases h
  rfl

theorem order_nan_right {k : FloatKind} {x y : Nat} (h : (k.decode y).isNaN = true) : k.format.order x y = none := by
  unfold FloatKind.decode at h
  unfold Ieee.Format.order
  cases hy : k.format.read y <;> rw [hy] at h <;> cases h
  cases hx : k.format.read x <;> rfl

theorem ford_cl (k : FloatKind) (x y : Nat) : ford k (cl k x) (cl k y) = k.format.order x y := by
  unfold ford cl
  by_cases hx : (k.decode x).isNaN = true
  · rw [if_pos hx, order_nan_left hx]; rfl
  · rw [if_neg hx]
    by_cases hy : (k.decode y).isNaN = true
    · rw [if_pos hy, order_nan_right hy]; rfl
    · rw [if_neg hy]; rfl

/-- A NaN that the machine draws is one, and a word of its kind. -/
theorem nan_cut_f64 (t : Nat) : FV .f64 none ((t % 2) * 2 ^ 63 + 0x7ff0000000000000 + 1 + (t / 2) % (2 ^ 52 - 1)) := by
  have h1 : t % 2 < 2 := Nat.mod_lt _ (by decide)
  have h2 : (t / 2) % (2 ^ 52 - 1) < 2 ^ 52 - 1 := Nat.mod_lt _ (by decide)
  generalize t % 2 = s at *
  generalize (t / 2) % (2 ^ 52 - 1) = u at *
  have hs : s = 0 ∨ s = 1 := by omega
  have hrd : (FloatKind.f64.decode (s * 2 ^ 63 + 0x7ff0000000000000 + 1 + u)).isNaN = true := by
    unfold FloatKind.decode FloatKind.format Ieee.Format.read
    have hsw : Ieee.double.signWeight = 9223372036854775808 := by decide
    have hbi : Ieee.double.binade = 4503599627370496 := by decide
    have hir : Ieee.double.infRung = 9218868437227405312 := by decide
    dsimp only
    rw [hsw, hbi, hir]
    have hm : (s * 2 ^ 63 + 0x7ff0000000000000 + 1 + u) % 9223372036854775808 = 9218868437227405313 + u := by
      rcases hs with rfl | rfl <;> omega
    rw [hm, if_neg (by omega), if_neg (by omega), if_neg (by omega)]
    rfl
  refine ⟨by unfold cl; rw [if_pos hrd], ?_⟩
  show _ < 2 ^ 64
  omega

theorem nan_cut_f32 (t : Nat) : FV .f32 none ((t % 2) * 2 ^ 31 + 0x7f800000 + 1 + (t / 2) % (2 ^ 23 - 1)) := by
  have h1 : t % 2 < 2 := Nat.mod_lt _ (by decide)
  have h2 : (t / 2) % (2 ^ 23 - 1) < 2 ^ 23 - 1 := Nat.mod_lt _ (by decide)
  generalize t % 2 = s at *
  generalize (t / 2) % (2 ^ 23 - 1) = u at *
  have hs : s = 0 ∨ s = 1 := by omega
  have hrd : (FloatKind.f32.decode (s * 2 ^ 31 + 0x7f800000 + 1 + u)).isNaN = true := by
    unfold FloatKind.decode FloatKind.format Ieee.Format.read
    have hsw : Ieee.single.signWeight = 2147483648 := by decide
    have hbi : Ieee.single.binade = 8388608 := by decide
    have hir : Ieee.single.infRung = 2139095040 := by decide
    dsimp only
    rw [hsw, hbi, hir]
    have hm : (s * 2 ^ 31 + 0x7f800000 + 1 + u) % 2147483648 = 2139095041 + u := by
      rcases hs with rfl | rfl <;> omega
    rw [hm, if_neg (by omega), if_neg (by omega), if_neg (by omega)]
    rfl
  refine ⟨by unfold cl; rw [if_pos hrd], ?_⟩
  show _ < 2 ^ 32
  omega

theorem FV.of_op {op : BinOp} {k : FloatKind} {x y r : Nat} (h : floatBits op k x y = some r) : FV k (some r) r :=
  ⟨by unfold cl; rw [floatBits_not_nan h]; rfl, by
    have := floatBits_wf h
    cases k
    · show r < 2 ^ 32
      simpa [Lit.wf] using this
    · show r < 2 ^ 64
      simpa [Lit.wf] using this⟩

section
variable {P : Program} (w : World)

/-- An arithmetic operation on floats comes to a word that stands for the operation's result, behind some draws. -/
theorem run_fop (op : BinOp) (hop : op = .add ∨ op = .sub ∨ op = .mul ∨ op = .quo) (t : TypeId) (k : FloatKind) (x y : Nat) :
    ∃ r n, (binOp op t (.float k x) (.float k y)).run P w = .ok (.float k r) (w.drewN n) ∧ FV k (fop op k (cl k x) (cl k y)) r := by
  rw [fop_cl]
  cases h : floatBits op k x y with
  | some r => exact ⟨r, 0, run_float_arith w op t k x y r h, FV.of_op h⟩
  | none =>
    cases k with
    | f64 =>
      refine ⟨_, 1, ?_, nan_cut_f64 (w.tape w.drawn (.nanBits .f64 x y))⟩
      unfold floatBits at h
      rcases hop with rfl | rfl | rfl | rfl <;> simp only at h <;>
        simp [binOp, Op.floatArith, h, Question.forced, Question.cut, World.drewN]
    | f32 =>
      refine ⟨_, 1, ?_, nan_cut_f32 (w.tape w.drawn (.nanBits .f32 x y))⟩
      unfold floatBits at h
      rcases hop with rfl | rfl | rfl | rfl <;> simp only at h <;>
        simp [binOp, Op.floatArith, h, Question.forced, Question.cut, World.drewN]
end
section
variable {P : Program} (w : World) {o : Oper} {a : Act} {K : Act → World → Prop} {Q : Exit → Act → World → Prop}

/-- Where an operation's run comes to some value, whatever it is. -/
theorem upon_run {m : Sem Value} {R : Value → World → Prop} (h : ∃ v w', m.run P w = .ok v w' ∧ R v w') (hK : ∀ v w', R v w' → K (a.put o.dst v) w') :
    Oper.upon P o a K Q ((m.run P w).andThen fun v w' => .ok (.value v) w') := by
  obtain ⟨v, w', hr, hR⟩ := h
  rw [hr]
  exact hK v w' hR

/-- Float arithmetic in a walk: whatever word it comes to, it stands for the operation's result. -/
theorem upon_flop {op : BinOp} {t : TypeId} {k : FloatKind} {X Y : Nat} (hf : op = .add ∨ op = .sub ∨ op = .mul ∨ op = .quo)
    {px py : Option Nat} (h1 : FV k px X) (h2 : FV k py Y)
    (hK : ∀ r n, FV k (fop op k px py) r → K (a.put o.dst (.float k r)) (w.drewN n)) :
    Oper.upon P o a K Q (((binOp op t (.float k X) (.float k Y)).run P w).andThen fun v w' => .ok (.value v) w') := by
  obtain ⟨r, n, hrun, hv⟩ := run_fop (P := P) w op hf t k X Y
  rw [h1.1, h2.1] at hv
  rw [hrun]
  exact hK r n hv

/-- What a float of one kind is in the other (of float64 to float32: where it does not overflow). -/
def fconv (src dst : FloatKind) (p : Option Nat) : Option Nat := p.map fun b => dst.encode (src.decode b)

theorem run_underlying_some {t : TypeId} (h : (P.underlying t).isSome = true) : ∃ u, P.underlying t = some u := Option.isSome_iff_exists.1 h

/-- 'float64(x)', 'float32(x)' of the same kind: nothing turns. -/
theorem run_fconv_same (src dst : TypeId) (k : FloatKind) (b : Nat) (hs : (P.underlying src).isSome = true) (hd : P.underlying dst = some (.float k)) :
    (convert src dst (.float k b)).run P w = .ok (.float k b) w :=
  run_convert_float_float w src dst k k b b hs hd (by simp [floatToFloatBits])
end

/-! ### Conversions between the two kinds -/
section
variable {P : Program} (w : World)

theorem FV.not_nan {k : FloatKind} {b c : Nat} (h : FV k (some c) b) : c = b ∧ (k.decode b).isNaN = false := by
  have h1 := h.1
  unfold cl at h1
  split at h1
  · cases h1
  · rename_i hn; cases h1; exact ⟨rfl, by simpa using hn⟩

theorem FV.some_eq {k : FloatKind} {b c : Nat} (h : FV k (some c) b) : c = b := h.not_nan.1

theorem FV.nan {k : FloatKind} {b : Nat} (h : FV k none b) : (k.decode b).isNaN = true := by
  have h1 := h.1
  unfold cl at h1
  split at h1
  · assumption
  · cases h1

theorem FV.mk {k : FloatKind} {b : Nat} (hn : (k.decode b).isNaN = false) (h : b < 2 ^ k.format.width) : FV k (some b) b :=
  ⟨by unfold cl; rw [hn]; rfl, h⟩

theorem nan_conv (dst : FloatKind) (b t : Nat) : FV dst none ((Question.nanConv dst b).cut t) := by
  cases dst
  · exact nan_cut_f32 t
  · exact nan_cut_f64 t

theorem rg_le_of_not_nan {k : FloatKind} {b : Nat} (h : (k.decode b).isNaN = false) : rg k.format b ≤ k.format.infRung :=
  Nat.not_lt.1 fun h' => by rw [FloatKind.decode, read_nan _ (okf k) h'] at h; cases h

theorem write_wlt (k : FloatKind) (d : Ieee.Datum) : k.encode d < 2 ^ k.format.width := k.format.write_lt d

theorem widen_not_nan {b : Nat} (h : (FloatKind.f32.decode b).isNaN = false) : (FloatKind.f64.decode (FloatKind.f64.encode (FloatKind.f32.decode b))).isNaN = false :=
  write_not_nan _ h

/-- 'float64(x)' of a float32. -/
theorem run_widen (src dst : TypeId) {b : Nat} {p : Option Nat} (hs : (P.underlying src).isSome = true) (hd : P.underlying dst = some (.float .f64)) (h : FV .f32 p b) :
    ∃ r n, (convert src dst (.float .f32 b)).run P w = .ok (.float .f64 r) (w.drewN n) ∧ FV .f64 (fconv .f32 .f64 p) r := by
  cases p with
  | none =>
    have hn := h.nan
    obtain ⟨u, hs'⟩ := run_underlying_some hs
    cases hd' : FloatKind.f32.decode b with
    | nan s t =>
      refine ⟨_, 1, ?_, nan_conv .f64 b (w.tape w.drawn (.nanConv .f64 b))⟩
      cases u <;> simp [convert, run_underlying hs', run_underlying hd, Conv.floatToFloat, hd', Question.forced, World.drewN]
    | _ => rw [hd'] at hn; cases hn
  | some c =>
    obtain ⟨rfl, hn⟩ := h.not_nan
    refine ⟨_, 0, run_convert_float_float w src dst .f32 .f64 c (FloatKind.f64.encode (FloatKind.f32.decode c)) hs hd ?_, FV.mk (widen_not_nan hn) (write_wlt ..)⟩
    unfold floatToFloatBits
    rw [if_neg (by decide)]
    cases hd' : FloatKind.f32.decode c with
    | nan s t => rw [hd'] at hn; cases hn
    | infinity s => rfl
    | number s m e =>
      have hle := rg_le_of_not_nan hn
      rcases Nat.lt_or_eq_of_le hle with h1 | h1
      · obtain ⟨r, hw, hr, _⟩ := widen_word h1
        have hw' : FloatKind.f64.encode (.number s m e) = Ieee.double.word (sg Ieee.single c) r := by rw [← hd']; exact hw
        have hsw := Ieee.Format.infRung_lt Ieee.double
        obtain ⟨m', e', hrd, _⟩ := read_fin Ieee.double (b := Ieee.double.word (sg Ieee.single c) r) (by rw [rg_word _ (by omega)]; exact hr)
        have : (FloatKind.f64.decode (FloatKind.f64.encode (.number s m e))).isInfinity = false := by
          rw [hw']; unfold FloatKind.decode; rw [show FloatKind.f64.format = Ieee.double from rfl, hrd]; rfl
        simp [this]
      · have := read_inf _ (okf .f32) h1
        rw [FloatKind.decode, this] at hd'
        cases hd'

variable {o : Oper} {a : Act} {K : Act → World → Prop} {Q : Exit → Act → World → Prop}
theorem upon_widen {src dst : TypeId} {b : Nat} {p : Option Nat} (hs : (P.underlying src).isSome = true) (hd : P.underlying dst = some (.float .f64)) (h : FV .f32 p b)
    (hK : ∀ r n, FV .f64 (fconv .f32 .f64 p) r → K (a.put o.dst (.float .f64 r)) (w.drewN n)) :
    Oper.upon P o a K Q (((convert src dst (.float .f32 b)).run P w).andThen fun v w' => .ok (.value v) w') := by
  obtain ⟨r, n, hrun, hv⟩ := run_widen (P := P) w src dst hs hd h
  rw [hrun]
  exact hK r n hv

/-- What stands for the same is worth the same, word for word, but for NaNs. -/
theorem FV.eq_or_nan {k : FloatKind} {p : Option Nat} {x y : Nat} (hx : FV k p x) (hy : FV k p y) : x = y ∨ p = none := by
  cases p with
  | none => exact Or.inr rfl
  | some c => left; rw [← hx.some_eq, ← hy.some_eq]

theorem order_self {k : FloatKind} {x : Nat} (h : (k.decode x).isNaN = false) : k.format.order x x = some .eq := by
  rw [order_iv _ (okf k) h h, Int.compare_eq_eq.2 rfl]

theorem order_nan {k : FloatKind} {x : Nat} (h : FV k none x) (y : Nat) : k.format.order x y = none := order_nan_left h.nan
end
end Go.Fl
