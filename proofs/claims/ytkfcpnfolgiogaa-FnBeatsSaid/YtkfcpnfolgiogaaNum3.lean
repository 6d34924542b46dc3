import Derived.Test.YtkfcpnfolgiogaaNum2
namespace Go.Fl
open Go

/-- p is the finite number x. -/
def FQ (p : Option Nat) (x : Rat) : Prop := ∃ r, p = some r ∧ rg D64 r < D64.infRung ∧ r < 2 ^ 64 ∧ bv D64 r = x

/-- What is near x: within M's share. -/
def Near (p : Option Nat) (x M : Rat) : Prop := ∃ z, FQ p z ∧ Bd (z - x) (M * p2 (-51))

theorem signed_rat (s : Bool) (m k : Nat) : ((Ieee.signed s m k : Int) : Rat) = sv s * (m * ((2 ^ k : Nat) : Rat)) := by
  rw [signed_iv]
  unfold sv
  cases s
  · simp only [Bool.false_eq_true, if_false, Rat.intCast_natCast, Rat.natCast_mul]; grind
  · simp only [if_true, Rat.intCast_neg, Rat.intCast_natCast, Rat.natCast_mul]; grind

theorem sv_natAbs (t : Int) (s : Bool) : sv (if t = 0 then s else decide (t < 0)) * (t.natAbs : Rat) = (t : Rat) := by
  rcases Int.lt_trichotomy t 0 with h | h | h
  · have e : (if t = 0 then s else decide (t < 0)) = true := by rw [if_neg (by omega)]; simpa using h
    rw [e]
    obtain ⟨n, rfl⟩ : ∃ n : Nat, t = -(n : Int) := ⟨(-t).toNat, by omega⟩
    rw [Rat.intCast_neg, Rat.intCast_natCast, Int.natAbs_neg, Int.natAbs_natCast]
    unfold sv
    rw [if_pos rfl]
    grind
  · subst h
    have e : ((0 : Int).natAbs : Rat) = 0 := rfl
    rw [e]
    have : ((0 : Int) : Rat) = 0 := rfl
    rw [this]
    grind
  · have e : (if t = 0 then s else decide (t < 0)) = false := by rw [if_neg (by omega)]; simpa using (by omega : 0 ≤ t)
    rw [e]
    obtain ⟨n, rfl⟩ : ∃ n : Nat, t = (n : Int) := ⟨t.toNat, by omega⟩
    rw [Rat.intCast_natCast, Int.natAbs_natCast]
    unfold sv
    rw [if_neg (by decide)]
    grind

theorem err_le {M : Rat} (h : p2 (-900) ≤ M) : M * p2 (-53) + p2 (-1075) ≤ M * p2 (-52) := by
  have e1 : p2 (-52) = 2 * p2 (-53) := by
    rw [show (-52 : Int) = (-53) + 1 by decide]
    exact p2_succ _
  have h1 := Rat.mul_le_mul_of_nonneg_right h (Rat.le_of_lt (p2_pos (-53)))
  rw [← p2_add] at h1
  have h2 : p2 (-1075) ≤ p2 (-900 + -53) := p2_le (by decide)
  rw [e1]
  grind

theorem p52_le {M : Rat} (h : 0 ≤ M) : M * p2 (-52) ≤ M * p2 (-51) :=
  Rat.mul_le_mul_of_nonneg_left (p2_le (by decide)) h

/-- The value of a sum before rounding. -/
theorem sum_near {m n : Nat} {i j : Int} {s t : Bool} {M : Rat} (hB : Bd (sv s * (m * p2 i) + sv t * (n * p2 j)) M) (h1 : p2 (-900) ≤ M) (h2 : M ≤ p2 1000)
    (o : Option Nat)
    (ho : o = ((Ieee.Datum.number s m i).sum (Ieee.Datum.number t n j)).map D64.write) : Near o (sv s * (m * p2 i) + sv t * (n * p2 j)) M := by
  subst ho
  simp only [Ieee.Datum.sum, Option.map_some]
  generalize hbase : min i j = base
  obtain ⟨k, hk⟩ : ∃ k : Nat, i = base + k := ⟨(i - base).toNat, by omega⟩
  obtain ⟨l, hl⟩ : ∃ l : Nat, j = base + l := ⟨(j - base).toNat, by omega⟩
  have e1 : (i - base).toNat = k := by omega
  have e2 : (j - base).toNat = l := by omega
  rw [e1, e2]
  have hv : ((Ieee.signed s m k + Ieee.signed t n l : Int) : Rat) * p2 base = sv s * (m * p2 i) + sv t * (n * p2 j) := by
    rw [Rat.intCast_add, signed_rat, signed_rat, hk, hl, p2_add, p2_add, p2_nat, p2_nat]
    grind
  generalize Ieee.signed s m k + Ieee.signed t n l = T at *
  have hsv := sv_natAbs T (s && t)
  generalize hsg : (if T = 0 then s && t else decide (T < 0)) = sg at *
  have e : sv sg * ((T.natAbs : Nat) * p2 base) = (T : Rat) * p2 base := by rw [← hsv]; grind
  rw [← hv] at hB ⊢
  rw [← e] at hB ⊢
  obtain ⟨r, hr, hr1, hr2, hr3⟩ := near_num sg T.natAbs base hB h2
  exact ⟨_, ⟨r, by rw [← hr]; rfl, hr1, hr2, rfl⟩, hr3.mono (Rat.le_trans (err_le h1) (p52_le hB.nonneg))⟩

theorem fop_add_near {p q : Option Nat} {x y M : Rat} (hp : FQ p x) (hq : FQ q y) (hB : Bd (x + y) M) (h1 : p2 (-900) ≤ M) (h2 : M ≤ p2 1000) : Near (fop .add .f64 p q) (x + y) M := by
  obtain ⟨a, rfl, a1, a2, rfl⟩ := hp
  obtain ⟨b, rfl, b1, b2, rfl⟩ := hq
  obtain ⟨m, i, ha, hva⟩ := bv_read D64 a1
  obtain ⟨n, j, hb, hvb⟩ := bv_read D64 b1
  rw [hva, hvb] at hB ⊢
  have h : floatBits .add .f64 a b = ((Ieee.Datum.number (sg D64 a) m i).sum (Ieee.Datum.number (sg D64 b) n j)).map D64.write := by
    rw [← ha, ← hb]; rfl
  exact sum_near hB h1 h2 _ h

theorem fop_sub_near {p q : Option Nat} {x y M : Rat} (hp : FQ p x) (hq : FQ q y) (hB : Bd (x - y) M) (h1 : p2 (-900) ≤ M) (h2 : M ≤ p2 1000) : Near (fop .sub .f64 p q) (x - y) M := by
  obtain ⟨a, rfl, a1, a2, rfl⟩ := hp
  obtain ⟨b, rfl, b1, b2, rfl⟩ := hq
  obtain ⟨m, i, ha, hva⟩ := bv_read D64 a1
  obtain ⟨n, j, hb, hvb⟩ := bv_read D64 b1
  have hneg : bv D64 a - bv D64 b = sv (sg D64 a) * (m * p2 i) + sv (!sg D64 b) * (n * p2 j) := by
    rw [hva, hvb]
    unfold sv
    cases sg D64 b <;> simp only [Bool.not_true, Bool.not_false, if_true, if_false, Bool.false_eq_true] <;> grind
  rw [hneg] at hB ⊢
  have h : floatBits .sub .f64 a b = ((Ieee.Datum.number (sg D64 a) m i).sum (Ieee.Datum.number (!sg D64 b) n j)).map D64.write := by
    have : (Ieee.Datum.number (!sg D64 b) n j) = (D64.read b).opposite := by rw [hb]; rfl
    rw [← ha, this]; rfl
  exact sum_near hB h1 h2 _ h

theorem sv_xor (s t : Bool) : sv (s ^^ t) = sv s * sv t := by
  unfold sv
  cases s <;> cases t <;> simp <;> grind

theorem fop_mul_near {p q : Option Nat} {x y M : Rat} (hp : FQ p x) (hq : FQ q y) (hB : Bd (x * y) M) (h1 : p2 (-900) ≤ M) (h2 : M ≤ p2 1000) : Near (fop .mul .f64 p q) (x * y) M := by
  obtain ⟨a, rfl, a1, a2, rfl⟩ := hp
  obtain ⟨b, rfl, b1, b2, rfl⟩ := hq
  obtain ⟨m, i, ha, hva⟩ := bv_read D64 a1
  obtain ⟨n, j, hb, hvb⟩ := bv_read D64 b1
  have e : bv D64 a * bv D64 b = sv (sg D64 a ^^ sg D64 b) * ((m * n : Nat) * p2 (i + j)) := by
    rw [hva, hvb, sv_xor, p2_add, Rat.natCast_mul]
    grind
  rw [e] at hB ⊢
  have h : floatBits .mul .f64 a b = some (D64.nearest (sg D64 a ^^ sg D64 b) (m * n) (i + j)) := by
    have : floatBits .mul .f64 a b = ((D64.read a).product (D64.read b)).map D64.write := rfl
    rw [this, ha, hb]
    rfl
  obtain ⟨r, hr, hr1, hr2, hr3⟩ := near_num _ _ _ hB h2
  refine ⟨_, ⟨r, ?_, hr1, hr2, rfl⟩, hr3.mono (Rat.le_trans (err_le h1) (p52_le hB.nonneg))⟩
  show floatBits .mul .f64 a b = _
  rw [h, hr]

theorem sv_sq (t : Bool) : sv t * sv t = 1 := by
  unfold sv
  cases t
  · rw [if_neg (by decide)]; grind
  · rw [if_pos rfl]; grind

theorem mul_cancel {a b c : Rat} (h : a * c = b * c) (hc : 0 < c) : a = b :=
  Rat.le_antisymm (Rat.le_of_mul_le_mul_right (by rw [h]; exact Rat.le_refl) hc) (Rat.le_of_mul_le_mul_right (by rw [h]; exact Rat.le_refl) hc)

theorem quo_nat {m n : Nat} (hm : m ≠ 0) : 2 ^ 53 * n ≤ m * 2 ^ (54 + n.log2 - m.log2) := by
  have h1 : 2 ^ m.log2 ≤ m := Nat.log2_self_le hm
  have h2 : n < 2 ^ (n.log2 + 1) := Nat.lt_log2_self
  have h3 : 2 ^ m.log2 * 2 ^ (54 + n.log2 - m.log2) ≤ m * 2 ^ (54 + n.log2 - m.log2) := Nat.mul_le_mul_right _ h1
  rw [← Nat.pow_add] at h3
  have h4 : (2 : Nat) ^ (53 + (n.log2 + 1)) ≤ 2 ^ (m.log2 + (54 + n.log2 - m.log2)) := Nat.pow_le_pow_right (by decide) (by omega)
  rw [Nat.pow_add 2 53] at h4
  have h5 : 2 ^ 53 * n ≤ 2 ^ 53 * 2 ^ (n.log2 + 1) := Nat.mul_le_mul_left _ (Nat.le_of_lt h2)
  omega

/-- What the machine divides, before rounding, is near the quotient. -/
theorem quo_near {m n k : Nat} {i j : Int} {s t : Bool} {X M : Rat} (hk : k = 54 + n.log2 - m.log2) (hn : n ≠ 0) (hX : X * (sv t * (n * p2 j)) = sv s * (m * p2 i)) (hB : Bd X M) :
    Bd (sv (s ^^ t) * ((2 * (m * 2 ^ k / n) + (m * 2 ^ k % n != 0).toNat : Nat) * p2 (i - j - k - 1)) - X) (M * p2 (-54)) := by
  have hn0 : (0 : Rat) < n := Rat.natCast_pos.2 (by omega)
  have hM := hB.nonneg
  have hw0 := p2_pos (i - j - k - 1)
  have hi : p2 i = p2 j * (((2 ^ k : Nat) : Rat) * (2 * p2 (i - j - k - 1))) := by
    rw [← p2_succ, ← p2_nat, ← p2_add, ← p2_add]
    congr 1
    omega
  have hss : sv (s ^^ t) * sv (s ^^ t) = 1 := sv_sq _
  have htt : sv t * sv t = 1 := sv_sq _
  -- the quotient times n
  have hXn : sv (s ^^ t) * (X * n) = 2 * ((m * 2 ^ k : Nat) : Rat) * p2 (i - j - k - 1) := by
    have hj0 := p2_pos j
    have e : (sv (s ^^ t) * (X * n)) * p2 j = (2 * ((m * 2 ^ k : Nat) : Rat) * p2 (i - j - k - 1)) * p2 j := by
      rw [hi] at hX
      rw [sv_xor] at hss ⊢
      rw [Rat.natCast_mul]
      grind
    exact mul_cancel e hj0
  generalize hw : p2 (i - j - k - 1) = w at *
  generalize hT : sv (s ^^ t) = T at *
  have hdm := Nat.div_add_mod (m * 2 ^ k) n
  have hml := Nat.mod_lt (m * 2 ^ k) (Nat.pos_of_ne_zero hn)
  by_cases hm : m = 0
  · subst hm
    rw [Nat.zero_mul, Nat.zero_div, Nat.zero_mod]
    have z : ((2 * 0 + ((0 : Nat) != 0).toNat : Nat) : Rat) = 0 := rfl
    rw [Nat.zero_mul] at hXn
    have z2 : ((0 : Nat) : Rat) = 0 := rfl
    rw [z2] at hXn
    have hX0 : X = 0 := by
      have : X * n = 0 := by grind
      rcases Rat.mul_eq_zero.1 this with h | h
      · exact h
      · rw [h] at hn0; exact absurd hn0 Rat.lt_irrefl
    rw [z, hX0]
    have := Rat.mul_nonneg hM (Rat.le_of_lt (p2_pos (-54)))
    constructor <;> grind
  · have hq := quo_nat (n := n) hm
    rw [← hk] at hq
    generalize m * 2 ^ k = D at *
    have hq' := Rat.natCast_le_natCast.2 hq
    rw [Rat.natCast_mul] at hq'
    have hc : ((2 ^ 53 : Nat) : Rat) = p2 53 := (p2_nat 53).symm
    rw [hc] at hq'
    -- how far it is off, times n
    generalize hZ : 2 * (D / n) + (D % n != 0).toNat = Z
    have hZ1 : Z * n ≤ 2 * D + n ∧ 2 * D ≤ Z * n + n := by
      subst hZ
      rw [Nat.add_mul]
      have e : 2 * (D / n) * n = 2 * (n * (D / n)) := by rw [Nat.mul_assoc, Nat.mul_comm (D / n)]
      rw [e]
      by_cases h0 : D % n = 0
      · have : (D % n != 0).toNat = 0 := by simp [h0]
        rw [this]
        omega
      · have : (D % n != 0).toNat = 1 := by simp [h0]
        rw [this]
        omega
    have z1 := Rat.natCast_le_natCast.2 hZ1.1
    have z2 := Rat.natCast_le_natCast.2 hZ1.2
    simp only [Rat.natCast_add, Rat.natCast_mul, Rat.natCast_ofNat] at z1 z2
    have y1 := Rat.mul_le_mul_of_nonneg_right z1 (Rat.le_of_lt hw0)
    have y2 := Rat.mul_le_mul_of_nonneg_right z2 (Rat.le_of_lt hw0)
    -- the unit is little
    have hwM : w ≤ M * p2 (-54) := by
      have b1 : T * (X * n) ≤ M * n := by
        have hTX : Bd (T * X) M := by rw [← hT]; exact hB.sv _
        have := Rat.mul_le_mul_of_nonneg_right hTX.2 (Rat.le_of_lt hn0)
        grind
      rw [hXn] at b1
      have b2 := Rat.mul_le_mul_of_nonneg_right hq' (Rat.le_of_lt hw0)
      have b3 : (2 * p2 53 * w) * n ≤ M * n := by grind
      have b4 := Rat.le_of_mul_le_mul_right b3 hn0
      have b5 : 2 * p2 53 * p2 (-54) = 1 := by rw [← p2_succ, ← p2_add]; rfl
      have b6 := Rat.mul_le_mul_of_nonneg_right b4 (Rat.le_of_lt (p2_pos (-54)))
      have b7 : 2 * p2 53 * w * p2 (-54) = (2 * p2 53 * p2 (-54)) * w := by grind
      rw [b7, b5, Rat.one_mul] at b6
      exact b6
    refine Bd.mono (A := w) ?_ hwM
    have hTT : T * T = 1 := hss
    have g1 : Bd ((Z : Rat) * w - T * X) w := by
      have hn' : T * X * n = 2 * D * w := by rw [← hXn]; grind
      constructor
      · refine Rat.le_of_mul_le_mul_right (c := (n : Rat)) ?_ hn0
        grind
      · refine Rat.le_of_mul_le_mul_right (c := (n : Rat)) ?_ hn0
        grind
    have g2 := g1.sv (s ^^ t)
    rw [hT] at g2
    have e : T * ((Z : Rat) * w - T * X) = T * (Z * w) - X := by grind
    rw [e] at g2
    exact g2

theorem fop_quo_near {p q : Option Nat} {x y X M : Rat} (hp : FQ p x) (hq : FQ q y) (hy : y ≠ 0) (hX : X * y = x) (hB : Bd X M) (h1 : p2 (-900) ≤ M) (h2 : M ≤ p2 999) : Near (fop .quo .f64 p q) X M := by
  obtain ⟨a, rfl, a1, a2, rfl⟩ := hp
  obtain ⟨b, rfl, b1, b2, rfl⟩ := hq
  obtain ⟨m, i, ha, hva⟩ := bv_read D64 a1
  obtain ⟨n, j, hb, hvb⟩ := bv_read D64 b1
  have hn : n ≠ 0 := by
    rintro rfl
    apply hy
    rw [hvb]
    have z : ((0 : Nat) : Rat) = 0 := rfl
    rw [z]
    grind
  rw [hva, hvb] at hX
  have hq := quo_near (m := m) (n := n) (k := 54 + n.log2 - m.log2) rfl hn hX hB
  have h : floatBits .quo .f64 a b = some (D64.nearest (sg D64 a ^^ sg D64 b) (2 * (m * 2 ^ (54 + n.log2 - m.log2) / n) + (m * 2 ^ (54 + n.log2 - m.log2) % n != 0).toNat) (i - j - ((54 + n.log2 - m.log2 : Nat) : Int) - 1)) := by
    have : floatBits .quo .f64 a b = ((D64.read a).quotient (52 + 2) (D64.read b)).map D64.write := rfl
    rw [this, ha, hb]
    simp only [Ieee.Datum.quotient, if_neg hn, Option.map_some, Nat.shiftLeft_eq]
    rfl
  generalize 2 * (m * 2 ^ (54 + n.log2 - m.log2) / n) + (m * 2 ^ (54 + n.log2 - m.log2) % n != 0).toNat = Z at *
  generalize i - j - ((54 + n.log2 - m.log2 : Nat) : Int) - 1 = pl at *
  have hM := hB.nonneg
  have e1 := err_le h1
  have k54 : p2 (-53) = 2 * p2 (-54) := by rw [show (-53 : Int) = (-54) + 1 by decide]; exact p2_succ _
  have k53 : p2 (-52) = 2 * p2 (-53) := by rw [show (-52 : Int) = (-53) + 1 by decide]; exact p2_succ _
  have k52 : p2 (-51) = 2 * p2 (-52) := by rw [show (-51 : Int) = (-52) + 1 by decide]; exact p2_succ _
  have k1000 : p2 1000 = 2 * p2 999 := p2_succ 999
  have kle : p2 (-54) ≤ 1 := p2_le (n := 0) (by decide)
  have g1 := Rat.mul_le_mul_of_nonneg_left kle hM
  have hY : Bd (sv (sg D64 a ^^ sg D64 b) * (Z * p2 pl)) (2 * M) := by
    have := hq.add hB
    rw [Rat.sub_add_cancel] at this
    exact this.mono (by grind)
  obtain ⟨r, hr, hr1, hr2, hr3⟩ := near_num _ _ _ hY (by grind)
  refine ⟨_, ⟨r, ?_, hr1, hr2, rfl⟩, ?_⟩
  · show floatBits .quo .f64 a b = _
    rw [h, hr]
  · have := hr3.add hq
    have e : bv D64 r - sv (sg D64 a ^^ sg D64 b) * (Z * p2 pl) + (sv (sg D64 a ^^ sg D64 b) * (Z * p2 pl) - X) = bv D64 r - X := by grind
    rw [e] at this
    refine this.mono ?_
    have c1 := p2_pos (-54)
    have c2 := Rat.mul_nonneg hM (Rat.le_of_lt c1)
    rw [k52, k53, k54]
    rw [k53, k54] at e1
    grind
end Go.Fl
