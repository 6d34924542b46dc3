import Derived.Test.YtkfcpnfolgiogaaMod
namespace Go.Fl
open Go

theorem FQ_word (s : Bool) {e k : Nat} (hk : D64.binade ≤ k) (hk2 : k ≤ 2 * D64.binade) (hlt : e * D64.binade + k < D64.infRung) : FQ (some (D64.word s (e * D64.binade + k))) (sv s * (k * p2 (e + -1074))) := by
  have hs : e * D64.binade + k < D64.signWeight := Nat.lt_trans hlt inf_lt
  refine ⟨_, rfl, by rw [rg_word D64 hs]; exact hlt, ?_, ?_⟩
  · have h2 := two_signWeight D64
    have h64 : (2 : Nat) ^ 64 = 2 ^ D64.width := rfl
    rw [h64, h2]
    unfold Ieee.Format.word
    split <;> omega
  · rw [bv_word D64 hs, V_ek D64 (Or.inr hk) hk2, D64_least, Rat.natCast_mul, p2_add, ← p2_nat]
    grind

theorem FQ_pow {e : Nat} (n : Int) (hn : n = (e : Int) - 1022) (he : e < 2046) : FQ (some ((e + 1) * 4503599627370496)) (p2 n) := by
  have h := FQ_word false (e := e) (k := D64.binade) (Nat.le_refl _) (by omega) (by rw [D64_inf]; have hb : D64.binade = 4503599627370496 := by decide
                                                                                    rw [hb]; omega)
  have e1 : D64.word false (e * D64.binade + D64.binade) = (e + 1) * 4503599627370496 := by
    unfold Ieee.Format.word
    have hb : D64.binade = 4503599627370496 := by decide
    rw [if_neg (by decide), hb]
    omega
  have e2 : sv false * (((D64.binade : Nat) : Rat) * p2 (e + -1074)) = p2 n := by
    have hb : D64.binade = 2 ^ 52 := rfl
    rw [hb, ← p2_nat, ← p2_add, hn]
    unfold sv
    rw [if_neg (by decide), Rat.one_mul]
    congr 1
    omega
  rw [e1, e2] at h
  exact h

theorem FQ_zero : FQ (some 0) 0 := by
  refine ⟨0, rfl, by decide, by decide, ?_⟩
  unfold bv
  rw [iv_lit_zero]
  exact Rat.zero_mul _

/-- A sum, as what is rounded. -/
theorem add_repr {p q : Option Nat} {x y : Rat} (hp : FQ p x) (hq : FQ q y) : ∃ s mag place, fop .add .f64 p q = some (D64.nearest s mag place) ∧ sv s * ((mag : Nat) * p2 place) = x + y := by
  obtain ⟨a, rfl, a1, a2, rfl⟩ := hp
  obtain ⟨b, rfl, b1, b2, rfl⟩ := hq
  obtain ⟨m, i, ha, hva⟩ := bv_read D64 a1
  obtain ⟨n, j, hb, hvb⟩ := bv_read D64 b1
  rw [hva, hvb]
  have h : floatBits .add .f64 a b = ((Ieee.Datum.number (sg D64 a) m i).sum (Ieee.Datum.number (sg D64 b) n j)).map D64.write := by
    rw [← ha, ← hb]; rfl
  generalize sg D64 a = s at *
  generalize sg D64 b = t at *
  simp only [Ieee.Datum.sum, Option.map_some] at h
  generalize hbase : min i j = base at *
  obtain ⟨k, hk⟩ : ∃ k : Nat, i = base + k := ⟨(i - base).toNat, by omega⟩
  obtain ⟨l, hl⟩ : ∃ l : Nat, j = base + l := ⟨(j - base).toNat, by omega⟩
  have e1 : (i - base).toNat = k := by omega
  have e2 : (j - base).toNat = l := by omega
  rw [e1, e2] at h
  have hv : ((Ieee.signed s m k + Ieee.signed t n l : Int) : Rat) * p2 base = sv s * (m * p2 i) + sv t * (n * p2 j) := by
    rw [Rat.intCast_add, signed_rat, signed_rat, hk, hl, p2_add, p2_add, p2_nat, p2_nat]
    grind
  generalize Ieee.signed s m k + Ieee.signed t n l = T at *
  have hsv := sv_natAbs T (s && t)
  refine ⟨_, _, _, h, ?_⟩
  rw [← hv, ← hsv]
  grind

/-- A sum that is great stays great, though it may become infinite. -/
theorem add_big {p q : Option Nat} {x y : Rat} (hp : FQ p x) (hq : FQ q y) (h : p2 300 ≤ x + y) {h200 : Nat} (hh : FQ (some h200) (p2 200)) : (ford .f64 (fop .add .f64 p q) (some h200) == some .gt) = true := by
  obtain ⟨s, mag, place, hr, hv⟩ := add_repr hp hq
  rw [hr]
  have c1 := p2_pos 300
  have hm : mag ≠ 0 := by
    rintro rfl
    have z : ((0 : Nat) : Rat) = 0 := rfl
    rw [z] at hv
    grind
  have hX : 0 ≤ (mag : Rat) * p2 place := Rat.mul_nonneg Rat.natCast_nonneg (Rat.le_of_lt (p2_pos place))
  have hs : s = false := by
    cases s
    · rfl
    · unfold sv at hv
      rw [if_pos rfl] at hv
      grind
  subst hs
  have hv' : (mag : Rat) * p2 place = x + y := by
    unfold sv at hv
    rw [if_neg (by decide), Rat.one_mul] at hv
    exact hv
  have hnan := nearest_not_nan D64 false mag place
  obtain ⟨r, hr2, hn2, hb2⟩ := hh.not_nan
  cases hr2
  have hgt := gt_iv (k := .f64) hnan hn2
  show (D64.order (D64.nearest false mag place) h200 == some .gt) = true
  rw [show (D64.order (D64.nearest false mag place) h200 == some .gt) = _ from hgt]
  refine decide_eq_true ?_
  show iv D64 h200 < iv D64 (D64.nearest false mag place)
  rw [← bv_lt, hb2, nearest_rung D64 _ hm]
  have hle : min (rung D64 mag place) D64.infRung ≤ D64.infRung := Nat.min_le_right _ _
  rw [bv_word D64 (Nat.lt_of_le_of_lt hle inf_lt)]
  unfold sv
  rw [if_neg (by decide), Rat.one_mul]
  have k1 : p2 200 < p2 201 := by rw [show p2 201 = 2 * p2 200 from p2_succ 200]; have := p2_pos 200; grind
  rcases Nat.le_total (rung D64 mag place) D64.infRung with h1 | h1
  · rw [Nat.min_eq_left h1]
    have he := (rung_err D64 hm place).1
    rw [hv', D64_frac, D64_least] at he
    rw [D64_least]
    have k2 : p2 (-((52 : Nat) : Int)) ≤ 1 := p2_le (n := 0) (by decide)
    have k2' := p2_pos (-((52 : Nat) : Int))
    have k5 : p2 (-((52 : Nat) : Int)) ≤ p2 (-1) := p2_le (by decide)
    have k6 : 1 = 2 * p2 (-1) := by rw [← p2_succ]; rfl
    have k3 : p2 (-1074) ≤ 1 := p2_le (n := 0) (by decide)
    have k4 : p2 202 ≤ p2 300 := p2_le (by decide)
    have k7 : p2 202 = 2 * p2 201 := p2_succ 201
    have k8 : 1 ≤ p2 201 := p2_le (m := 0) (by decide)
    have k9 := Rat.mul_le_mul_of_nonneg_left k5 (show 0 ≤ x + y by grind)
    have k10 : p2 203 ≤ p2 300 := p2_le (by decide)
    have k11 : p2 203 = 2 * p2 202 := p2_succ 202
    have kh : p2 (-1) = 1 / 2 := by grind
    rw [kh] at k9
    generalize (x + y) * p2 (-((52 : Nat) : Int)) = E at *
    generalize ((V D64 (rung D64 mag place) : Nat) : Rat) * p2 (-1074) = Y at *
    clear hgt hnan hn2 hb2 hle h1 hr hv hv' hX hm hp hq hh
    generalize x + y = X at *
    grind
  · rw [Nat.min_eq_right h1, V_inf]
    have : p2 201 ≤ p2 1024 := p2_le (by decide)
    grind
end Go.Fl
