import Derived.Test.YtfhaopdaakjghaaSteps
namespace Go.Proofs.Ytfhaopdaakjghaa
open Go.RowKit Go.Fl

/-- A number of float32 is at most m * 2^n. -/
def Bd (m n x : Nat) : Prop := x < 2 ^ 32 ∧ V Ieee.single (rg Ieee.single x) ≤ m * 2 ^ (149 + n)
/-- m * 2^n is a number of float32. -/
def Rep (m n : Nat) : Prop := ∃ r, r < Ieee.single.infRung ∧ V Ieee.single r = m * 2 ^ (149 + n)

theorem V_pwr32 (n : Nat) : V Ieee.single (pwr .f32 n) = 1 * 2 ^ (149 + n) := by
  obtain ⟨F, hF⟩ : ∃ F : Nat, F = 126 := ⟨_, rfl⟩
  have h2 := V_ek Ieee.single (e := n + F) (k := Ieee.single.binade) (Or.inr (Nat.le_refl _)) (by omega)
  have e2 : (n + F) * Ieee.single.binade + Ieee.single.binade = pwr .f32 n := by
    subst hF
    show (n + 126) * Ieee.single.binade + Ieee.single.binade = n * Ieee.single.binade + oneW .f32
    rw [Nat.add_mul, show oneW .f32 = 126 * Ieee.single.binade + Ieee.single.binade by decide]
    omega
  rw [e2] at h2
  rw [h2, show Ieee.single.binade = 2 ^ 23 from rfl, ← Nat.pow_add, Nat.one_mul, show 23 + (n + F) = 149 + n by omega]

theorem rep1 {n : Nat} (h : n ≤ 126) : Rep 1 n := ⟨pwr .f32 n, pwr_fin h, V_pwr32 n⟩
theorem rep_of {m n j k E : Nat} (hk1 : Ieee.single.binade ≤ k) (hk2 : k ≤ 2 * Ieee.single.binade) (hj : k = m * 2 ^ j) (hE : j + E = 149 + n) (hf : E * Ieee.single.binade + k < Ieee.single.infRung) : Rep m n :=
  ⟨E * Ieee.single.binade + k, hf, by rw [V_ek Ieee.single (Or.inr hk1) hk2, hj, Nat.mul_assoc, ← Nat.pow_add, hE]⟩
theorem rep2 {n : Nat} (h : n ≤ 125) : Rep 2 n := by
  obtain ⟨r, h1, h2⟩ := rep1 (n := n + 1) (by omega)
  exact ⟨r, h1, by rw [h2, ← Nat.add_assoc, Nat.pow_succ, Nat.one_mul, Nat.mul_comm]⟩
theorem rep3 {n : Nat} (h : n ≤ 125) : Rep 3 n := rep_of (j := 22) (k := 12582912) (E := 127 + n) (by decide) (by decide) (by decide) (by omega) (by
  have : Ieee.single.infRung = 255 * Ieee.single.binade := by decide
  have hb : Ieee.single.binade = 8388608 := by decide
  rw [this, hb]; omega)
theorem rep13 {n : Nat} (h : n ≤ 123) : Rep 13 n := rep_of (j := 20) (k := 13631488) (E := 129 + n) (by decide) (by decide) (by decide) (by omega) (by
  have : Ieee.single.infRung = 255 * Ieee.single.binade := by decide
  have hb : Ieee.single.binade = 8388608 := by decide
  rw [this, hb]; omega)

theorem Bd.fin {m n x : Nat} (h : Bd m n x) (hr : Rep m n) : Fl.fin .f32 x := by
  obtain ⟨r, h1, h2⟩ := hr
  have h3 := h.2
  rw [← h2] at h3
  rcases Nat.lt_or_ge r (rg Ieee.single x) with h4 | h4
  · have := V_lt Ieee.single h4; omega
  · exact Nat.lt_of_le_of_lt h4 h1

theorem Bd.of_lim {n x : Nat} (h : Lim .f32 n x) : Bd 1 n x := ⟨h.1, by rw [← V_pwr32]; exact V_le Ieee.single h.2⟩
theorem Bd.lim {n x : Nat} (h : Bd 1 n x) : Lim .f32 n x := by
  refine ⟨h.1, ?_⟩
  have h2 := h.2
  rw [← V_pwr32] at h2
  rcases Nat.lt_or_ge (pwr .f32 n) (rg Ieee.single x) with h4 | h4
  · have := V_lt Ieee.single h4; omega
  · exact h4
theorem Bd.mono {m n m' n' x : Nat} (h : Bd m n x) (hs : m * 2 ^ (149 + n) ≤ m' * 2 ^ (149 + n')) : Bd m' n' x := ⟨h.1, Nat.le_trans h.2 hs⟩

theorem bd_round {m n r : Nat} {T : Nat} (hr : Rep m n) (hT : T ≤ m * 2 ^ (149 + n)) (e : rg Ieee.single r = Rc Ieee.single Ieee.single.leastPlace T) : V Ieee.single (rg Ieee.single r) ≤ m * 2 ^ (149 + n) := by
  obtain ⟨q, h1, h2⟩ := hr
  rw [← h2] at hT ⊢
  have h5 := Rc_mono Ieee.single hT (c := Ieee.single.leastPlace) (Int.le_refl _)
  rw [Rc_same h1, ← e] at h5
  exact V_le Ieee.single h5

theorem bd_add {m1 n1 m2 n2 m n x y : Nat} (hx : Bd m1 n1 x) (hy : Bd m2 n2 y) (fx : fin .f32 x) (fy : fin .f32 y) (hs : m1 * 2 ^ (149 + n1) + m2 * 2 ^ (149 + n2) ≤ m * 2 ^ (149 + n)) (hr : Rep m n) : floatBits .add .f32 x y = some (fo .add .f32 x y) ∧ Bd m n (fo .add .f32 x y) := by
  obtain ⟨r, h1, h2, _, _, h4⟩ := add_word fx fy
  rw [fo_of h1]
  refine ⟨h1, h2, bd_round hr ?_ h4⟩
  have i1 := iv_abs FloatKind.f32.format x
  have i2 := iv_abs FloatKind.f32.format y
  have j1 : V FloatKind.f32.format (rg FloatKind.f32.format x) ≤ _ := hx.2
  have j2 : V FloatKind.f32.format (rg FloatKind.f32.format y) ≤ _ := hy.2
  omega

theorem bd_sub {m1 n1 m2 n2 m n x y : Nat} (hx : Bd m1 n1 x) (hy : Bd m2 n2 y) (fx : fin .f32 x) (fy : fin .f32 y) (hs : m1 * 2 ^ (149 + n1) + m2 * 2 ^ (149 + n2) ≤ m * 2 ^ (149 + n)) (hr : Rep m n) : floatBits .sub .f32 x y = some (fo .sub .f32 x y) ∧ Bd m n (fo .sub .f32 x y) := by
  obtain ⟨r, h1, h2, _, h4⟩ := sub_word fx fy
  rw [fo_of h1]
  refine ⟨h1, h2, bd_round hr ?_ h4⟩
  have i1 := iv_abs FloatKind.f32.format x
  have i2 := iv_abs FloatKind.f32.format y
  have j1 : V FloatKind.f32.format (rg FloatKind.f32.format x) ≤ _ := hx.2
  have j2 : V FloatKind.f32.format (rg FloatKind.f32.format y) ≤ _ := hy.2
  omega

theorem bd_mul {m1 n1 m2 n2 m n x y : Nat} (hx : Bd m1 n1 x) (hy : Bd m2 n2 y) (fx : fin .f32 x) (fy : fin .f32 y) (hs : m1 * m2 * 2 ^ (n1 + n2) ≤ m * 2 ^ n) (hr : Rep m n) : floatBits .mul .f32 x y = some (fo .mul .f32 x y) ∧ Bd m n (fo .mul .f32 x y) := by
  obtain ⟨r, h1, h2, _, h4⟩ := mul_word fx fy
  rw [fo_of h1]
  refine ⟨h1, h2, ?_⟩
  obtain ⟨q, g1, g2⟩ := hr
  rw [← g2]
  apply V_le
  obtain ⟨D, hD⟩ : ∃ D : Nat, D = 149 := ⟨_, rfl⟩
  have h4' : rg Ieee.single r = Rc Ieee.single (2 * Ieee.single.leastPlace) (V Ieee.single (rg Ieee.single x) * V Ieee.single (rg Ieee.single y)) := h4
  have hT : V Ieee.single (rg Ieee.single x) * V Ieee.single (rg Ieee.single y) ≤ V Ieee.single q * 2 ^ D := by
    refine Nat.le_trans (Nat.mul_le_mul hx.2 hy.2) ?_
    rw [g2, ← hD]
    have e1 : m1 * 2 ^ (D + n1) * (m2 * 2 ^ (D + n2)) = m1 * m2 * 2 ^ (n1 + n2) * (2 ^ D * 2 ^ D) := by
      rw [Nat.pow_add, Nat.pow_add, Nat.pow_add]
      ac_rfl
    have e2 : m * 2 ^ (D + n) * 2 ^ D = m * 2 ^ n * (2 ^ D * 2 ^ D) := by
      rw [Nat.pow_add]
      ac_rfl
    rw [e1, e2]
    exact Nat.mul_le_mul_right _ hs
  have h5 := Rc_mono Ieee.single hT (c := 2 * Ieee.single.leastPlace) (by decide)
  rw [h4']
  rw [show 2 * Ieee.single.leastPlace = Ieee.single.leastPlace - (D : Int) by subst hD; decide] at h5 ⊢
  rw [Rc_exact Ieee.single g1] at h5
  exact h5

/-- A finite number and one that is no NaN have a sum. -/
theorem add_num2 {x y : Nat} (hx : fin .f32 x) (hy : Num y) : ∃ r, floatBits .add .f32 x y = some r ∧ Num r := by
  rcases Nat.lt_or_eq_of_le hy.2 with h | h
  · obtain ⟨r, h1, h2, _, _, h3⟩ := add_word (k := .f32) hx h
    exact ⟨r, h1, h2, by show rg FloatKind.f32.format r ≤ _; rw [h3]; exact Rc_le_inf _ _ _⟩
  · obtain ⟨m, e, h1, _⟩ := read_fin Ieee.single hx
    have h2 := read_inf Ieee.single (okf .f32) h
    obtain ⟨g1, g2, g3⟩ := word_facts .f32 (sg Ieee.single y) (Nat.le_refl _)
    refine ⟨Ieee.single.word (sg Ieee.single y) Ieee.single.infRung, ?_, g3, Nat.le_of_eq g2⟩
    show Ieee.Format.add Ieee.single x y = _
    unfold Ieee.Format.add
    rw [h1, h2]
    rfl
end Go.Proofs.Ytfhaopdaakjghaa
