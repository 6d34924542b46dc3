import Derived.Test.YtkfcpnfolgiogaaMod3
namespace Go.Proofs.Ytkfcpnfolgiogaa
open Go.RowKit Go.Fl

theorem pw44_FQ : FQ (some (pw 44)) (p2 (-44)) := FQ_pow (e := 978) _ (by decide) (by decide)

theorem feq_FQ {p q : Option Nat} {x y : Rat} (hp : FQ p x) (hq : FQ q y) : feq p q = decide (x = y) := by
  obtain ⟨a, rfl, a1, rfl⟩ := hp.not_nan
  obtain ⟨b, rfl, b1, rfl⟩ := hq.not_nan
  have := eq_iv (k := .f64) a1 b1
  show (D64.order a b == some .eq) = _
  rw [show (D64.order a b == some .eq) = _ from this]
  refine decide_eq_decide.2 ⟨fun h => ?_, fun h => ?_⟩
  · show bv D64 a = bv D64 b
    unfold bv
    rw [show iv D64 a = iv D64 b from h]
  · exact Int.le_antisymm (bv_le.1 (by rw [h]; exact Rat.le_refl)) (bv_le.1 (by rw [h]; exact Rat.le_refl))

theorem inv_sc {C I : Rat} (hI : I * C = 1) (h1 : p2 (-301) ≤ C) (h2 : C ≤ p2 301) : Sc I := by
  have c1 := p2_pos (-301)
  have hC : 0 < C := by grind
  constructor
  · refine Rat.le_of_mul_le_mul_right (c := C) ?_ hC
    rw [hI]
    have k1 := Rat.mul_le_mul_of_nonneg_left h2 (Rat.le_of_lt (p2_pos (-400)))
    rw [← p2_add] at k1
    have k2 : p2 (-400 + 301) ≤ 1 := p2_le (n := 0) (by decide)
    grind
  · refine Rat.le_of_mul_le_mul_right (c := C) ?_ hC
    rw [hI]
    have k1 := Rat.mul_le_mul_of_nonneg_left h1 (Rat.le_of_lt (p2_pos 400))
    rw [← p2_add] at k1
    have k2 : 1 ≤ p2 (400 + -301) := p2_le (m := 0) (by decide)
    grind

/-- A quotient of moderate numbers, in full. -/
theorem mod_div {z u : CN} (hz : Moderate z) (hu : Moderate u) : cdivOk z u = true ∧ ∃ s A B, FQ (fabs .f64 z.1) A ∧ FQ (fabs .f64 z.2) B ∧ 0 ≤ A ∧ 0 ≤ B ∧ Sc (A + B) ∧ FQ (offBy (cmul (cdiv z u) u) z) s ∧ s ≤ 60 * (cu * (A + B)) := by
  obtain ⟨a, b, A, B, fa, fb, fA, fB, A0, B0, hA, hB, hl, hh⟩ := hz
  obtain ⟨c, d, C, D, fc, fd, fC, fD, C0, D0, hC, hD, kl, kh⟩ := hu
  have q1 : p2 (-400) ≤ p2 (-300) := p2_le (by decide)
  have q2 : p2 300 ≤ p2 400 := p2_le (by decide)
  have q3 : p2 (-300) = 2 * p2 (-301) := by
    rw [show (-300 : Int) = (-301) + 1 by decide]
    exact p2_succ _
  have q4 : p2 300 ≤ p2 301 := p2_le (by decide)
  have q5 : p2 (-400) ≤ p2 (-301) := p2_le (by decide)
  have c1 := p2_pos (-301)
  have hS : Sc (A + B) := ⟨by grind, by grind⟩
  have ba : Bd a (A + B) := (Bd.of_abs A0 hA).mono (by grind)
  have bb : Bd b (A + B) := (Bd.of_abs B0 hB).mono (by grind)
  have hge : cge u = decide (D ≤ C) := fge fC fD
  have main : ∀ E : Rat, E = (if cge u then C else D) → p2 (-301) ≤ E ∧ E ≤ p2 301 ∧ (if cge u then (c = E ∨ c = -E) ∧ Bd d E else (d = E ∨ d = -E) ∧ Bd c E) := fun E hE => by
    rw [hge] at hE ⊢
    by_cases h : D ≤ C
    · simp only [h, decide_true, if_true] at hE ⊢
      subst hE
      exact ⟨by grind, by grind, by rcases hC with k | k <;> grind, (Bd.of_abs D0 hD).mono h⟩
    · simp only [h, decide_false, Bool.false_eq_true, if_false] at hE ⊢
      subst hE
      exact ⟨by grind, by grind, by rcases hD with k | k <;> grind, (Bd.of_abs C0 hC).mono (by grind)⟩
  obtain ⟨e1, e2, e3⟩ := main _ rfl
  generalize (if cge u then C else D) = E at *
  have hE0 : E ≠ 0 := by grind
  have hEs : Sc E := ⟨by grind, by grind⟩
  obtain ⟨I, hI⟩ : ∃ I : Rat, I * E = 1 := ⟨1 / E, Rat.div_mul_cancel hE0⟩
  obtain ⟨g1, g2, s, fs, hs⟩ := smith_off (cge u) fa fb fc fd ba bb hS hEs hI (inv_sc hI e1 e2) e3
  have hok : cdivOk z u = true := by
    have h1 : cfin z = true := by unfold cfin; rw [fa.fin, fb.fin]; rfl
    have h2 : cfin u = true := by unfold cfin; rw [fc.fin, fd.fin]; rfl
    have h3 : ceq u c0 = false := by
      cases he : ceq u c0
      · rfl
      · unfold ceq at he
        simp only [Bool.and_eq_true] at he
        have z0 : cl .f64 0 = some 0 := by decide +kernel
        have k1 : c = 0 := of_decide_eq_true (p := c = 0) (by rw [← feq_FQ fc FQ_zero, ← z0]; exact he.1)
        have k2 : d = 0 := of_decide_eq_true (p := d = 0) (by rw [← feq_FQ fd FQ_zero, ← z0]; exact he.2)
        exfalso
        rcases hC with h | h <;> rcases hD with h' | h' <;> grind
    have h4 : cfin (cquo z u) = true := by unfold cfin cquo; rw [g1, g2]; rfl
    unfold cdivOk
    rw [h1, h2, h3, h4]
    rfl
  have hcd : cdiv z u = cquoB (cge u) z u := by unfold cdiv; rw [hok]; rfl
  rw [← hcd] at fs
  exact ⟨hok, s, A, B, fA, fB, A0, B0, hS, fs, hs⟩

theorem cu_44 : p2 (-44) = 128 * cu := by
  have h : p2 7 = 128 := p2_nat 7
  rw [← h]
  unfold cu
  rw [← p2_add]
  rfl

/-- The law's first test. -/
theorem divided_ok {z u : CN} (hz : Moderate z) (hu : Moderate u) : cdivOk z u = true ∧
    (ford .f64 (offBy (cmul (cdiv z u) u) z) (fop .mul .f64 (fop .add .f64 (fabs .f64 z.1) (fabs .f64 z.2)) (some (pw 44))) == some .lt || ford .f64 (offBy (cmul (cdiv z u) u) z) (fop .mul .f64 (fop .add .f64 (fabs .f64 z.1) (fabs .f64 z.2)) (some (pw 44))) == some .eq) = true := by
  obtain ⟨hok, s, A, B, fA, fB, A0, B0, hS, fs, hs⟩ := mod_div hz hu
  refine ⟨hok, ?_⟩
  have hS0 := hS.pos
  have hb : Bd (A + B) (A + B) := by constructor <;> grind
  obtain ⟨x, fx, ex⟩ := fop_add_near fA fB hb (Rat.le_trans (p2_le (by decide)) hS.1) (Rat.le_trans hS.2 (p2_le (by decide)))
  have uS := Rat.mul_le_mul_of_nonneg_right cu_le (Rat.le_of_lt hS0)
  have hx : Bd x (2 * (A + B)) := Bd.of_near ex hb (by grind)
  have c44 := p2_pos (-44)
  have hS44 : p2 (-860) ≤ (A + B) * p2 (-44) := by
    have h1 := Rat.mul_le_mul_of_nonneg_right hS.1 (Rat.le_of_lt c44)
    rw [← p2_add] at h1
    have : p2 (-860) ≤ p2 (-400 + -44) := p2_le (by decide)
    grind
  have hS44' : (A + B) * p2 (-44) ≤ p2 860 := by
    have h1 := Rat.mul_le_mul_of_nonneg_right hS.2 (Rat.le_of_lt c44)
    rw [← p2_add] at h1
    have : p2 (400 + -44) ≤ p2 860 := p2_le (by decide)
    grind
  have hp := Rat.mul_pos hS0 c44
  have hxm : Bd (x * p2 (-44)) (2 * ((A + B) * p2 (-44))) := by
    have := hx.mul (show Bd (p2 (-44)) (p2 (-44)) by constructor <;> grind)
    exact this.mono (by grind)
  obtain ⟨t, ft, et⟩ := fop_mul_near fx pw44_FQ hxm (lo_ok hS44 (by grind)) (hi_ok' hS44' (Rat.le_of_lt hp) (by grind))
  rw [fle fs ft]
  refine decide_eq_true ?_
  have k1 := et.1
  have k2 := Rat.mul_le_mul_of_nonneg_right (show (A + B) - (A + B) * cu ≤ x by have := ex.1; grind) (Rat.le_of_lt c44)
  have hu0 := cu_pos
  have uuS := Rat.mul_le_mul_of_nonneg_right uS (Rat.le_of_lt hu0)
  rw [cu_44] at k1 k2
  have e1 : (A + B - (A + B) * cu) * (128 * cu) = 128 * (cu * (A + B)) - 128 * (cu * (A + B) * cu) := by grind
  have e2 : 2 * ((A + B) * (128 * cu)) * cu = 256 * (cu * (A + B) * cu) := by grind
  have hpos := Rat.mul_pos hu0 hS0
  rw [e1] at k2
  have k1' : -(256 * (cu * (A + B) * cu)) ≤ t - x * (128 * cu) := by rw [← e2]; exact k1
  have e3 : 1 / 1000 * (A + B) * cu = 1 / 1000 * (cu * (A + B)) := by grind
  rw [e3] at uuS
  generalize cu * (A + B) * cu = Y at *
  generalize x * (128 * cu) = Z at *
  generalize cu * (A + B) = X at *
  grind
end Go.Proofs.Ytkfcpnfolgiogaa
