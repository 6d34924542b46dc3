import Derived.Test.YtfhaopdaakjghaaRnd
import Derived.Test.YtfhaopdaakjghaaFinite
namespace Go.Fl
open Go

theorem least_le (k : FloatKind) : k.format.leastPlace ≤ 0 := by cases k <;> decide
theorem inf_lt_sign (k : FloatKind) : k.format.infRung < k.format.signWeight := by cases k <;> decide

/-- A finite word. -/
def fin (k : FloatKind) (x : Nat) : Prop := rg k.format x < k.format.infRung

theorem word_facts (k : FloatKind) (s : Bool) {r : Nat} (h : r ≤ k.format.infRung) :
    sg k.format (k.format.word s r) = s ∧ rg k.format (k.format.word s r) = r ∧ k.format.word s r < 2 ^ k.format.width := by
  have h1 := inf_lt_sign k
  refine ⟨sg_word k.format (by omega), rg_word k.format (by omega), ?_⟩
  rw [two_signWeight]
  unfold Ieee.Format.word
  cases s <;> simp <;> omega

theorem mul_word {k : FloatKind} {x y : Nat} (hx : fin k x) (hy : fin k y) : ∃ r, floatBits .mul k x y = some r ∧ r < 2 ^ k.format.width ∧
    sg k.format r = (sg k.format x ^^ sg k.format y) ∧ rg k.format r = Rc k.format (2 * k.format.leastPlace) (V k.format (rg k.format x) * V k.format (rg k.format y)) := by
  obtain ⟨h1, h2, h3⟩ := word_facts k (sg k.format x ^^ sg k.format y) (Rc_le_inf k.format (2 * k.format.leastPlace) (V k.format (rg k.format x) * V k.format (rg k.format y)))
  exact ⟨_, mul_fin k.format (least_le k) hx hy, h3, h1, h2⟩

theorem add_word {k : FloatKind} {x y : Nat} (hx : fin k x) (hy : fin k y) : ∃ r, floatBits .add k x y = some r ∧ r < 2 ^ k.format.width ∧
    (iv k.format x + iv k.format y ≠ 0 → sg k.format r = decide (iv k.format x + iv k.format y < 0)) ∧ (iv k.format x + iv k.format y = 0 → sg k.format r = (sg k.format x && sg k.format y)) ∧
    rg k.format r = Rc k.format k.format.leastPlace (iv k.format x + iv k.format y).natAbs := by
  obtain ⟨h1, h2, h3⟩ := word_facts k (if iv k.format x + iv k.format y = 0 then sg k.format x && sg k.format y else decide (iv k.format x + iv k.format y < 0)) (Rc_le_inf k.format k.format.leastPlace (iv k.format x + iv k.format y).natAbs)
  exact ⟨_, add_fin k.format hx hy, h3, fun h => by rw [h1, if_neg h], fun h => by rw [h1, if_pos h], h2⟩

theorem sub_word {k : FloatKind} {x y : Nat} (hx : fin k x) (hy : fin k y) : ∃ r, floatBits .sub k x y = some r ∧ r < 2 ^ k.format.width ∧
    (iv k.format x - iv k.format y ≠ 0 → sg k.format r = decide (iv k.format x - iv k.format y < 0)) ∧
    rg k.format r = Rc k.format k.format.leastPlace (iv k.format x - iv k.format y).natAbs := by
  obtain ⟨h1, h2, h3⟩ := word_facts k (if iv k.format x - iv k.format y = 0 then sg k.format x && !sg k.format y else decide (iv k.format x - iv k.format y < 0)) (Rc_le_inf k.format k.format.leastPlace (iv k.format x - iv k.format y).natAbs)
  exact ⟨_, sub_fin k.format hx hy, h3, fun h => by rw [h1, if_neg h], h2⟩

theorem iv_zero {f : Ieee.Format} {x : Nat} (h : rg f x = 0) : iv f x = 0 := by
  unfold iv; rw [h, V_zero]; simp
theorem iv_pos {f : Ieee.Format} {x : Nat} (h : sg f x = false) : iv f x = V f (rg f x) := by
  unfold iv; rw [h]; simp
theorem iv_abs (f : Ieee.Format) (x : Nat) : (iv f x).natAbs = V f (rg f x) := by
  unfold iv; cases sg f x <;> simp

theorem not_nan_le {k : FloatKind} {x : Nat} (h : rg k.format x ≤ k.format.infRung) : (k.format.read x).isNaN = false := by
  cases h2 : (k.format.read x).isNaN
  · rfl
  · have := (isNaN_iff k.format (okf k) x).1 h2; omega

/-- Words that are no NaN are ordered as their worth is. -/
theorem order_le {k : FloatKind} {x y : Nat} (hx : rg k.format x ≤ k.format.infRung) (hy : rg k.format y ≤ k.format.infRung) :
    k.format.order x y = some (compare (iv k.format x) (iv k.format y)) := order_iv k.format (okf k) (not_nan_le hx) (not_nan_le hy)

/-- The word of one. -/
def oneW (k : FloatKind) : Nat := match k with | .f32 => 1065353216 | .f64 => 4607182418800017408

/-- One, in units of the least place. -/
theorem V_one (k : FloatKind) : ∃ d : Nat, sg k.format (oneW k) = false ∧ rg k.format (oneW k) = oneW k ∧ oneW k < k.format.infRung ∧ V k.format (oneW k) = 2 ^ d ∧ 2 * k.format.leastPlace = k.format.leastPlace - d := by
  cases k
  · refine ⟨149, by decide, by decide, by decide, ?_, by decide⟩
    decide +kernel
  · obtain ⟨E, hE⟩ : ∃ E : Nat, E = 1022 := ⟨_, rfl⟩
    refine ⟨52 + E, by decide, by decide, by decide, ?_, by subst hE; decide⟩
    have h := V_ek Ieee.double (e := E) (k := Ieee.double.binade) (Or.inr (Nat.le_refl _)) (by omega)
    have he : E * Ieee.double.binade + Ieee.double.binade = oneW .f64 := by subst hE; decide
    rw [he] at h
    exact h.trans (by rw [show Ieee.double.binade = 2 ^ 52 from rfl, ← Nat.pow_add])

/-- What is multiplied by a number that is at most one becomes no greater. -/
theorem mul_small {k : FloatKind} {x y r : Nat} (hx : fin k x) (hy : rg k.format y ≤ oneW k)
    (hr : rg k.format r = Rc k.format (2 * k.format.leastPlace) (V k.format (rg k.format x) * V k.format (rg k.format y))) : rg k.format r ≤ rg k.format x := by
  obtain ⟨d, _, _, _, h2, h3⟩ := V_one k
  have := Rc_mono k.format (Nat.mul_le_mul_left (V k.format (rg k.format x)) (V_le k.format hy)) (c := 2 * k.format.leastPlace) (by have := least_le k; omega)
  rw [← hr, h2, h3, Rc_exact k.format hx] at this
  exact this

/-- What is multiplied by one stays. -/
theorem mul_one_rg {k : FloatKind} {x y r : Nat} (hx : fin k x) (hy : rg k.format y = oneW k)
    (hr : rg k.format r = Rc k.format (2 * k.format.leastPlace) (V k.format (rg k.format x) * V k.format (rg k.format y))) : rg k.format r = rg k.format x := by
  obtain ⟨d, _, _, _, h2, h3⟩ := V_one k
  rw [hr, hy, h2, h3, Rc_exact k.format hx]

theorem word_ext {f : Ieee.Format} {x y : Nat} (hx : x < 2 ^ f.width) (hy : y < 2 ^ f.width) (h1 : sg f x = sg f y) (h2 : rg f x = rg f y) : x = y := by
  rw [← word_sg_rg f hx, ← word_sg_rg f hy, h1, h2]

/-- Squares rise with their roots. -/
theorem sq_mono {k : FloatKind} {x y r s : Nat} (hx : rg k.format x ≤ rg k.format y)
    (hr : rg k.format r = Rc k.format (2 * k.format.leastPlace) (V k.format (rg k.format x) * V k.format (rg k.format x))) (hs : rg k.format s = Rc k.format (2 * k.format.leastPlace) (V k.format (rg k.format y) * V k.format (rg k.format y))) : rg k.format r ≤ rg k.format s := by
  rw [hr, hs]
  have h := V_le k.format hx
  exact Rc_mono k.format (Nat.mul_le_mul h h) (by have := least_le k; omega)

theorem sq_not_gt {k : FloatKind} {x y r s : Nat} (hxf : fin k x) (hyf : fin k y) (hx : rg k.format x ≤ rg k.format y) (hr : floatBits .mul k x x = some r) (hs : floatBits .mul k y y = some s) : (k.format.order r s == some .gt) = false := by
  obtain ⟨r', h1, _, h2, h3⟩ := mul_word hxf hxf
  obtain ⟨s', g1, _, g2, g3⟩ := mul_word hyf hyf
  rw [hr] at h1; cases h1
  rw [hs] at g1; cases g1
  have hle := sq_mono hx h3 g3
  rw [Bool.xor_self] at h2 g2
  rw [order_le (by rw [h3]; exact Rc_le_inf ..) (by rw [g3]; exact Rc_le_inf ..), iv_pos h2, iv_pos g2]
  have := V_le k.format hle
  cases hc : compare ((V k.format (rg k.format r) : Nat) : Int) ((V k.format (rg k.format s) : Nat) : Int) with
  | gt => rw [Int.compare_eq_gt] at hc; omega
  | lt => rfl
  | eq => rfl
end Go.Fl
