import Derived.Test.YtfhaopdaakjghaaRnd2
import Derived.Test.YtfhaopdaakjghaaBodyC
namespace Go.Proofs.Ytfhaopdaakjghaa
open Go.RowKit Go.Fl

theorem cl_fin {k : FloatKind} {x : Nat} (h : fin k x) : cl k x = some x := by
  unfold cl
  rw [show (k.decode x).isNaN = false from not_nan_le (Nat.le_of_lt h)]
  rfl

theorem fop_fin {op : BinOp} {k : FloatKind} {x y : Nat} : fop op k (some x) (some y) = floatBits op k x y := rfl

/-- The word of a float32 as a float64. -/
def wd (x : Nat) : Nat := FloatKind.f64.encode (FloatKind.f32.decode x)

theorem wd_facts {x : Nat} (h : fin .f32 x) : fin .f64 (wd x) ∧ sg Ieee.double (wd x) = sg Ieee.single x ∧ V Ieee.double (rg Ieee.double (wd x)) = V Ieee.single (rg Ieee.single x) * 2 ^ gap ∧ wd x < 2 ^ 64 ∧ fconv .f32 .f64 (cl .f32 x) = some (wd x) := by
  obtain ⟨r, h1, h2, h3⟩ := widen_word h
  obtain ⟨g1, g2, g3⟩ := word_facts .f64 (sg Ieee.single x) (r := r) (Nat.le_of_lt h2)
  have e : wd x = Ieee.double.word (sg Ieee.single x) r := h1
  rw [e]
  refine ⟨?_, g1, ?_, g3, ?_⟩
  · show rg Ieee.double _ < _
    rw [show rg Ieee.double (Ieee.double.word (sg Ieee.single x) r) = r from g2]; exact h2
  · rw [show rg Ieee.double (Ieee.double.word (sg Ieee.single x) r) = r from g2]; exact h3
  · rw [cl_fin h, ← e]; rfl

theorem wd_mono {x y : Nat} (hx : fin .f32 x) (hy : fin .f32 y) (h : rg Ieee.single x ≤ rg Ieee.single y) : rg Ieee.double (wd x) ≤ rg Ieee.double (wd y) := by
  obtain ⟨_, _, h1, _, _⟩ := wd_facts hx
  obtain ⟨_, _, h2, _, _⟩ := wd_facts hy
  rcases Nat.lt_or_ge (rg Ieee.double (wd y)) (rg Ieee.double (wd x)) with hlt | hge
  · have := V_lt Ieee.double hlt
    rw [h1, h2] at this
    have := Nat.mul_le_mul_right (2 ^ gap) (V_le Ieee.single h)
    omega
  · exact hge

/-- Is a pole, as finite words, one of a mode? -/
def pok (x y : Nat) : Bool := ple (csq (some (wd x), some (wd y))) one64

theorem big_sq {x : Nat} (hx : fin .f32 x) : Rc Ieee.double (2 * Ieee.double.leastPlace) (V Ieee.double (rg Ieee.double (wd x)) * V Ieee.double (rg Ieee.double (wd x))) < Ieee.double.infRung := by
  obtain ⟨_, _, h1, _, _⟩ := wd_facts hx
  obtain ⟨A, hA⟩ : ∃ A : Nat, A = 139 := ⟨_, rfl⟩
  obtain ⟨S, hS⟩ : ∃ S : Nat, S = A + 138 := ⟨_, rfl⟩
  have hs : V Ieee.single (rg Ieee.single x) < 2 ^ S := by
    rw [hS, Nat.pow_add, hA]
    have : V Ieee.single (rg Ieee.single x) < V Ieee.single Ieee.single.infRung := V_lt Ieee.single hx
    rw [show V Ieee.single Ieee.single.infRung = 2 ^ 139 * 2 ^ 138 by decide +kernel] at this
    exact this
  rw [h1]
  obtain ⟨E, hE⟩ : ∃ E : Nat, E = 1278 := ⟨_, rfl⟩
  obtain ⟨D, hD⟩ : ∃ E : Nat, E = 1074 := ⟨_, rfl⟩
  have hb : Ieee.double.binade = 2 ^ 52 := rfl
  have hr : E * Ieee.double.binade + Ieee.double.binade < Ieee.double.infRung := by subst hE; decide
  have hV := V_ek Ieee.double (e := E) (k := Ieee.double.binade) (Or.inr (Nat.le_refl _)) (by omega)
  have hl : 2 * Ieee.double.leastPlace = Ieee.double.leastPlace - (D : Int) := by subst hD; decide
  have hx2 := Rc_exact Ieee.double (d := D) hr
  rw [hV] at hx2
  generalize hG : gap = G at *
  have hle : V Ieee.single (rg Ieee.single x) * 2 ^ G * (V Ieee.single (rg Ieee.single x) * 2 ^ G) ≤ Ieee.double.binade * 2 ^ E * 2 ^ D := by
    have a1 : V Ieee.single (rg Ieee.single x) * 2 ^ G ≤ 2 ^ (S + G) := by
      rw [Nat.pow_add]
      exact Nat.mul_le_mul_right _ (Nat.le_of_lt hs)
    refine Nat.le_trans (Nat.mul_le_mul a1 a1) ?_
    rw [hb, ← Nat.pow_add, ← Nat.pow_add, ← Nat.pow_add]
    refine Nat.pow_le_pow_right (by decide) ?_
    have : G = 925 := hG.symm
    omega
  have := Rc_mono Ieee.double hle (c := 2 * Ieee.double.leastPlace) (by decide)
  rw [hl] at this ⊢
  rw [hx2] at this
  omega

/-- The sum of squares, as a word; it rises with both. -/
theorem csq_word {x y : Nat} (hx : fin .f32 x) (hy : fin .f32 y) : ∃ c, csq (some (wd x), some (wd y)) = some c ∧ c < 2 ^ 64 ∧ sg Ieee.double c = false ∧ rg Ieee.double c =
    Rc Ieee.double Ieee.double.leastPlace (V Ieee.double (Rc Ieee.double (2 * Ieee.double.leastPlace) (V Ieee.double (rg Ieee.double (wd x)) * V Ieee.double (rg Ieee.double (wd x)))) + V Ieee.double (Rc Ieee.double (2 * Ieee.double.leastPlace) (V Ieee.double (rg Ieee.double (wd y)) * V Ieee.double (rg Ieee.double (wd y))))) := by
  obtain ⟨fx, _, _, _, _⟩ := wd_facts hx
  obtain ⟨fy, _, _, _, _⟩ := wd_facts hy
  obtain ⟨p, h1, _, h2, h3⟩ := mul_word fx fx
  obtain ⟨q, g1, _, g2, g3⟩ := mul_word fy fy
  rw [Bool.xor_self] at h2 g2
  have fp : fin .f64 p := by unfold fin; rw [h3]; exact big_sq hx
  have fq : fin .f64 q := by unfold fin; rw [g3]; exact big_sq hy
  obtain ⟨c, k1, k2, k3, k4, k5⟩ := add_word fp fq
  have hp := iv_pos h2
  have hq := iv_pos g2
  refine ⟨c, ?_, k2, ?_, ?_⟩
  · show fop .add .f64 (fop .mul .f64 (some (wd x)) (some (wd x))) (fop .mul .f64 (some (wd y)) (some (wd y))) = _
    rw [fop_fin, fop_fin, h1, g1, fop_fin, k1]
  · by_cases h0 : iv FloatKind.f64.format p + iv FloatKind.f64.format q = 0
    · exact (k4 h0).trans (by rw [h2, g2]; rfl)
    · refine (k3 h0).trans ?_
      rw [hp, hq]; simp; omega
  · refine k5.trans ?_
    rw [hp, hq, h3, g3]
    rfl

theorem pok_mono {x y x' y' : Nat} (hx : fin .f32 x) (hy : fin .f32 y) (hx' : fin .f32 x') (hy' : fin .f32 y') (h1 : rg Ieee.single x' ≤ rg Ieee.single x) (h2 : rg Ieee.single y' ≤ rg Ieee.single y) (h : pok x y = true) : pok x' y' = true := by
  obtain ⟨c, a1, a2, a3, a4⟩ := csq_word hx hy
  obtain ⟨d, b1, b2, b3, b4⟩ := csq_word hx' hy'
  have m1 := wd_mono hx' hx h1
  have m2 := wd_mono hy' hy h2
  have sq : ∀ {u v : Nat}, u ≤ v → Rc Ieee.double (2 * Ieee.double.leastPlace) (V Ieee.double u * V Ieee.double u) ≤ Rc Ieee.double (2 * Ieee.double.leastPlace) (V Ieee.double v * V Ieee.double v) := fun h => by
    have := V_le Ieee.double h
    exact Rc_mono Ieee.double (Nat.mul_le_mul this this) (by decide)
  have hle : rg Ieee.double d ≤ rg Ieee.double c := by
    rw [a4, b4]
    exact Rc_mono Ieee.double (Nat.add_le_add (V_le _ (sq m1)) (V_le _ (sq m2))) (Int.le_refl _)
  have hc : rg Ieee.double c ≤ Ieee.double.infRung := by rw [a4]; exact Rc_le_inf ..
  unfold pok at *
  rw [a1] at h
  rw [b1]
  have ho : one64 = some 4607182418800017408 := by decide +kernel
  have r1 : rg FloatKind.f64.format 4607182418800017408 ≤ FloatKind.f64.format.infRung := by decide
  have key : ∀ z : Nat, rg Ieee.double z ≤ Ieee.double.infRung → ple (some z) one64 = (compare (iv Ieee.double z) (iv Ieee.double 4607182418800017408) == .lt || compare (iv Ieee.double z) (iv Ieee.double 4607182418800017408) == .eq) := fun z hz => by
    unfold ple
    rw [ho]
    show ((FloatKind.f64.format.order z 4607182418800017408 == some .lt) || (FloatKind.f64.format.order z 4607182418800017408 == some .eq)) = _
    rw [order_le (k := .f64) hz r1]
    rfl
  rw [key c hc] at h
  rw [key d (Nat.le_trans hle hc)]
  have hv : iv Ieee.double d ≤ iv Ieee.double c := by
    rw [iv_pos a3, iv_pos b3]
    exact Int.ofNat_le.2 (V_le _ hle)
  have key2 : ∀ a b : Int, (compare a b == Ordering.lt || compare a b == Ordering.eq) = true ↔ a ≤ b := fun a b => by
    cases hc : compare a b with
    | lt => rw [Int.compare_eq_lt] at hc; simp; omega
    | eq => rw [Int.compare_eq_eq] at hc; simp; omega
    | gt => rw [Int.compare_eq_gt] at hc; simp; omega
  rw [key2] at h ⊢
  omega
end Go.Proofs.Ytfhaopdaakjghaa
