import Derived.Test.YtfhaopdaakjghaaBowB
namespace Go.Proofs.Ytfhaopdaakjghaa
open Go.RowKit Go.Fl

/-- The rung that a rounding gives does not depend on the sign. -/
theorem nearest_twin (f : Ieee.Format) (mag : Nat) (place : Int) : ∃ R, R ≤ f.infRung ∧ ∀ s, f.nearest s mag place = f.word s R := by
  unfold Ieee.Format.nearest
  by_cases h : mag = 0
  · exact ⟨0, Nat.zero_le _, fun s => by rw [if_pos h]⟩
  · refine ⟨min ((max (place + mag.log2 - f.fractionBits) f.leastPlace - f.leastPlace).toNat * f.binade + Ieee.Toward.even.cut false (mag <<< (place - max (place + mag.log2 - f.fractionBits) f.leastPlace).toNat) (max (place + mag.log2 - f.fractionBits) f.leastPlace - place).toNat) f.infRung, Nat.min_le_right _ _, fun s => ?_⟩
    rw [if_neg h]
    rfl

/-- What the words of one finite rung read as. -/
theorem read_twin (f : Ieee.Format) {r : Nat} (h : r < f.infRung) (h0 : r ≠ 0) : ∃ (m : Nat) (p : Int), m ≠ 0 ∧ ∀ x, rg f x = r → f.read x = .number (sg f x) m p := by
  have hB := binade_pos f
  unfold Ieee.Format.read
  by_cases h1 : r < f.binade
  · refine ⟨r, f.leastPlace, h0, fun x hx => ?_⟩
    unfold rg at hx
    dsimp only
    rw [hx, if_pos h1]
    rfl
  · refine ⟨f.binade + r % f.binade, f.leastPlace + (r / f.binade - 1 : Nat), by omega, fun x hx => ?_⟩
    unfold rg at hx
    dsimp only
    rw [hx, if_neg h1, if_pos h]
    rfl

/-- Quotients of a finite number by the words of one finite rung. -/
theorem quo_twin (f : Ieee.Format) {q r : Nat} (hq : rg f q < f.infRung) (h : r < f.infRung) (h0 : r ≠ 0) : ∃ R, R ≤ f.infRung ∧ ∀ x, rg f x = r → f.div q x = some (f.word (sg f q ^^ sg f x) R) := by
  obtain ⟨m, e, h1, _⟩ := read_fin f hq
  obtain ⟨n, p, hn, h2⟩ := read_twin f h h0
  unfold Ieee.Format.div
  rw [h1]
  simp only [Ieee.Datum.quotient]
  obtain ⟨R, hR, hw⟩ := nearest_twin f (2 * ((m <<< (f.fractionBits + 2 + n.log2 - m.log2)) / n) + ((m <<< (f.fractionBits + 2 + n.log2 - m.log2)) % n != 0).toNat) (f.leastPlace + e - p - (f.fractionBits + 2 + n.log2 - m.log2 : Nat) - 1)
  refine ⟨R, hR, fun x hx => ?_⟩
  rw [h2 x hx]
  simp only [if_neg hn, Option.map_some, Ieee.Format.write]
  rw [hw]

/-- A product of a number that may be infinite and a finite one that is not zero, of one sign. -/
theorem mul_same {x y : Nat} (hx : Num x) (hy : fin .f32 y) (h0 : rg Ieee.single y ≠ 0) (hs : sg Ieee.single x = sg Ieee.single y) : ∃ r, floatBits .mul .f32 x y = some r ∧ (FloatKind.f32.format.order r 0 == some .lt) = false := by
  have key : ∀ r, sg Ieee.single r = false → rg Ieee.single r ≤ Ieee.single.infRung → (FloatKind.f32.format.order r 0 == some .lt) = false := fun r h1 h2 => by
    rw [lt_iv (k := .f32) (not_nan_le (k := .f32) h2) (zero_not_nan .f32)]
    have h3 : iv FloatKind.f32.format r = (V Ieee.single (rg Ieee.single r) : Nat) := by
      unfold iv
      rw [show sg FloatKind.f32.format r = false from h1]
      rfl
    rw [h3, iv_lit_zero]
    simp
  rcases Nat.lt_or_eq_of_le hx.2 with h | h
  · obtain ⟨r, h1, h2, h3, h4⟩ := mul_word (k := .f32) h hy
    refine ⟨r, h1, key r ?_ ?_⟩
    · have h3' : sg Ieee.single r = (sg Ieee.single x ^^ sg Ieee.single y) := h3
      rw [h3', hs, Bool.xor_self]
    · show rg FloatKind.f32.format r ≤ _
      rw [h4]; exact Rc_le_inf _ _ _
  · have h1 := read_inf Ieee.single (okf .f32) h
    obtain ⟨n, p, hn, h2⟩ := read_twin Ieee.single hy h0
    have h2 := h2 y rfl
    obtain ⟨g1, g2, g3⟩ := word_facts .f32 false (Nat.le_refl _)
    refine ⟨Ieee.single.word false Ieee.single.infRung, ?_, key _ g1 (Nat.le_of_eq g2)⟩
    show Ieee.Format.mul Ieee.single x y = _
    unfold Ieee.Format.mul
    rw [h1, h2, hs]
    simp [Ieee.Datum.product, hn, Ieee.Format.write]

theorem neg_facts {x : Nat} (h : x < 2 ^ 32) : sg Ieee.single (Op.negFloat .f32 x) = !sg Ieee.single x ∧ rg Ieee.single (Op.negFloat .f32 x) = rg Ieee.single x ∧ Op.negFloat .f32 x < 2 ^ 32 := by
  have e := negFloat_word .f32 (b := x) h
  have h1 := rg_lt Ieee.single x
  rw [e]
  refine ⟨sg_word Ieee.single h1, rg_word Ieee.single h1, ?_⟩
  have h2 : (2 : Nat) ^ 32 = 2 * Ieee.single.signWeight := by decide
  rw [h2]
  show Ieee.single.word _ (rg Ieee.single x) < _
  unfold Ieee.Format.word
  split <;> omega

theorem iv_of {x y : Nat} (hr : rg Ieee.single y = rg Ieee.single x) (hs : sg Ieee.single y = !sg Ieee.single x) : iv FloatKind.f32.format y = - iv FloatKind.f32.format x := by
  unfold iv
  rw [show sg FloatKind.f32.format y = _ from hs, show rg FloatKind.f32.format y = _ from hr]
  show (if (!sg Ieee.single x) = true then -(V Ieee.single (rg Ieee.single x) : Int) else _) = -(if sg Ieee.single x = true then -(V Ieee.single (rg Ieee.single x) : Int) else (V Ieee.single (rg Ieee.single x) : Int))
  cases sg Ieee.single x <;> simp
  rfl

theorem iv_neg {x : Nat} (h : x < 2 ^ 32) : iv FloatKind.f32.format (Op.negFloat .f32 x) = - iv FloatKind.f32.format x :=
  iv_of (neg_facts h).2.1 (neg_facts h).1

/-- The difference for the opposite bow and velocity. -/
theorem sub_neg {x y d : Nat} (hx : x < 2 ^ 32) (hy : y < 2 ^ 32) (fx : fin .f32 x) (fy : fin .f32 y) (h : floatBits .sub .f32 x y = some d) :
    ∃ d2, floatBits .sub .f32 (Op.negFloat .f32 x) (Op.negFloat .f32 y) = some d2 ∧ rg Ieee.single d2 = rg Ieee.single d ∧ (rg Ieee.single d ≠ 0 → sg Ieee.single d2 = !sg Ieee.single d) ∧ d2 < 2 ^ 32 ∧ d < 2 ^ 32 := by
  obtain ⟨r, h1, h2, h3, h4⟩ := sub_word fx fy
  rw [h] at h1; cases h1
  have fx2 : fin .f32 (Op.negFloat .f32 x) := by unfold fin; rw [show rg FloatKind.f32.format _ = _ from (neg_facts hx).2.1]; exact fx
  have fy2 : fin .f32 (Op.negFloat .f32 y) := by unfold fin; rw [show rg FloatKind.f32.format _ = _ from (neg_facts hy).2.1]; exact fy
  obtain ⟨s, g1, g2, g3, g4⟩ := sub_word fx2 fy2
  rw [iv_neg hx, iv_neg hy] at g3 g4
  have e : - iv FloatKind.f32.format x - - iv FloatKind.f32.format y = - (iv FloatKind.f32.format x - iv FloatKind.f32.format y) := by omega
  rw [e] at g3 g4
  generalize iv FloatKind.f32.format x - iv FloatKind.f32.format y = D at *
  rw [Int.natAbs_neg, ← h4] at g4
  refine ⟨s, g1, g4, fun h0 => ?_, g2, h2⟩
  have hD : D ≠ 0 := fun e => h0 (by
    show rg FloatKind.f32.format d = 0
    rw [h4, e]
    rfl)
  have a1 := h3 hD
  have a2 := g3 (by omega)
  show sg FloatKind.f32.format s = !sg FloatKind.f32.format d
  rw [a1, a2]
  by_cases hd : D < 0
  · rw [decide_eq_true hd, decide_eq_false (by omega)]; rfl
  · rw [decide_eq_false hd, decide_eq_true (by omega)]; rfl

/-- What the law asks of the forces. -/
structure Forced (x y g : Nat) (d one two : Nat) : Prop where
  sub : floatBits .sub .f32 x y = some d
  first : bowForce (some x) (some y) (some g) = some one
  other : bowForce (some (Op.negFloat .f32 x)) (some (Op.negFloat .f32 y)) (some g) = some two
  turned : (FloatKind.f32.format.order one (Op.negFloat .f32 two) == some .eq) = true
  cases : (((FloatKind.f32.format.order d g == some .lt || FloatKind.f32.format.order d g == some .eq) = true ∧ (FloatKind.f32.format.order (Op.negFloat .f32 d) g == some .lt || FloatKind.f32.format.order (Op.negFloat .f32 d) g == some .eq) = true) ∧ (FloatKind.f32.format.order one d == some .eq) = true) ∨
    (((FloatKind.f32.format.order d g == some .lt || FloatKind.f32.format.order d g == some .eq) = false ∨ (FloatKind.f32.format.order (Op.negFloat .f32 d) g == some .lt || FloatKind.f32.format.order (Op.negFloat .f32 d) g == some .eq) = false) ∧ ∃ r, floatBits .mul .f32 one d = some r ∧ (FloatKind.f32.format.order r 0 == some .lt) = false)
  lt : d < 2 ^ 32 ∧ one < 2 ^ 32 ∧ two < 2 ^ 32

theorem sticks_iff {b v d g : Nat} (h : floatBits .sub .f32 b v = some d) (hd : fin .f32 d) (hg : fin .f32 g) (hgs : sg Ieee.single g = false) : bowSticks (some b) (some v) (some g) = decide (V Ieee.single (rg Ieee.single d) ≤ V Ieee.single (rg Ieee.single g)) := by
  have e : bowD (some b) (some v) = some d := h
  have a : bowSticks (some b) (some v) (some g) = (FloatKind.f32.format.order (rg FloatKind.f32.format d) g == some .lt || FloatKind.f32.format.order (rg FloatKind.f32.format d) g == some .eq) := by
    unfold bowSticks
    rw [e]
    rfl
  have n1 : rg FloatKind.f32.format (rg FloatKind.f32.format d) ≤ FloatKind.f32.format.infRung := by rw [rg_rg]; exact Nat.le_of_lt hd
  rw [a, le_iv (k := .f32) (not_nan_le n1) (not_nan_le (Nat.le_of_lt hg))]
  have i1 : iv FloatKind.f32.format (rg FloatKind.f32.format d) = (V Ieee.single (rg Ieee.single d) : Nat) := by
    unfold iv
    rw [rg_rg, sg_rg]
    rfl
  have i2 : iv FloatKind.f32.format g = (V Ieee.single (rg Ieee.single g) : Nat) := by
    unfold iv
    rw [show sg FloatKind.f32.format g = false from hgs]
    rfl
  rw [i1, i2]
  by_cases hh : V Ieee.single (rg Ieee.single d) ≤ V Ieee.single (rg Ieee.single g)
  · simp [hh]
  · simp [hh]

theorem word32 (s : Bool) {R : Nat} (h : R ≤ Ieee.single.infRung) : ∃ W : Nat, Ieee.single.word s R = W ∧ sg Ieee.single W = s ∧ rg Ieee.single W = R ∧ W < 2 ^ 32 := ⟨Ieee.single.word s R, rfl, word_facts .f32 s h⟩

theorem forced {x y g : Nat} (hx : Lim .f32 3 x) (hy : Lim .f32 3 y) (hg : Lim .f32 3 g) (hgs : sg Ieee.single g = false) : ∃ d one two, Forced x y g d one two := by
  have fx : fin .f32 x := hx.fin (by omega)
  have fy : fin .f32 y := hy.fin (by omega)
  have fg : fin .f32 g := hg.fin (by omega)
  obtain ⟨h, hdl⟩ := lim_sub hx hy (by omega)
  generalize fo .sub .f32 x y = d at *
  have fd : fin .f32 d := hdl.fin (by omega)
  obtain ⟨d2, h2, r2, s2, l2, ld⟩ := sub_neg hx.1 hy.1 fx fy h
  have fd2 : fin .f32 d2 := by unfold fin; rw [show rg FloatKind.f32.format d2 = _ from r2]; exact fd
  have t1 := sticks_iff h fd fg hgs
  have t2 := sticks_iff h2 fd2 fg hgs
  rw [r2] at t2
  have nd : (FloatKind.f32.decode d).isNaN = false := not_nan_le (k := .f32) (Nat.le_of_lt fd)
  have ng : (FloatKind.f32.decode g).isNaN = false := not_nan_le (k := .f32) (Nat.le_of_lt fg)
  have nnd : (FloatKind.f32.decode (Op.negFloat .f32 d)).isNaN = false := not_nan_le (k := .f32) (by rw [show rg FloatKind.f32.format _ = _ from (neg_facts ld).2.1]; exact Nat.le_of_lt fd)
  have ig : iv FloatKind.f32.format g = (V Ieee.single (rg Ieee.single g) : Nat) := by
    unfold iv
    rw [show sg FloatKind.f32.format g = false from hgs]
    rfl
  have id : iv FloatKind.f32.format d = (V Ieee.single (rg Ieee.single d) : Nat) ∨ iv FloatKind.f32.format d = -(V Ieee.single (rg Ieee.single d) : Nat) := by
    unfold iv
    cases sg FloatKind.f32.format d
    · exact Or.inl rfl
    · exact Or.inr rfl
  have o1 := le_iv nd ng
  have o2 := le_iv nnd ng
  rw [iv_neg ld] at o2
  rw [ig] at o1 o2
  by_cases hs : V Ieee.single (rg Ieee.single d) ≤ V Ieee.single (rg Ieee.single g)
  · rw [decide_eq_true hs] at t1 t2
    have b1 := bow_yes t1
    have b2 := bow_yes t2
    refine ⟨d, d, d2, h, b1.trans h, b2.trans h2, ?_, Or.inl ⟨⟨?_, ?_⟩, ?_⟩, ld, ld, l2⟩
    · have nd2 : (FloatKind.f32.decode (Op.negFloat .f32 d2)).isNaN = false := not_nan_le (k := .f32) (by rw [show rg FloatKind.f32.format _ = _ from (neg_facts l2).2.1]; exact Nat.le_of_lt fd2)
      rw [eq_iv nd nd2, iv_neg l2]
      by_cases h0 : rg Ieee.single d = 0
      · have z1 := (iv_zero_iff FloatKind.f32.format d).2 h0
        have z2 := (iv_zero_iff FloatKind.f32.format d2).2 (r2.trans h0)
        rw [z1, z2]; rfl
      · rw [iv_of r2 (s2 h0)]; simp
    · rw [o1]; simp; omega
    · rw [o2]; simp; omega
    · rw [order_self nd]; rfl
  · rw [decide_eq_false hs] at t1 t2
    have b1 := bow_no t1
    have b2 := bow_no t2
    have h0 : rg Ieee.single d ≠ 0 := fun e => by rw [e, V_zero] at hs; omega
    obtain ⟨hq, lq⟩ := lim_mul hg hg (by omega)
    have sq : sg Ieee.single (fo .mul .f32 g g) = false := by
      obtain ⟨r, g1, _, g2, _⟩ := mul_word fg fg
      rw [hq] at g1; cases g1
      have g3 : sg Ieee.single (fo .mul .f32 g g) = (sg Ieee.single g ^^ sg Ieee.single g) := g2
      rw [g3, Bool.xor_self]
    generalize fo .mul .f32 g g = q at *
    obtain ⟨R, hR, hdiv⟩ := quo_twin Ieee.single (q := q) (r := rg Ieee.single d) (lq.fin (by omega)) fd h0
    have q1 := hdiv d rfl
    have q2 := hdiv d2 r2
    rw [sq, Bool.false_xor] at q1 q2
    rw [s2 h0] at q2
    obtain ⟨W1, e1, w1, w2, w3⟩ := word32 (sg Ieee.single d) hR
    obtain ⟨W2, e2, v1, v2, v3⟩ := word32 (!sg Ieee.single d) hR
    rw [e1] at q1
    rw [e2] at q2
    have B1 : bowForce (some x) (some y) (some g) = some W1 := by
      rw [b1, show fop .mul .f32 (some g) (some g) = some q from hq, show bowD (some x) (some y) = some d from h]
      exact q1
    have B2 : bowForce (some (Op.negFloat .f32 x)) (some (Op.negFloat .f32 y)) (some g) = some W2 := by
      rw [b2, show fop .mul .f32 (some g) (some g) = some q from hq, show bowD (some (Op.negFloat .f32 x)) (some (Op.negFloat .f32 y)) = some d2 from h2]
      exact q2
    have n1 : (FloatKind.f32.decode W1).isNaN = false := not_nan_le (k := .f32) (Nat.le_trans (Nat.le_of_eq w2) hR)
    have n2 : (FloatKind.f32.decode (Op.negFloat .f32 W2)).isNaN = false := not_nan_le (k := .f32) (Nat.le_trans (Nat.le_of_eq ((neg_facts v3).2.1.trans v2)) hR)
    refine ⟨d, W1, W2, h, B1, B2, ?_, Or.inr ⟨?_, ?_⟩, ld, w3, v3⟩
    · rw [eq_iv n1 n2, iv_neg v3, iv_of (v2.trans w2.symm) (by rw [v1, w1])]
      simp
    · rcases id with e | e
      · left; rw [o1, e]; simp; omega
      · right; rw [o2, e]; simp; omega
    · exact mul_same ⟨w3, Nat.le_trans (Nat.le_of_eq w2) hR⟩ fd h0 w1
end Go.Proofs.Ytfhaopdaakjghaa
