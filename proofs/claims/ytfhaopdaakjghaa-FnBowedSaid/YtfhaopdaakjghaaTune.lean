import Derived.Test.YtfhaopdaakjghaaMulS
namespace Go.Proofs.Ytfhaopdaakjghaa
open Go.RowKit Go.Fl

/-- The word y is worth what x is. -/
def Worth (y x : Nat) : Prop := y < 2 ^ 32 ∧ rg Ieee.single y = rg Ieee.single x ∧ (rg Ieee.single x ≠ 0 → sg Ieee.single y = sg Ieee.single x)

theorem nw_word {x re : Nat} (fx : fin .f32 x) (h : rg Ieee.double re = rg Ieee.double (wd x)) (hs : rg Ieee.double (wd x) ≠ 0 → sg Ieee.double re = sg Ieee.double (wd x)) : fin .f64 re ∧ Worth (nw re) x := by
  obtain ⟨w1, w2, w3, _, _⟩ := wd_facts fx
  have fre : fin .f64 re := by unfold fin; rw [show rg FloatKind.f64.format re = rg Ieee.double re from rfl, h]; exact w1
  refine ⟨fre, ?_⟩
  obtain ⟨m, e, r1, r2, _⟩ := read_fin Ieee.double fre
  have e1 : nw re = Ieee.single.nearest (sg Ieee.double re) m (Ieee.double.leastPlace + e) := by
    show Ieee.single.write (Ieee.double.read re) = _
    rw [r1]; rfl
  have hl : Ieee.double.leastPlace = Ieee.single.leastPlace - (gap : Int) := by decide
  have hle : Ieee.double.leastPlace ≤ Ieee.single.leastPlace := by decide
  rw [nearest_Rc Ieee.single _ _ hle, r2, h, w3, hl, show Rc Ieee.single (Ieee.single.leastPlace - (gap : Int)) (V Ieee.single (rg Ieee.single x) * 2 ^ gap) = rg Ieee.single x from Rc_exact Ieee.single fx] at e1
  obtain ⟨g1, g2, g3⟩ := word_facts .f32 (sg Ieee.double re) (r := rg Ieee.single x) (Nat.le_of_lt fx)
  rw [e1]
  refine ⟨g3, g2, fun h0 => ?_⟩
  refine g1.trans ?_
  rw [← w2]
  refine hs fun hz => h0 ?_
  rw [hz, V_zero] at w3
  rcases Nat.mul_eq_zero.1 w3.symm with h4 | h4
  · exact V_inj Ieee.single (h4.trans (V_zero _).symm)
  · have := Nat.two_pow_pos gap
    omega

theorem rg_zero64 : rg Ieee.double 0 = 0 := by decide
theorem wd_one : wd 1065353216 = oneW .f64 := by decide +kernel
theorem wd_zero : wd 0 = 0 := by decide +kernel

theorem Rc_same {f : Ieee.Format} {r : Nat} (h : r < f.infRung) : Rc f f.leastPlace (V f r) = r := by
  have := Rc_exact f (r := r) (d := 0) h
  simpa using this

theorem iv_sign {f : Ieee.Format} {x : Nat} (h : iv f x ≠ 0) : decide (iv f x < 0) = sg f x := by
  unfold iv at *
  cases hs : sg f x
  · simp [hs] at h ⊢
  · simp [hs] at h ⊢
    omega

theorem iv_ne {f : Ieee.Format} {x : Nat} (h : rg f x ≠ 0) : iv f x ≠ 0 := by
  have : 0 < V f (rg f x) := by
    have := V_lt f (Nat.pos_of_ne_zero h)
    omega
  intro h0
  have e := iv_abs f x
  rw [h0] at e
  simp at e
  omega

theorem tune_words {x y : Nat} (fx : fin .f32 x) (fy : fin .f32 y) : ∃ re im, CMul (wd x) (wd y) (wd 1065353216) (wd 0) re im ∧ fin .f64 re ∧ fin .f64 im ∧ Worth (nw re) x ∧ Worth (nw im) y := by
  obtain ⟨ax, _⟩ := wd_facts fx
  obtain ⟨ay, _⟩ := wd_facts fy
  rw [wd_one, wd_zero]
  obtain ⟨_, o1, o2, o3, _⟩ := V_one .f64
  have fo : fin .f64 (oneW .f64) := by unfold fin; rw [o2]; exact o3
  have f0 : fin .f64 0 := by unfold fin; decide
  obtain ⟨p, p1, p2, p3, p4⟩ := mul_word ax fo
  obtain ⟨q, q1, q2, q3, q4⟩ := mul_word ay f0
  obtain ⟨r, r1, r2, r3, r4⟩ := mul_word ax f0
  obtain ⟨s, s1, s2, s3, s4⟩ := mul_word ay fo
  have p5 := mul_one_rg ax o2 p4
  have s5 := mul_one_rg ay o2 s4
  have z0 : V FloatKind.f64.format (rg FloatKind.f64.format 0) = 0 := by rw [show rg FloatKind.f64.format 0 = 0 from rg_zero64, V_zero]
  have q5 : rg FloatKind.f64.format q = 0 := by rw [q4, z0, Nat.mul_zero]; rfl
  have r5 : rg FloatKind.f64.format r = 0 := by rw [r4, z0, Nat.mul_zero]; rfl
  rw [o1, Bool.xor_false] at p3 s3
  have fp : fin .f64 p := by unfold fin; rw [p5]; exact ax
  have fs : fin .f64 s := by unfold fin; rw [s5]; exact ay
  have fq : fin .f64 q := by unfold fin; rw [q5]; decide
  have fr : fin .f64 r := by unfold fin; rw [r5]; decide
  obtain ⟨re, a1, a2, a3, a4⟩ := sub_word fp fq
  obtain ⟨im, b1, b2, b3, b4, b5⟩ := add_word fr fs
  rw [iv_zero q5, Int.sub_zero] at a3 a4
  rw [iv_zero r5, Int.zero_add] at b3 b4 b5
  rw [iv_abs, p5, Rc_same ax] at a4
  rw [iv_abs, s5, Rc_same ay] at b5
  obtain ⟨c1, c2⟩ := nw_word (re := re) fx a4 (fun h => by
    have h0 : iv FloatKind.f64.format p ≠ 0 := iv_ne (by rw [p5]; exact h)
    exact ((a3 h0).trans (iv_sign h0)).trans p3)
  obtain ⟨d1, d2⟩ := nw_word (re := im) fy b5 (fun h => by
    have h0 : iv FloatKind.f64.format s ≠ 0 := iv_ne (by rw [s5]; exact h)
    exact ((b3 h0).trans (iv_sign h0)).trans s3)
  exact ⟨re, im, ⟨p, q, r, s, p1, q1, r1, s1, a1, b1⟩, c1, d1, c2, d2⟩

theorem tuneS_c {x y : Nat} (fx : fin .f32 x) (fy : fin .f32 y) (w : World) :
    Calls Try.prog 47 #[.complex .f32 x y, .complex .f32 1065353216 0] w fun e w' => (∃ u v, e = .returned (.complex .f32 u v) ∧ Worth u x ∧ Worth v y) ∧ w' = w := by
  obtain ⟨re, im, h, h1, h2, h3, h4⟩ := tune_words fx fy
  have f1 : fin .f32 1065353216 := by unfold fin; decide
  have f0 : fin .f32 0 := by unfold fin; decide
  have g3 : fin .f32 (nw re) := by unfold fin; exact Nat.lt_of_le_of_lt (Nat.le_of_eq h3.2.1) fx
  have g4 : fin .f32 (nw im) := by unfold fin; exact Nat.lt_of_le_of_lt (Nat.le_of_eq h4.2.1) fy
  refine (multiplyS_c fx fy f1 f0 h h1 h2 g3 g4 w).mono ?_
  rintro e _ ⟨rfl, rfl⟩
  exact ⟨⟨_, _, rfl, h3, h4⟩, rfl⟩
end Go.Proofs.Ytfhaopdaakjghaa
