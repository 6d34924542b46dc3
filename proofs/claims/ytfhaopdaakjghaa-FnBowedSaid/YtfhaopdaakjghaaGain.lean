import Derived.Test.YtfhaopdaakjghaaPw
namespace Go.Proofs.Ytfhaopdaakjghaa
open Go.RowKit Go.Fl

theorem word_plus {f : Ieee.Format} (r : Nat) : f.word false r = r := by unfold Ieee.Format.word; simp

theorem ple_rung {r g : Nat} (hr : r ≤ Ieee.double.infRung) (hg : g ≤ Ieee.double.infRung) : ple (some r) (some g) = decide (r ≤ g) := by
  obtain ⟨a1, a2, _⟩ := word_facts .f64 false hr
  obtain ⟨b1, b2, _⟩ := word_facts .f64 false hg
  rw [word_plus] at a1 a2 b1 b2
  unfold ple
  show ((FloatKind.f64.format.order r g == some .lt) || (FloatKind.f64.format.order r g == some .eq)) = _
  rw [order_le (k := .f64) (by rw [a2]; exact hr) (by rw [b2]; exact hg), iv_pos a1, iv_pos b1, a2, b2]
  rcases Nat.lt_trichotomy r g with h | h | h
  · have := V_lt FloatKind.f64.format h
    rw [show compare ((V FloatKind.f64.format r : Nat) : Int) (V FloatKind.f64.format g : Nat) = .lt by rw [Int.compare_eq_lt]; omega]
    simp; omega
  · subst h
    simp
  · have := V_lt FloatKind.f64.format h
    rw [show compare ((V FloatKind.f64.format r : Nat) : Int) (V FloatKind.f64.format g : Nat) = .gt by rw [Int.compare_eq_gt]; omega]
    simp; omega

/-- Is a gain, as words, one of a mode? -/
def gok (c d : Nat) : Bool := cfin (wide (cl .f32 c, cl .f32 d)) && ple (fabs .f64 (wide (cl .f32 c, cl .f32 d)).1) gain64 && ple (fabs .f64 (wide (cl .f32 c, cl .f32 d)).2) gain64

theorem gain64_eq : gain64 = some (pwr .f64 10) := by decide +kernel

theorem abs_gain {x : Nat} (h : fin .f32 x) : ple (fabs .f64 (fconv .f32 .f64 (cl .f32 x))) gain64 = decide (rg Ieee.single x ≤ pwr .f32 10) := by
  obtain ⟨h1, _, h2, _, h3⟩ := wd_facts h
  rw [h3, gain64_eq]
  show ple (some (rg Ieee.double (wd x))) _ = _
  have h1' : rg Ieee.double (wd x) < Ieee.double.infRung := h1
  have h10 : pwr .f64 10 ≤ Ieee.double.infRung := by decide
  rw [ple_rung (Nat.le_of_lt h1') h10]
  rcases Nat.lt_or_ge (pwr .f32 10) (rg Ieee.single x) with hlt | hge
  · have h4 := V_lt Ieee.single hlt
    have h5 : V Ieee.double (pwr .f64 10) < V Ieee.double (rg Ieee.double (wd x)) := by
      rw [h2, pwr_gap]; exact Nat.mul_lt_mul_of_pos_right h4 (Nat.two_pow_pos _)
    have h6 := (V_lt_iff Ieee.double).1 h5
    rw [decide_eq_false (by omega), decide_eq_false (by omega)]
  · have h6 : rg Ieee.double (wd x) ≤ pwr .f64 10 := by
      rcases Nat.lt_or_ge (pwr .f64 10) (rg Ieee.double (wd x)) with h7 | h7
      · have h8 := V_lt Ieee.double h7
        rw [h2, pwr_gap] at h8
        have h9 := Nat.mul_le_mul_right (2 ^ gap) (V_le Ieee.single hge)
        exact absurd (Nat.lt_of_lt_of_le h8 h9) (Nat.lt_irrefl _)
      · exact h7
    rw [decide_eq_true h6, decide_eq_true hge]

theorem gok_iff (c d : Nat) : gok c d = true ↔ fin .f32 c ∧ fin .f32 d ∧ rg Ieee.single c ≤ pwr .f32 10 ∧ rg Ieee.single d ≤ pwr .f32 10 := by
  unfold gok
  constructor
  · intro h
    simp only [Bool.and_eq_true] at h
    obtain ⟨⟨h1, h2⟩, h3⟩ := h
    unfold cfin wide at h1
    simp only [Bool.and_eq_true] at h1
    have fc := fin_of h1.1
    have fd := fin_of h1.2
    have e1 : ple (fabs .f64 (fconv .f32 .f64 (cl .f32 c))) gain64 = true := h2
    have e2 : ple (fabs .f64 (fconv .f32 .f64 (cl .f32 d))) gain64 = true := h3
    rw [abs_gain fc] at e1
    rw [abs_gain fd] at e2
    exact ⟨fc, fd, of_decide_eq_true e1, of_decide_eq_true e2⟩
  · rintro ⟨fc, fd, h1, h2⟩
    simp only [Bool.and_eq_true]
    refine ⟨⟨?_, ?_⟩, ?_⟩
    · unfold cfin wide isFin
      rw [(wd_facts fc).2.2.2.2, (wd_facts fd).2.2.2.2]
      simp only [Bool.and_eq_true, decide_eq_true_eq]
      exact ⟨(wd_facts fc).1, (wd_facts fd).1⟩
    · show ple (fabs .f64 (fconv .f32 .f64 (cl .f32 c))) gain64 = true
      rw [abs_gain fc]; exact decide_eq_true h1
    · show ple (fabs .f64 (fconv .f32 .f64 (cl .f32 d))) gain64 = true
      rw [abs_gain fd]; exact decide_eq_true h2

/-- The limits of a mode's parts. -/
structure MLim (x : MW) : Prop where
  a : Lim .f32 0 x.a
  b : Lim .f32 0 x.b
  c : Lim .f32 10 x.c
  d : Lim .f32 10 x.d

theorem one64_eq : one64 = some (oneW .f64) := by decide +kernel

theorem pole_one {x y : Nat} (hx : fin .f32 x) (hy : fin .f32 y) (h : pok x y = true) : rg Ieee.single x ≤ oneW .f32 ∧ rg Ieee.single y ≤ oneW .f32 := by
  obtain ⟨c, a1, a2, a3, a4⟩ := csq_word hx hy
  unfold pok at h
  rw [a1, one64_eq] at h
  have hc : rg Ieee.double c ≤ Ieee.double.infRung := by rw [a4]; exact Rc_le_inf ..
  have hcw : c = rg Ieee.double c := by
    have := word_sg_rg Ieee.double a2
    rw [a3, word_plus] at this
    exact this.symm
  rw [hcw, ple_rung hc (by decide)] at h
  have hle : rg Ieee.double c ≤ oneW .f64 := of_decide_eq_true h
  rw [a4] at hle
  obtain ⟨dd, e1, e2, _⟩ := dep_ex .f64
  have key : ∀ {z P Q : Nat}, fin .f32 z → Rc Ieee.double (2 * Ieee.double.leastPlace) (V Ieee.double (rg Ieee.double (wd z)) * V Ieee.double (rg Ieee.double (wd z))) = P → Rc Ieee.double Ieee.double.leastPlace (V Ieee.double P + V Ieee.double Q) ≤ oneW .f64 → rg Ieee.single z ≤ oneW .f32 := fun {z P Q} hz hP hs => by
    obtain ⟨w1, _, w2, _, _⟩ := wd_facts hz
    rcases Nat.lt_or_ge (oneW .f32) (rg Ieee.single z) with hlt | hge
    · exfalso
      have w1' : rg Ieee.double (wd z) < Ieee.double.infRung := w1
      have hA : oneW .f64 < rg Ieee.double (wd z) := by
        apply (V_lt_iff Ieee.double).1
        rw [w2]
        have g0 := pwr_gap 0
        have p64 : pwr .f64 0 = oneW .f64 := by unfold pwr; rw [Nat.zero_mul, Nat.zero_add]
        have p32 : pwr .f32 0 = oneW .f32 := by unfold pwr; rw [Nat.zero_mul, Nat.zero_add]
        rw [p64, p32] at g0
        rw [g0]
        exact Nat.mul_lt_mul_of_pos_right (V_lt Ieee.single hlt) (Nat.two_pow_pos _)
      have h5 := Rc_mono Ieee.double (Nat.mul_le_mul_left (V Ieee.double (rg Ieee.double (wd z))) (V_le Ieee.double (Nat.le_of_lt hA))) (c := 2 * Ieee.double.leastPlace) (by decide)
      have e1' : V Ieee.double (oneW .f64) = 2 ^ dd := e1
      have e2' : 2 * Ieee.double.leastPlace = Ieee.double.leastPlace - dd := e2
      rw [hP, e1', e2', Rc_exact Ieee.double w1'] at h5
      have h6 := Rc_mono Ieee.double (Nat.le_trans (V_le Ieee.double h5) (Nat.le_add_right _ (V Ieee.double Q))) (c := Ieee.double.leastPlace) (Int.le_refl _)
      rw [Rc_same w1'] at h6
      omega
    · exact hge
  refine ⟨key hx rfl hle, ?_⟩
  rw [Nat.add_comm] at hle
  exact key hy rfl hle

theorem MLim.of {x : MW} (h : wfX x) (k : okB x = true) : MLim x := by
  obtain ⟨fa, fb, hp, hg⟩ := (okB_iff x h).1 k
  obtain ⟨_, _, g1, g2⟩ := (gok_iff x.c x.d).1 hg
  obtain ⟨p1, p2⟩ := pole_one fa fb hp
  have p32 : pwr .f32 0 = oneW .f32 := by unfold pwr; rw [Nat.zero_mul, Nat.zero_add]
  exact ⟨⟨h.1, by rw [p32]; exact p1⟩, ⟨h.2.1, by rw [p32]; exact p2⟩, ⟨h.2.2.1, g1⟩, ⟨h.2.2.2, g2⟩⟩

/-- A mode whose gain becomes no greater stays one. -/
theorem okB_gain {x : MW} {p q : Nat} (h : wfX x) (hk : okB x = true) (hp : p < 2 ^ 32) (hq : q < 2 ^ 32) (h1 : rg Ieee.single p ≤ rg Ieee.single x.c) (h2 : rg Ieee.single q ≤ rg Ieee.single x.d) :
    wfX ⟨x.a, x.b, p, q⟩ ∧ okB ⟨x.a, x.b, p, q⟩ = true := by
  obtain ⟨fa, fb, hpk, hg⟩ := (okB_iff x h).1 hk
  obtain ⟨fc, fd, g1, g2⟩ := (gok_iff x.c x.d).1 hg
  have hw : wfX ⟨x.a, x.b, p, q⟩ := ⟨h.1, h.2.1, hp, hq⟩
  exact ⟨hw, (okB_iff _ hw).2 ⟨fa, fb, hpk, (gok_iff p q).2 ⟨Nat.lt_of_le_of_lt h1 fc, Nat.lt_of_le_of_lt h2 fd, Nat.le_trans h1 g1, Nat.le_trans h2 g2⟩⟩⟩
end Go.Proofs.Ytfhaopdaakjghaa
