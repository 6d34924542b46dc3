import Derived.Test.YtfhaopdaakjghaaFloat
namespace Go.Fl
open Go

/-- A quotient, to the nearest whole number, of two the even one. -/
def rhe (n g : Nat) : Nat := n / g + (decide (g < 2 * (n % g)) || ((g == 2 * (n % g)) && (n / g % 2 == 1))).toNat

theorem cut_rhe (n d : Nat) : Ieee.Toward.even.cut false n d = rhe n (2 ^ d) := by
  unfold Ieee.Toward.cut
  dsimp only
  by_cases hd : d ≤ n.log2 + 2
  · rw [Nat.min_eq_left hd, Nat.shiftLeft_eq, Nat.one_mul]; rfl
  · rw [Nat.min_eq_right (by omega), Nat.shiftLeft_eq, Nat.one_mul]
    have h1 : n < 2 ^ (n.log2 + 1) := Nat.lt_log2_self
    have h2 : (2 : Nat) ^ (n.log2 + 2) = 2 * 2 ^ (n.log2 + 1) := by rw [Nat.pow_succ, Nat.mul_comm]
    have h3 : (2 : Nat) ^ (n.log2 + 2) ≤ 2 ^ d := Nat.pow_le_pow_right (by decide) (by omega)
    unfold rhe
    generalize (2 : Nat) ^ (n.log2 + 2) = G at *
    generalize (2 : Nat) ^ (n.log2 + 1) = H at *
    generalize (2 : Nat) ^ d = D at *
    have a1 : n < G := by omega
    have a2 : n < D := by omega
    have b1 : ¬ G < 2 * n := by omega
    have b2 : ¬ D < 2 * n := by omega
    have b3 : (G == 2 * n) = false := by simp; omega
    have b4 : (D == 2 * n) = false := by simp; omega
    simp only [Nat.div_eq_of_lt a1, Nat.mod_eq_of_lt a1, Nat.div_eq_of_lt a2, Nat.mod_eq_of_lt a2, b1, b2, b3, b4, decide_false, Bool.false_and, Bool.or_false]

theorem rhe_mul {n g h : Nat} (hh : 0 < h) : rhe (n * h) (g * h) = rhe n g := by
  unfold rhe
  rw [Nat.mul_div_mul_right _ _ hh, Nat.mul_mod_mul_right]
  have e1 : (g * h < 2 * (n % g * h)) ↔ (g < 2 * (n % g)) := by
    rw [← Nat.mul_assoc]; exact Nat.mul_lt_mul_right hh
  have e2 : (g * h = 2 * (n % g * h)) ↔ (g = 2 * (n % g)) := by
    rw [← Nat.mul_assoc]; exact Nat.mul_left_inj (by omega)
  have e3 : (g * h == 2 * (n % g * h)) = (g == 2 * (n % g)) := by
    rw [Bool.eq_iff_iff]; simp only [beq_iff_eq]; exact e2
  rw [e3]
  simp only [e1]

theorem rhe_mono {n m g : Nat} (hg : 0 < g) (h : n ≤ m) : rhe n g ≤ rhe m g := by
  have h1 := Nat.div_add_mod n g
  have h2 := Nat.div_add_mod m g
  have h3 := Nat.mod_lt n hg
  have h4 := Nat.mod_lt m hg
  have hq : n / g ≤ m / g := Nat.div_le_div_right h
  unfold rhe
  rcases Nat.lt_or_eq_of_le hq with hlt | heq
  · have : ∀ b : Bool, b.toNat ≤ 1 := fun b => by cases b <;> decide
    have a1 := this (decide (g < 2 * (n % g)) || ((g == 2 * (n % g)) && (n / g % 2 == 1)))
    omega
  · rw [heq] at h1 ⊢
    generalize m / g = q at *
    generalize n % g = r at *
    generalize m % g = s at *
    have hrs : r ≤ s := by omega
    by_cases c1 : g < 2 * r
    · have c2 : g < 2 * s := by omega
      simp [c1, c2]
    · by_cases c2 : g < 2 * s
      · have : ∀ b : Bool, b.toNat ≤ 1 := fun b => by cases b <;> decide
        have a1 := this (decide (g < 2 * r) || ((g == 2 * r) && (q % 2 == 1)))
        simp only [c2, decide_true, Bool.true_or, Bool.toNat_true]
        omega
      · by_cases c3 : g = 2 * r
        · have : s = r := by omega
          subst this
          exact Nat.le_refl _
        · have e3 : (g == 2 * r) = false := by simp [c3]
          simp [c1, e3]

variable (f : Ieee.Format)

/-- The rung does not depend on how a number is parted into digits and place. -/
theorem rung_scale {mag a : Nat} (h0 : mag ≠ 0) (c : Int) (hc : c ≤ f.leastPlace) : rung f mag (c + a) = rung f (mag * 2 ^ a) c := by
  have hlog : (mag * 2 ^ a).log2 = mag.log2 + a := by
    apply log2_eq
    · rw [Nat.pow_add]; exact Nat.mul_le_mul_right _ (Nat.log2_self_le h0)
    · rw [show mag.log2 + a + 1 = (mag.log2 + 1) + a by omega, Nat.pow_add]
      exact Nat.mul_lt_mul_of_pos_right Nat.lt_log2_self (Nat.two_pow_pos _)
  unfold rung
  dsimp only
  rw [hlog, show c + (a : Int) + (mag.log2 : Int) - f.fractionBits = c + ((mag.log2 + a : Nat) : Int) - f.fractionBits by omega]
  have hl : c ≤ max (c + ((mag.log2 + a : Nat) : Int) - f.fractionBits) f.leastPlace := by omega
  generalize max (c + ((mag.log2 + a : Nat) : Int) - f.fractionBits) f.leastPlace = last at *
  congr 1
  rw [show (c - last).toNat = 0 by omega, Nat.shiftLeft_zero, cut_rhe, cut_rhe, Nat.shiftLeft_eq]
  by_cases h : last ≤ c + a
  · rw [show (last - (c + (a : Int))).toNat = 0 by omega]
    have ea : a = (c + (a : Int) - last).toNat + (last - c).toNat := by omega
    have e : mag * 2 ^ a = (mag * 2 ^ (c + (a : Int) - last).toNat) * 2 ^ (last - c).toNat := by
      rw [Nat.mul_assoc, ← Nat.pow_add, ← ea]
    rw [e]
    have := rhe_mul (n := mag * 2 ^ (c + (a : Int) - last).toNat) (g := 2 ^ 0) (h := 2 ^ (last - c).toNat) (Nat.two_pow_pos _)
    rw [Nat.pow_zero, Nat.one_mul] at this
    rw [this]
  · rw [show (c + (a : Int) - last).toNat = 0 by omega, Nat.pow_zero, Nat.mul_one, show (last - c).toNat = (last - (c + (a : Int))).toNat + a by omega, Nat.pow_add, rhe_mul (Nat.two_pow_pos _)]

theorem rung_mono {n m : Nat} (h0 : n ≠ 0) (h : n ≤ m) (c : Int) (hc : c ≤ f.leastPlace) : rung f n c ≤ rung f m c := by
  have hm0 : m ≠ 0 := by omega
  have hL : n.log2 ≤ m.log2 := (Nat.le_log2 hm0).2 (Nat.le_trans (Nat.log2_self_le h0) h)
  have hn2 : n < 2 ^ (n.log2 + 1) := Nat.lt_log2_self
  have hm1 := Nat.log2_self_le hm0
  unfold rung
  dsimp only
  obtain ⟨e, he⟩ : ∃ e : Nat, max (c + n.log2 - f.fractionBits) f.leastPlace = f.leastPlace + e := ⟨(max (c + n.log2 - f.fractionBits) f.leastPlace - f.leastPlace).toNat, by omega⟩
  obtain ⟨e', he'⟩ : ∃ e : Nat, max (c + m.log2 - f.fractionBits) f.leastPlace = f.leastPlace + e := ⟨(max (c + m.log2 - f.fractionBits) f.leastPlace - f.leastPlace).toNat, by omega⟩
  rw [he, he']
  rw [show (f.leastPlace + (e : Int) - f.leastPlace).toNat = e by omega, show (f.leastPlace + (e' : Int) - f.leastPlace).toNat = e' by omega]
  rw [show (c - (f.leastPlace + (e : Int))).toNat = 0 by omega, show (c - (f.leastPlace + (e' : Int))).toNat = 0 by omega, Nat.shiftLeft_zero, Nat.shiftLeft_zero, cut_rhe, cut_rhe]
  have hee : e ≤ e' := by omega
  rcases Nat.lt_or_eq_of_le hee with hlt | heq
  · have hb : f.binade = 2 ^ f.fractionBits := rfl
    obtain ⟨d, hd⟩ : ∃ d : Nat, (f.leastPlace + (e : Int) - c).toNat = d := ⟨_, rfl⟩
    obtain ⟨d', hd'⟩ : ∃ d : Nat, (f.leastPlace + (e' : Int) - c).toNat = d := ⟨_, rfl⟩
    rw [hd, hd']
    have h1 : rhe n (2 ^ d) ≤ 2 * f.binade := by
      have : n ≤ (2 * f.binade) * 2 ^ d := by
        have : n.log2 + 1 ≤ f.fractionBits + 1 + d := by omega
        have h5 : (2 : Nat) ^ (n.log2 + 1) ≤ 2 ^ (f.fractionBits + 1 + d) := Nat.pow_le_pow_right (by decide) this
        rw [Nat.pow_add 2 (f.fractionBits + 1) d, Nat.pow_succ 2 f.fractionBits, ← hb] at h5
        rw [Nat.mul_comm 2]
        omega
      refine Nat.le_trans (rhe_mono (Nat.two_pow_pos d) this) ?_
      unfold rhe
      rw [Nat.mul_mod_left, Nat.mul_div_cancel _ (Nat.two_pow_pos d)]
      have := Nat.two_pow_pos d
      simp
    have h2 : f.binade ≤ rhe m (2 ^ d') := by
      have : f.binade * 2 ^ d' ≤ m := by
        rw [hb, ← Nat.pow_add, show f.fractionBits + d' = m.log2 by omega]
        exact hm1
      refine Nat.le_trans ?_ (rhe_mono (Nat.two_pow_pos d') this)
      unfold rhe
      rw [Nat.mul_div_cancel _ (Nat.two_pow_pos d')]
      omega
    have h3 := Nat.mul_le_mul_right f.binade (show e + 1 ≤ e' from hlt)
    rw [Nat.add_mul] at h3
    omega
  · subst heq
    exact Nat.add_le_add_left (rhe_mono (Nat.two_pow_pos _) h) _

/-- A number in units of 2^c, rounded. -/
def Rc (c : Int) (n : Nat) : Nat := if n = 0 then 0 else min (rung f n c) f.infRung

theorem Rc_mono {n m : Nat} (h : n ≤ m) {c : Int} (hc : c ≤ f.leastPlace) : Rc f c n ≤ Rc f c m := by
  unfold Rc
  by_cases h0 : n = 0
  · rw [if_pos h0]; exact Nat.zero_le _
  · rw [if_neg h0, if_neg (by omega)]
    have := rung_mono f h0 h c hc
    omega

theorem Rc_exact {r d : Nat} (hr : r < f.infRung) : Rc f (f.leastPlace - d) (V f r * 2 ^ d) = r := by
  obtain ⟨e, k, rfl, h1, h2⟩ := rung_ek f r
  rw [V_ek f h1 (Nat.le_of_lt h2)]
  unfold Rc
  by_cases h0 : k = 0
  · subst h0
    have he : e = 0 := by
      rcases h1 with h | h
      · exact h
      · have := binade_pos f; omega
    subst he
    simp
  · rw [if_neg (Nat.mul_ne_zero (Nat.mul_ne_zero h0 (Nat.ne_of_gt (Nat.two_pow_pos e))) (Nat.ne_of_gt (Nat.two_pow_pos d))), rung_exact f h1 h2 h0 ⟨0, e + d, by rw [Nat.pow_zero, Nat.mul_one, Nat.pow_add, Nat.mul_assoc], by omega⟩]
    exact Nat.min_eq_left (Nat.le_of_lt hr)

theorem Rc_le_inf (c : Int) (n : Nat) : Rc f c n ≤ f.infRung := by
  unfold Rc; split <;> omega

theorem nearest_Rc (s : Bool) {mag a : Nat} (c : Int) (hc : c ≤ f.leastPlace) : f.nearest s mag (c + a) = f.word s (Rc f c (mag * 2 ^ a)) := by
  unfold Rc
  by_cases h0 : mag = 0
  · subst h0
    rw [Nat.zero_mul, if_pos rfl]
    unfold Ieee.Format.nearest; rw [if_pos rfl]
  · rw [nearest_rung f s h0, if_neg (Nat.mul_ne_zero h0 (Nat.ne_of_gt (Nat.two_pow_pos a))), rung_scale f h0 c hc]

theorem mul_fin (hl : f.leastPlace ≤ 0) {x y : Nat} (hx : rg f x < f.infRung) (hy : rg f y < f.infRung) :
    f.mul x y = some (f.word (sg f x ^^ sg f y) (Rc f (2 * f.leastPlace) (V f (rg f x) * V f (rg f y)))) := by
  obtain ⟨m, e, h1, h2, _, _⟩ := read_fin f hx
  obtain ⟨n, d, h3, h4, _, _⟩ := read_fin f hy
  unfold Ieee.Format.mul
  rw [h1, h3]
  simp only [Ieee.Datum.product, Option.map_some, Ieee.Format.write]
  rw [show f.leastPlace + (e : Int) + (f.leastPlace + (d : Int)) = 2 * f.leastPlace + ((e + d : Nat) : Int) by omega, nearest_Rc f _ _ (by omega)]
  rw [show m * n * 2 ^ (e + d) = V f (rg f x) * V f (rg f y) by rw [← h2, ← h4, Nat.pow_add]; simp only [Nat.mul_assoc, Nat.mul_left_comm]]

theorem sum_num (s t : Bool) (m n e d : Nat) : ((Ieee.Datum.sum (.number s m (f.leastPlace + e)) (.number t n (f.leastPlace + d))).map f.write) =
    some (f.word (if Ieee.signed s m e + Ieee.signed t n d = 0 then s && t else decide (Ieee.signed s m e + Ieee.signed t n d < 0)) (Rc f f.leastPlace (Ieee.signed s m e + Ieee.signed t n d).natAbs)) := by
  obtain ⟨b, hb⟩ : ∃ b : Nat, min e d = b := ⟨_, rfl⟩
  obtain ⟨i, hi⟩ : ∃ i, e = i + b := ⟨e - b, by omega⟩
  obtain ⟨j, hj⟩ : ∃ j, d = j + b := ⟨d - b, by omega⟩
  have hmin : min (f.leastPlace + (e : Int)) (f.leastPlace + (d : Int)) = f.leastPlace + (b : Int) := by omega
  simp only [Ieee.Datum.sum, Option.map_some, hmin]
  rw [show (f.leastPlace + (e : Int) - (f.leastPlace + (b : Int))).toNat = i by omega, show (f.leastPlace + (d : Int) - (f.leastPlace + (b : Int))).toNat = j by omega]
  subst hi hj
  rw [signed_scale s m i b, signed_scale t n j b, ← Int.add_mul]
  generalize Ieee.signed s m i + Ieee.signed t n j = T
  have hp : (0 : Int) < 2 ^ b := Int.pow_pos (by decide)
  have e0 : (T * 2 ^ b = 0) ↔ T = 0 := by
    constructor
    · intro h
      rcases Int.mul_eq_zero.1 h with h | h
      · exact h
      · omega
    · intro h; rw [h, Int.zero_mul]
  have e1 : (T * 2 ^ b < 0) ↔ T < 0 := by
    constructor
    · intro h
      rcases (show T < 0 ∨ 0 ≤ T by omega) with h2 | h2
      · exact h2
      · have := Int.mul_nonneg h2 (Int.le_of_lt hp); omega
    · intro h; exact Int.mul_neg_of_neg_of_pos h hp
  have e2 : (T * 2 ^ b).natAbs = T.natAbs * 2 ^ b := by
    rw [Int.natAbs_mul, Int.natAbs_pow]; rfl
  simp only [e0, e1, e2, Ieee.Format.write]
  rw [nearest_Rc f _ _ (Int.le_refl _)]

theorem iv_read {x : Nat} {m e : Nat} (h2 : m * 2 ^ e = V f (rg f x)) : Ieee.signed (sg f x) m e = iv f x := by
  rw [signed_iv, h2]; rfl

theorem add_fin {x y : Nat} (hx : rg f x < f.infRung) (hy : rg f y < f.infRung) :
    f.add x y = some (f.word (if iv f x + iv f y = 0 then sg f x && sg f y else decide (iv f x + iv f y < 0)) (Rc f f.leastPlace (iv f x + iv f y).natAbs)) := by
  obtain ⟨m, e, h1, h2, _, _⟩ := read_fin f hx
  obtain ⟨n, d, h3, h4, _, _⟩ := read_fin f hy
  unfold Ieee.Format.add
  rw [h1, h3, sum_num, iv_read f h2, iv_read f h4]

theorem sub_fin {x y : Nat} (hx : rg f x < f.infRung) (hy : rg f y < f.infRung) :
    f.sub x y = some (f.word (if iv f x - iv f y = 0 then sg f x && !sg f y else decide (iv f x - iv f y < 0)) (Rc f f.leastPlace (iv f x - iv f y).natAbs)) := by
  obtain ⟨m, e, h1, h2, _, _⟩ := read_fin f hx
  obtain ⟨n, d, h3, h4, _, _⟩ := read_fin f hy
  unfold Ieee.Format.sub
  rw [h1, h3]
  simp only [Ieee.Datum.opposite]
  rw [sum_num, iv_read f h2, show Ieee.signed (!sg f y) n d = - iv f y by rw [← iv_read f h4, signed_iv, signed_iv]; cases sg f y <;> simp, ← Int.sub_eq_add_neg]
end Go.Fl
