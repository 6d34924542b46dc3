import Derived.Test.YtkfcpnfolgiogaaNum3
namespace Go.Fl
open Go

/-- How much a rounding may err, relatively. -/
abbrev cu : Rat := p2 (-51)
theorem cu_pos : 0 < cu := p2_pos _
theorem p2_nat' (k : Nat) {n : Int} (h : n = k) : p2 n = ((2 ^ k : Nat) : Rat) := by subst h; exact p2_nat k
theorem cu_mul : cu * 2251799813685248 = 1 := by
  have h : p2 51 = 2251799813685248 := p2_nat 51
  have e : p2 (-51) * p2 51 = 1 := by rw [← p2_add]; rfl
  rw [h] at e
  exact e
theorem cu_le : cu ≤ 1 / 1000 := by
  have := cu_mul
  have := cu_pos
  grind

theorem lo_ok {x K : Rat} (h : p2 (-860) ≤ x) (hK : 1 ≤ K) : p2 (-900) ≤ K * x := by
  have h1 : p2 (-900) ≤ p2 (-860) := p2_le (by decide)
  have h0 := p2_pos (-860)
  have := Rat.mul_le_mul_of_nonneg_right hK (show 0 ≤ x by grind)
  grind
theorem hi_ok {x K : Rat} (h : x ≤ p2 860) (h0 : 0 ≤ x) (hK : K ≤ 128) : K * x ≤ p2 999 := by
  have h1 : p2 867 ≤ p2 999 := p2_le (by decide)
  have h2 : p2 867 = p2 7 * p2 860 := by rw [← p2_add]; rfl
  have h3 : p2 7 = 128 := p2_nat 7
  rw [h3] at h2
  have := Rat.mul_le_mul_of_nonneg_right hK h0
  grind
theorem hi_ok' {x K : Rat} (h : x ≤ p2 860) (h0 : 0 ≤ x) (hK : K ≤ 128) : K * x ≤ p2 1000 := Rat.le_trans (hi_ok h h0 hK) (p2_le (by decide))

/-- The core: what the quotient of Smith, multiplied by the divisor, is off. -/
theorem smith_core {a1 a2 c d r m n1 n2 q1 q2 S C : Rat} (hcC : Bd c C) (hd : Bd d C) (ha1 : Bd a1 S) (ha2 : Bd a2 S) (hC : 0 < C)
    (h1 : Bd (r * c - d) (cu * C)) (h2 : Bd (m - (c + r * d)) (303 / 100 * (cu * C))) (h3 : Bd (n1 - (a1 + a2 * r)) (303 / 100 * (cu * S))) (h4 : Bd (n2 - (a2 - a1 * r)) (303 / 100 * (cu * S)))
    (h5 : Bd (q1 * m - n1) (427 / 100 * (cu * S))) (h6 : Bd (q2 * m - n2) (427 / 100 * (cu * S))) (hm : 99 / 100 * C ≤ m ∨ m ≤ -(99 / 100 * C)) :
    Bd (q1 * c - q2 * d - a1) (19 * (cu * S)) ∧ Bd (q1 * d + q2 * c - a2) (19 * (cu * S)) := by
  have hS := ha1.nonneg
  have huS := Rat.mul_nonneg (Rat.le_of_lt cu_pos) hS
  have fin : ∀ x : Rat, Bd (m * x) (1863 / 100 * (cu * S * C)) → Bd x (19 * (cu * S)) := fun x hx => by
    have p := Rat.mul_nonneg huS (Rat.le_of_lt hC)
    rcases hm with hm | hm
    · have hm0 : 0 < m := by grind
      constructor
      · refine Rat.le_of_mul_le_mul_left (c := m) ?_ hm0
        have := Rat.mul_le_mul_of_nonneg_right hm huS
        have := hx.1
        grind
      · refine Rat.le_of_mul_le_mul_left (c := m) ?_ hm0
        have := Rat.mul_le_mul_of_nonneg_right hm huS
        have := hx.2
        grind
    · have hm0 : 0 < -m := by grind
      have hm' : 99 / 100 * C ≤ -m := by grind
      constructor
      · refine Rat.le_of_mul_le_mul_left (c := -m) ?_ hm0
        have := Rat.mul_le_mul_of_nonneg_right hm' huS
        have := hx.2
        grind
      · refine Rat.le_of_mul_le_mul_left (c := -m) ?_ hm0
        have := Rat.mul_le_mul_of_nonneg_right hm' huS
        have := hx.1
        grind
  constructor
  · apply fin
    have e : m * (q1 * c - q2 * d - a1) = (q1 * m - n1) * c - (q2 * m - n2) * d + ((n1 - (a1 + a2 * r)) * c - (n2 - (a2 - a1 * r)) * d) + (a2 * (r * c - d) - a1 * (m - (c + r * d))) := by grind
    rw [e]
    refine Bd.mono ((((h5.mul hcC).sub (h6.mul hd)).add ((h3.mul hcC).sub (h4.mul hd))).add ((ha2.mul h1).sub (ha1.mul h2))) ?_
    grind
  · apply fin
    have e : m * (q1 * d + q2 * c - a2) = (q1 * m - n1) * d + (q2 * m - n2) * c + ((n1 - (a1 + a2 * r)) * d + (n2 - (a2 - a1 * r)) * c) + (-(a1 * (r * c - d)) - a2 * (m - (c + r * d))) := by grind
    rw [e]
    refine Bd.mono ((((h5.mul hd).add (h6.mul hcC)).add ((h3.mul hd).add (h4.mul hcC))).add ((ha1.mul h1).neg.sub (ha2.mul h2))) ?_
    grind

/-- A scale: not too little, not too great. -/
def Sc (x : Rat) : Prop := p2 (-400) ≤ x ∧ x ≤ p2 400
theorem Sc.pos {x : Rat} (h : Sc x) : 0 < x := by have := h.1; have := p2_pos (-400); grind
theorem Sc.lo {x : Rat} (h : Sc x) : p2 (-860) ≤ x := Rat.le_trans (p2_le (by decide)) h.1
theorem Sc.hi {x : Rat} (h : Sc x) : x ≤ p2 860 := Rat.le_trans h.2 (p2_le (by decide))
theorem Sc.mul_lo {x y : Rat} (h : Sc x) (k : Sc y) : p2 (-860) ≤ x * y := by
  have h1 := Rat.mul_le_mul_of_nonneg_right h.1 (Rat.le_of_lt k.pos)
  have h2 := Rat.mul_le_mul_of_nonneg_left k.1 (Rat.le_of_lt (p2_pos (-400)))
  rw [← p2_add] at h2
  have h3 : p2 (-860) ≤ p2 (-400 + -400) := p2_le (by decide)
  grind
theorem Sc.mul_hi {x y : Rat} (h : Sc x) (k : Sc y) : x * y ≤ p2 860 := by
  have h1 := Rat.mul_le_mul_of_nonneg_right h.2 (Rat.le_of_lt k.pos)
  have h2 := Rat.mul_le_mul_of_nonneg_left k.2 (Rat.le_of_lt (p2_pos 400))
  rw [← p2_add] at h2
  have h3 : p2 (400 + 400) ≤ p2 860 := p2_le (by decide)
  grind

theorem Bd.of_near {z x M B K : Rat} (h : Bd (z - x) (M * cu)) (hx : Bd x B) (hK : B + M * cu ≤ K) : Bd z K := by
  have := (h.add hx)
  rw [Rat.sub_add_cancel] at this
  exact this.mono (by grind)

/-- The ratio and the divisor's measure. -/
theorem smith_m {pc pd : Option Nat} {c d C I : Rat} (fc : FQ pc c) (fd : FQ pd d) (hc : c = C ∨ c = -C) (hC : Sc C) (hI : I * C = 1) (hd : Bd d C) :
    ∃ r m, FQ (fop .quo .f64 pd pc) r ∧ FQ (fop .add .f64 pc (fop .mul .f64 (fop .quo .f64 pd pc) pd)) m ∧ Bd r (101 / 100) ∧ Bd (r * c - d) (cu * C) ∧ Bd (m - (c + r * d)) (303 / 100 * (cu * C)) ∧
      (99 / 100 * C ≤ m ∨ m ≤ -(99 / 100 * C)) ∧ Bd m (203 / 100 * C) := by
  have hC0 := hC.pos
  have hu0 := cu_pos
  have hu1 := cu_le
  have huC := Rat.mul_le_mul_of_nonneg_right hu1 (Rat.le_of_lt hC0)
  have huC0 := Rat.mul_pos hu0 hC0
  have hc0 : c ≠ 0 := by rcases hc with h | h <;> grind
  have hcB : Bd c C := by rcases hc with h | h <;> constructor <;> grind
  have hcc : c * c = C * C := by rcases hc with h | h <;> grind
  -- the exact ratio
  obtain ⟨t, ht⟩ : ∃ t, t * c = d := ⟨d / c, Rat.div_mul_cancel hc0⟩
  have ht1 : Bd t 1 := by
    rcases hc with h | h
    · have e : t * C = d := by rw [← ht, h]
      constructor
      · refine Rat.le_of_mul_le_mul_right (c := C) ?_ hC0
        have := hd.1; grind
      · refine Rat.le_of_mul_le_mul_right (c := C) ?_ hC0
        have := hd.2; grind
    · have e : t * C = -d := by rw [← ht, h]; grind
      constructor
      · refine Rat.le_of_mul_le_mul_right (c := C) ?_ hC0
        have := hd.2; grind
      · refine Rat.le_of_mul_le_mul_right (c := C) ?_ hC0
        have := hd.1; grind
  obtain ⟨r, fr, er⟩ := fop_quo_near fd fc hc0 ht ht1 (p2_le (n := 0) (by decide)) (p2_le (m := 0) (by decide))
  have hr : Bd r (101 / 100) := Bd.of_near er ht1 (by grind)
  have hrc : Bd (r * c - d) (cu * C) := by
    have := er.mul hcB
    have e : (r - t) * c = r * c - d := by rw [← ht]; grind
    rw [e] at this
    exact this.mono (by grind)
  obtain ⟨x, fx, ex⟩ := fop_mul_near fr fd (hr.mul hd) (lo_ok hC.lo (by grind)) (hi_ok' hC.hi (Rat.le_of_lt hC0) (by grind))
  have hx : Bd x (102 / 100 * C) := Bd.of_near ex (hr.mul hd) (by grind)
  have hcx : Bd (c + x) (202 / 100 * C) := (hcB.add hx).mono (by grind)
  obtain ⟨m, fm, em⟩ := fop_add_near fc fx hcx (lo_ok hC.lo (by grind)) (hi_ok' hC.hi (Rat.le_of_lt hC0) (by grind))
  have hk : Bd (m - (c + r * d)) (303 / 100 * (cu * C)) := by
    have := em.add ex
    have e : m - (c + x) + (x - r * d) = m - (c + r * d) := by grind
    rw [e] at this
    exact this.mono (by grind)
  refine ⟨r, m, fr, fm, hr, hrc, hk, ?_, Bd.of_near em hcx (by grind)⟩
  -- the measure is no less than the greater part
  have hcm : 99 / 100 * (C * C) ≤ c * m := by
    have e : c * m = c * c + d * d + (r * c - d) * d + c * (m - (c + r * d)) := by grind
    have k1 := (hrc.mul hd).1
    have k2 := (hcB.mul hk).1
    have k3 : 0 ≤ d * d := by
      rcases Rat.le_total (a := 0) (b := d) with h | h
      · exact Rat.mul_nonneg h h
      · have := Rat.mul_nonneg (show 0 ≤ -d by grind) (show 0 ≤ -d by grind)
        grind
    have k4 := Rat.mul_le_mul_of_nonneg_right huC (Rat.le_of_lt hC0)
    have k5 := Rat.mul_pos hC0 hC0
    rw [e, hcc]
    clear er ex em hk hcx hx hr hrc hcB e ht ht1 fc fd fr fx fm hd hI
    generalize (r * c - d) * d = A at *
    generalize c * (m - (c + r * d)) = B at *
    generalize d * d = D at *
    grind
  clear er ex em hk hcx hx hr hrc hcB ht ht1 fc fd fr fx fm hd hI huC huC0 hcc
  rcases hc with h | h
  · left
    refine Rat.le_of_mul_le_mul_left (c := C) ?_ hC0
    rw [h] at hcm
    grind
  · right
    refine Rat.le_of_mul_le_mul_left (c := C) ?_ hC0
    have e : c * m = -(C * m) := by rw [h]; grind
    rw [e] at hcm
    grind

/-- A dividend's part: a + b r or a - b r. -/
theorem smith_t {pb pr : Option Nat} {b r S : Rat} (fb : FQ pb b) (fr : FQ pr r) (hr : Bd r (101 / 100)) (hb : Bd b S) (hS : Sc S) :
    ∃ t, FQ (fop .mul .f64 pb pr) t ∧ Bd (t - b * r) (101 / 100 * (cu * S)) ∧ Bd t (102 / 100 * S) := by
  have hS0 := hS.pos
  have huS := Rat.mul_le_mul_of_nonneg_right cu_le (Rat.le_of_lt hS0)
  have hbr : Bd (b * r) (101 / 100 * S) := (hb.mul hr).mono (by grind)
  obtain ⟨t, ft, et⟩ := fop_mul_near fb fr hbr (lo_ok hS.lo (by grind)) (hi_ok' hS.hi (Rat.le_of_lt hS0) (by grind))
  exact ⟨t, ft, et.mono (by grind), Bd.of_near et hbr (by grind)⟩

theorem smith_add {pa pt : Option Nat} {a b r t S : Rat} (fa : FQ pa a) (ft : FQ pt t) (ha : Bd a S) (et : Bd (t - b * r) (101 / 100 * (cu * S))) (ht : Bd t (102 / 100 * S)) (hS : Sc S) :
    ∃ n, FQ (fop .add .f64 pa pt) n ∧ Bd (n - (a + b * r)) (303 / 100 * (cu * S)) ∧ Bd n (203 / 100 * S) := by
  have hS0 := hS.pos
  have huS := Rat.mul_le_mul_of_nonneg_right cu_le (Rat.le_of_lt hS0)
  have h : Bd (a + t) (202 / 100 * S) := (ha.add ht).mono (by grind)
  obtain ⟨n, fn, en⟩ := fop_add_near fa ft h (lo_ok hS.lo (by grind)) (hi_ok' hS.hi (Rat.le_of_lt hS0) (by grind))
  refine ⟨n, fn, ?_, Bd.of_near en h (by grind)⟩
  have := en.add et
  have e : n - (a + t) + (t - b * r) = n - (a + b * r) := by grind
  rw [e] at this
  exact this.mono (by grind)

theorem smith_sub {pa pt : Option Nat} {a b r t S : Rat} (fa : FQ pa a) (ft : FQ pt t) (ha : Bd a S) (et : Bd (t - b * r) (101 / 100 * (cu * S))) (ht : Bd t (102 / 100 * S)) (hS : Sc S) :
    ∃ n, FQ (fop .sub .f64 pa pt) n ∧ Bd (n - (a - b * r)) (303 / 100 * (cu * S)) ∧ Bd n (203 / 100 * S) := by
  have hS0 := hS.pos
  have huS := Rat.mul_le_mul_of_nonneg_right cu_le (Rat.le_of_lt hS0)
  have h : Bd (a - t) (202 / 100 * S) := (ha.sub ht).mono (by grind)
  obtain ⟨n, fn, en⟩ := fop_sub_near fa ft h (lo_ok hS.lo (by grind)) (hi_ok' hS.hi (Rat.le_of_lt hS0) (by grind))
  refine ⟨n, fn, ?_, Bd.of_near en h (by grind)⟩
  have := en.sub et
  have e : n - (a - t) - (t - b * r) = n - (a - b * r) := by grind
  rw [e] at this
  exact this.mono (by grind)

theorem smith_q {pn pm : Option Nat} {n m S C I : Rat} (fn : FQ pn n) (fm : FQ pm m) (hn : Bd n (203 / 100 * S)) (hm : 99 / 100 * C ≤ m ∨ m ≤ -(99 / 100 * C)) (hm2 : Bd m (203 / 100 * C)) (hS : Sc S) (hC : Sc C) (hI : I * C = 1) (hI2 : Sc I) :
    ∃ q, FQ (fop .quo .f64 pn pm) q ∧ Bd (q * m - n) (427 / 100 * (cu * S)) ∧ Bd q (211 / 100 * (S * I)) := by
  have hS0 := hS.pos
  have hC0 := hC.pos
  have hI0 := hI2.pos
  have hSI0 := Rat.mul_pos hS0 hI0
  have huS := Rat.mul_le_mul_of_nonneg_right cu_le (Rat.le_of_lt hSI0)
  have hSIC : S * I * C = S := by rw [Rat.mul_assoc, hI, Rat.mul_one]
  have hm0 : m ≠ 0 := by rcases hm with h | h <;> grind
  obtain ⟨x, hx⟩ : ∃ x, x * m = n := ⟨n / m, Rat.div_mul_cancel hm0⟩
  have hxb : Bd x (21 / 10 * (S * I)) := by
    have k0 := Rat.mul_le_mul_of_nonneg_left (Rat.le_of_lt hC0) (Rat.le_of_lt hSI0)
    rcases hm with h | h
    · have hm1 : 0 < m := by grind
      have k := Rat.mul_le_mul_of_nonneg_left h (Rat.le_of_lt hSI0)
      constructor
      · refine Rat.le_of_mul_le_mul_right (c := m) ?_ hm1
        have := hn.1
        grind
      · refine Rat.le_of_mul_le_mul_right (c := m) ?_ hm1
        have := hn.2
        grind
    · have hm1 : 0 < -m := by grind
      have k := Rat.mul_le_mul_of_nonneg_left (show 99 / 100 * C ≤ -m by grind) (Rat.le_of_lt hSI0)
      have e : x * -m = -n := by rw [← hx]; grind
      constructor
      · refine Rat.le_of_mul_le_mul_right (c := -m) ?_ hm1
        have := hn.2
        rw [e]
        grind
      · refine Rat.le_of_mul_le_mul_right (c := -m) ?_ hm1
        have := hn.1
        rw [e]
        grind
  obtain ⟨q, fq, eq⟩ := fop_quo_near fn fm hm0 hx hxb (lo_ok (hS.mul_lo hI2) (by grind)) (hi_ok (hS.mul_hi hI2) (Rat.le_of_lt hSI0) (by grind))
  refine ⟨q, fq, ?_, Bd.of_near eq hxb (by grind)⟩
  have := eq.mul hm2
  have e : (q - x) * m = q * m - n := by rw [← hx]; grind
  rw [e] at this
  refine this.mono ?_
  have e2 : 21 / 10 * (S * I) * cu * (203 / 100 * C) = 4263 / 1000 * (cu * (S * I * C)) := by grind
  rw [e2, hSIC]
  have := Rat.mul_pos cu_pos hS0
  grind
end Go.Fl
