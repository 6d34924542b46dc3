import Derived.Test.YtkfcpnfolgiogaaSmith
import Derived.Test.YtkfcpnfolgiogaaFinite
import Derived.Test.YtkfcpnfolgiogaaMul
namespace Go.Fl
open Go

theorem FQ.not_nan {p : Option Nat} {x : Rat} (h : FQ p x) : ∃ r, p = some r ∧ (FloatKind.f64.decode r).isNaN = false ∧ bv D64 r = x := by
  obtain ⟨r, rfl, h1, h2, h3⟩ := h
  refine ⟨r, rfl, ?_, h3⟩
  cases hn : (FloatKind.f64.decode r).isNaN
  · rfl
  · have := (isNaN_iff D64 (okf .f64) r).1 hn
    omega

theorem FQ.fin {p : Option Nat} {x : Rat} (h : FQ p x) : isFin .f64 p = true := by
  obtain ⟨r, rfl, h1, h2, h3⟩ := h
  show decide (rg D64 r < D64.infRung) = true
  exact decide_eq_true h1

theorem bv_lt {a b : Nat} : bv D64 a < bv D64 b ↔ iv D64 a < iv D64 b := by
  unfold bv
  rw [Rat.mul_lt_mul_right (p2_pos _), Rat.intCast_lt_intCast]

theorem bv_le {a b : Nat} : bv D64 a ≤ bv D64 b ↔ iv D64 a ≤ iv D64 b := by
  rw [← Rat.not_lt, bv_lt, Int.not_lt]

theorem flt {p q : Option Nat} {x y : Rat} (hp : FQ p x) (hq : FQ q y) : (ford .f64 p q == some .lt) = decide (x < y) := by
  obtain ⟨a, rfl, a1, rfl⟩ := hp.not_nan
  obtain ⟨b, rfl, b1, rfl⟩ := hq.not_nan
  have := lt_iv (k := .f64) a1 b1
  show (D64.order a b == some .lt) = _
  rw [decide_eq_decide.2 bv_lt]
  exact this

theorem fle {p q : Option Nat} {x y : Rat} (hp : FQ p x) (hq : FQ q y) : (ford .f64 p q == some .lt || ford .f64 p q == some .eq) = decide (x ≤ y) := by
  obtain ⟨a, rfl, a1, rfl⟩ := hp.not_nan
  obtain ⟨b, rfl, b1, rfl⟩ := hq.not_nan
  have := le_iv (k := .f64) a1 b1
  show (D64.order a b == some .lt || D64.order a b == some .eq) = _
  rw [decide_eq_decide.2 bv_le]
  exact this

theorem ord_flip {a b : Nat} (ha : (FloatKind.f64.decode a).isNaN = false) (hb : (FloatKind.f64.decode b).isNaN = false) : (D64.order a b == some .gt || D64.order a b == some .eq) = (D64.order b a == some .lt || D64.order b a == some .eq) := by
  have h1 := order_iv D64 (okf .f64) ha hb
  have h2 := order_iv D64 (okf .f64) hb ha
  rw [h1, h2]
  rcases Int.lt_trichotomy (iv D64 a) (iv D64 b) with h | h | h
  · rw [Int.compare_eq_lt.2 h, Int.compare_eq_gt.2 h]; rfl
  · rw [Int.compare_eq_eq.2 h, Int.compare_eq_eq.2 h.symm]; rfl
  · rw [Int.compare_eq_gt.2 h, Int.compare_eq_lt.2 h]; rfl

theorem fge {p q : Option Nat} {x y : Rat} (hp : FQ p x) (hq : FQ q y) : (ford .f64 p q == some .gt || ford .f64 p q == some .eq) = decide (y ≤ x) := by
  rw [← fle hq hp]
  obtain ⟨a, rfl, a1, rfl⟩ := hp.not_nan
  obtain ⟨b, rfl, b1, rfl⟩ := hq.not_nan
  exact ord_flip a1 b1

theorem FQ.abs {p : Option Nat} {x : Rat} (h : FQ p x) : ∃ y, FQ (fabs .f64 p) y ∧ 0 ≤ y ∧ (y = x ∨ y = -x) := by
  obtain ⟨r, rfl, h1, h2, rfl⟩ := h
  refine ⟨_, ⟨rg D64 r, rfl, by rw [rg_rg]; exact h1, rg_lt_width D64 r, rfl⟩, ?_, ?_⟩
  · unfold bv iv
    rw [rg_rg, sg_rg]
    simp only [Bool.false_eq_true, if_false, Rat.intCast_natCast]
    exact Rat.mul_nonneg Rat.natCast_nonneg (Rat.le_of_lt (p2_pos _))
  · unfold bv iv
    rw [rg_rg, sg_rg]
    cases sg D64 r
    · left; rfl
    · right
      simp only [Bool.false_eq_true, if_false, if_true, Rat.intCast_natCast, Rat.intCast_neg]
      grind

theorem Bd.of_abs {x y : Rat} (h0 : 0 ≤ y) (h : y = x ∨ y = -x) : Bd x y := by
  rcases h with h | h <;> constructor <;> grind

theorem Bd.abs {x y B : Rat} (h : Bd x B) (hy : y = x ∨ y = -x) : y ≤ B := by
  obtain ⟨h1, h2⟩ := h
  rcases hy with h | h <;> grind
end Go.Fl
namespace Go.Proofs.Ytkfcpnfolgiogaa
open Go.RowKit Go.Fl

/-- The quotient in double precision, after Smith; ge tells which part of the divisor is the greater. -/
def cquoB (ge : Bool) (z u : CN) : CN :=
  if ge then
    (fop .quo .f64 (fop .add .f64 z.1 (fop .mul .f64 z.2 (fop .quo .f64 u.2 u.1))) (fop .add .f64 u.1 (fop .mul .f64 (fop .quo .f64 u.2 u.1) u.2)),
     fop .quo .f64 (fop .sub .f64 z.2 (fop .mul .f64 z.1 (fop .quo .f64 u.2 u.1))) (fop .add .f64 u.1 (fop .mul .f64 (fop .quo .f64 u.2 u.1) u.2)))
  else
    (fop .quo .f64 (fop .add .f64 (fop .mul .f64 z.1 (fop .quo .f64 u.1 u.2)) z.2) (fop .add .f64 u.2 (fop .mul .f64 (fop .quo .f64 u.1 u.2) u.1)),
     fop .quo .f64 (fop .sub .f64 (fop .mul .f64 z.2 (fop .quo .f64 u.1 u.2)) z.1) (fop .add .f64 u.2 (fop .mul .f64 (fop .quo .f64 u.1 u.2) u.1)))

theorem smith_add' {pa pt : Option Nat} {a b r t S : Rat} (fa : FQ pa a) (ft : FQ pt t) (ha : Bd a S) (et : Bd (t - b * r) (101 / 100 * (cu * S))) (ht : Bd t (102 / 100 * S)) (hS : Sc S) :
    ∃ n, FQ (fop .add .f64 pt pa) n ∧ Bd (n - (a + b * r)) (303 / 100 * (cu * S)) ∧ Bd n (203 / 100 * S) := by
  have hS0 := hS.pos
  have huS := Rat.mul_le_mul_of_nonneg_right cu_le (Rat.le_of_lt hS0)
  have h : Bd (t + a) (202 / 100 * S) := (ht.add ha).mono (by grind)
  obtain ⟨n, fn, en⟩ := fop_add_near ft fa h (lo_ok hS.lo (by grind)) (hi_ok' hS.hi (Rat.le_of_lt hS0) (by grind))
  refine ⟨n, fn, ?_, Bd.of_near en h (by grind)⟩
  have := en.add et
  have e : n - (t + a) + (t - b * r) = n - (a + b * r) := by grind
  rw [e] at this
  exact this.mono (by grind)

theorem smith_sub' {pa pt : Option Nat} {a b r t S : Rat} (fa : FQ pa a) (ft : FQ pt t) (ha : Bd a S) (et : Bd (t - b * r) (101 / 100 * (cu * S))) (ht : Bd t (102 / 100 * S)) (hS : Sc S) :
    ∃ n, FQ (fop .sub .f64 pt pa) n ∧ Bd (-n - (a - b * r)) (303 / 100 * (cu * S)) ∧ Bd n (203 / 100 * S) := by
  have hS0 := hS.pos
  have huS := Rat.mul_le_mul_of_nonneg_right cu_le (Rat.le_of_lt hS0)
  have h : Bd (t - a) (202 / 100 * S) := (ht.sub ha).mono (by grind)
  obtain ⟨n, fn, en⟩ := fop_sub_near ft fa h (lo_ok hS.lo (by grind)) (hi_ok' hS.hi (Rat.le_of_lt hS0) (by grind))
  refine ⟨n, fn, ?_, Bd.of_near en h (by grind)⟩
  have := (en.add et).neg
  have e : -(n - (t - a) + (t - b * r)) = -n - (a - b * r) := by grind
  rw [e] at this
  exact this.mono (by grind)

theorem smith_all {z u : CN} {a b c d S C I : Rat} (ge : Bool) (fa : FQ z.1 a) (fb : FQ z.2 b) (fc : FQ u.1 c) (fd : FQ u.2 d) (ha : Bd a S) (hb : Bd b S) (hS : Sc S) (hC : Sc C) (hI : I * C = 1) (hI2 : Sc I)
    (hge : if ge then (c = C ∨ c = -C) ∧ Bd d C else (d = C ∨ d = -C) ∧ Bd c C) :
    ∃ q1 q2, FQ (cquoB ge z u).1 q1 ∧ FQ (cquoB ge z u).2 q2 ∧ Bd q1 (211 / 100 * (S * I)) ∧ Bd q2 (211 / 100 * (S * I)) ∧ Bd (q1 * c - q2 * d - a) (19 * (cu * S)) ∧ Bd (q1 * d + q2 * c - b) (19 * (cu * S)) := by
  have hC0 := hC.pos
  cases ge
  · obtain ⟨hd, hc⟩ := hge
    have hdC : Bd d C := by rcases hd with h | h <;> constructor <;> grind
    obtain ⟨r, m, fr, fm, hr, h1, h2, hm, hm2⟩ := smith_m fd fc hd hC hI hc
    obtain ⟨t1, ft1, et1, ht1⟩ := smith_t fa fr hr ha hS
    obtain ⟨t2, ft2, et2, ht2⟩ := smith_t fb fr hr hb hS
    obtain ⟨n1, fn1, en1, hn1⟩ := smith_add' fb ft1 hb et1 ht1 hS
    obtain ⟨n2, fn2, en2, hn2⟩ := smith_sub' fa ft2 ha et2 ht2 hS
    obtain ⟨q1, fq1, eq1, hq1⟩ := smith_q fn1 fm hn1 hm hm2 hS hC hI hI2
    obtain ⟨q2, fq2, eq2, hq2⟩ := smith_q fn2 fm hn2 hm hm2 hS hC hI hI2
    have e2 : Bd (-q2 * m - -n2) (427 / 100 * (cu * S)) := by
      have := eq2.neg
      have e : -(q2 * m - n2) = -q2 * m - -n2 := by grind
      rw [e] at this
      exact this
    obtain ⟨k1, k2⟩ := smith_core hdC hc hb ha hC0 h1 h2 en1 en2 eq1 e2 hm
    refine ⟨q1, q2, fq1, fq2, hq1, hq2, ?_, ?_⟩
    · have e : q1 * c + -q2 * d - a = q1 * c - q2 * d - a := by grind
      rw [e] at k2
      exact k2
    · have e : q1 * d - -q2 * c - b = q1 * d + q2 * c - b := by grind
      rw [e] at k1
      exact k1
  · obtain ⟨hc, hd⟩ := hge
    have hcC : Bd c C := by rcases hc with h | h <;> constructor <;> grind
    obtain ⟨r, m, fr, fm, hr, h1, h2, hm, hm2⟩ := smith_m fc fd hc hC hI hd
    obtain ⟨t1, ft1, et1, ht1⟩ := smith_t fb fr hr hb hS
    obtain ⟨t2, ft2, et2, ht2⟩ := smith_t fa fr hr ha hS
    obtain ⟨n1, fn1, en1, hn1⟩ := smith_add fa ft1 ha et1 ht1 hS
    obtain ⟨n2, fn2, en2, hn2⟩ := smith_sub fb ft2 hb et2 ht2 hS
    obtain ⟨q1, fq1, eq1, hq1⟩ := smith_q fn1 fm hn1 hm hm2 hS hC hI hI2
    obtain ⟨q2, fq2, eq2, hq2⟩ := smith_q fn2 fm hn2 hm hm2 hS hC hI hI2
    obtain ⟨k1, k2⟩ := smith_core hcC hd ha hb hC0 h1 h2 en1 en2 eq1 eq2 hm
    exact ⟨q1, q2, fq1, fq2, hq1, hq2, k1, k2⟩

/-- What 'small' looks at. -/
def offBy (p q : CN) : Option Nat := fop .add .f64 (fabs .f64 (fop .sub .f64 p.1 q.1)) (fabs .f64 (fop .sub .f64 p.2 q.2))

/-- The quotient, multiplied by the divisor, is near the dividend. -/
theorem smith_off {z u : CN} {a b c d S C I : Rat} (ge : Bool) (fa : FQ z.1 a) (fb : FQ z.2 b) (fc : FQ u.1 c) (fd : FQ u.2 d) (ha : Bd a S) (hb : Bd b S) (hS : Sc S) (hC : Sc C) (hI : I * C = 1) (hI2 : Sc I)
    (hge : if ge then (c = C ∨ c = -C) ∧ Bd d C else (d = C ∨ d = -C) ∧ Bd c C) :
    isFin .f64 (cquoB ge z u).1 = true ∧ isFin .f64 (cquoB ge z u).2 = true ∧ ∃ s, FQ (offBy (cmul (cquoB ge z u) u) z) s ∧ s ≤ 60 * (cu * S) := by
  have hC0 := hC.pos
  have hS0 := hS.pos
  have hI0 := hI2.pos
  have hu0 := cu_pos
  have huS0 := Rat.mul_pos hu0 hS0
  have hcC : Bd c C := by cases ge; exact hge.2; rcases hge.1 with h | h <;> constructor <;> grind
  have hdC : Bd d C := by cases ge; rcases hge.1 with h | h <;> constructor <;> grind; exact hge.2
  obtain ⟨q1, q2, fq1, fq2, hq1, hq2, k1, k2⟩ := smith_all ge fa fb fc fd ha hb hS hC hI hI2 hge
  refine ⟨fq1.fin, fq2.fin, ?_⟩
  generalize cquoB ge z u = Q at *
  have hSIC : 211 / 100 * (S * I) * C = 211 / 100 * S := by
    have : 211 / 100 * (S * I) * C = 211 / 100 * (S * (I * C)) := by grind
    rw [this, hI, Rat.mul_one]
  have mulb : ∀ x y : Rat, Bd x (211 / 100 * (S * I)) → Bd y C → Bd (x * y) (211 / 100 * S) := fun x y hx hy => by
    have := hx.mul hy
    rw [hSIC] at this
    exact this
  have l1 : p2 (-900) ≤ 211 / 100 * S := lo_ok hS.lo (by grind)
  have l2 : 211 / 100 * S ≤ p2 1000 := hi_ok' hS.hi (Rat.le_of_lt hS0) (by grind)
  have l3 : p2 (-900) ≤ 43 / 10 * S := lo_ok hS.lo (by grind)
  have l4 : 43 / 10 * S ≤ p2 1000 := hi_ok' hS.hi (Rat.le_of_lt hS0) (by grind)
  have huS : p2 (-860) ≤ cu * S := by
    have h1 := Rat.mul_le_mul_of_nonneg_left hS.1 (Rat.le_of_lt hu0)
    have h2 : cu * p2 (-400) = p2 (-451) := by unfold cu; rw [← p2_add]; rfl
    have h3 : p2 (-860) ≤ p2 (-451) := p2_le (by decide)
    grind
  have huS2 : cu * S ≤ p2 860 := by
    have h1 := Rat.mul_le_mul_of_nonneg_right cu_le (Rat.le_of_lt hS0)
    have h2 := hS.hi
    grind
  have l5 : p2 (-900) ≤ 28 * (cu * S) := lo_ok huS (by grind)
  have l6 : 28 * (cu * S) ≤ p2 1000 := hi_ok' huS2 (Rat.le_of_lt huS0) (by grind)
  have l7 : p2 (-900) ≤ 58 * (cu * S) := lo_ok huS (by grind)
  have l8 : 58 * (cu * S) ≤ p2 1000 := hi_ok' huS2 (Rat.le_of_lt huS0) (by grind)
  have uS := Rat.mul_le_mul_of_nonneg_right cu_le (Rat.le_of_lt hS0)
  have uuS := Rat.mul_le_mul_of_nonneg_right cu_le (Rat.le_of_lt huS0)
  obtain ⟨x1, fx1, ex1⟩ := fop_mul_near fq1 fc (mulb _ _ hq1 hcC) l1 l2
  obtain ⟨x2, fx2, ex2⟩ := fop_mul_near fq2 fd (mulb _ _ hq2 hdC) l1 l2
  obtain ⟨x3, fx3, ex3⟩ := fop_mul_near fq1 fd (mulb _ _ hq1 hdC) l1 l2
  obtain ⟨x4, fx4, ex4⟩ := fop_mul_near fq2 fc (mulb _ _ hq2 hcC) l1 l2
  have b1 : Bd x1 (212 / 100 * S) := Bd.of_near ex1 (mulb _ _ hq1 hcC) (by grind)
  have b2 : Bd x2 (212 / 100 * S) := Bd.of_near ex2 (mulb _ _ hq2 hdC) (by grind)
  have b3 : Bd x3 (212 / 100 * S) := Bd.of_near ex3 (mulb _ _ hq1 hdC) (by grind)
  have b4 : Bd x4 (212 / 100 * S) := Bd.of_near ex4 (mulb _ _ hq2 hcC) (by grind)
  obtain ⟨y1, fy1, ey1⟩ := fop_sub_near fx1 fx2 ((b1.sub b2).mono (by grind)) l3 l4
  obtain ⟨y2, fy2, ey2⟩ := fop_add_near fx3 fx4 ((b3.add b4).mono (by grind)) l3 l4
  have g1 : Bd (y1 - a) (28 * (cu * S)) := by
    have := ((ey1.add (ex1.sub ex2)).add k1)
    have e : y1 - (x1 - x2) + (x1 - q1 * c - (x2 - q2 * d)) + (q1 * c - q2 * d - a) = y1 - a := by grind
    rw [e] at this
    exact this.mono (by grind)
  have g2 : Bd (y2 - b) (28 * (cu * S)) := by
    have := ((ey2.add (ex3.add ex4)).add k2)
    have e : y2 - (x3 + x4) + (x3 - q1 * d + (x4 - q2 * c)) + (q1 * d + q2 * c - b) = y2 - b := by grind
    rw [e] at this
    exact this.mono (by grind)
  obtain ⟨v1, fv1, ev1⟩ := fop_sub_near fy1 fa g1 l5 l6
  obtain ⟨v2, fv2, ev2⟩ := fop_sub_near fy2 fb g2 l5 l6
  have c1 : Bd v1 (29 * (cu * S)) := Bd.of_near ev1 g1 (by grind)
  have c2 : Bd v2 (29 * (cu * S)) := Bd.of_near ev2 g2 (by grind)
  obtain ⟨w1, fw1, w10, hw1⟩ := fv1.abs
  obtain ⟨w2, fw2, w20, hw2⟩ := fv2.abs
  have d1 := c1.abs hw1
  have d2 := c2.abs hw2
  have hs : Bd (w1 + w2) (58 * (cu * S)) := by constructor <;> grind
  obtain ⟨s, fs, es⟩ := fop_add_near fw1 fw2 hs l7 l8
  refine ⟨s, fs, ?_⟩
  have := (Bd.of_near es hs (K := 60 * (cu * S)) (by grind)).2
  exact this
end Go.Proofs.Ytkfcpnfolgiogaa
