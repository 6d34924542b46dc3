import Derived.Test.YtkfcpnfolgiogaaModeB
import Derived.Test.YtkfcpnfolgiogaaDivided
namespace Go.Proofs.Ytkfcpnfolgiogaa
open Go.RowKit Go.Fl

theorem cu_small : cu * 1000000 ≤ 1 := by have := cu_mul; have := cu_pos; grind

theorem sq_abs {A a : Rat} (h : A = a ∨ A = -a) : a * a = A * A := by
  rcases h with h | h
  · rw [h]
  · have : a = -A := by rw [h, Rat.neg_neg]
    rw [this, Rat.neg_mul, Rat.mul_neg, Rat.neg_neg]
theorem sq_nonneg (a : Rat) : 0 ≤ a * a := by
  rcases Rat.le_total (a := 0) (b := a) with t | t
  · exact Rat.mul_nonneg t t
  · rw [sq_abs (A := -a) (Or.inr rfl)]
    exact Rat.mul_nonneg (by grind) (by grind)

theorem one_FQ : FQ one64 1 := by
  have h := FQ_pow (e := 1022) 0 (by decide) (by decide)
  rw [p2_zero] at h
  have e : one64 = some ((1022 + 1) * 4503599627370496) := by decide +kernel
  rw [e]; exact h
theorem zero_FQ : FQ (cl .f64 0) 0 := by
  have e : cl .f64 0 = some 0 := by decide +kernel
  rw [e]; exact FQ_zero
def sixteenth : Option Nat := cl .f64 4589168020290535424
theorem sixteenth_FQ : FQ sixteenth (p2 (-4)) := by
  have e : sixteenth = some ((1018 + 1) * 4503599627370496) := by decide +kernel
  rw [e]; exact FQ_pow (e := 1018) _ (by decide) (by decide)

/-- A number's quotient by itself is near 1. -/
theorem beat_self {z : CN} (hz : Moderate z) : cdivOk z z = true ∧ ple (offBy (cdiv z z) (one64, cl .f64 0)) sixteenth = true := by
  have hok := (mod_div hz hz).1
  refine ⟨hok, ?_⟩
  obtain ⟨c, d, C, D, fc, fd, fC, fD, C0, D0, hC, hD, kl, kh⟩ := hz
  have q3 : p2 (-300) = 2 * p2 (-301) := by
    rw [show (-300 : Int) = (-301) + 1 by decide]
    exact p2_succ _
  have q4 : p2 300 ≤ p2 301 := p2_le (by decide)
  have q5 : p2 (-400) ≤ p2 (-301) := p2_le (by decide)
  have q6 : p2 301 ≤ p2 400 := p2_le (by decide)
  have c1 := p2_pos (-301)
  have hge : cge z = decide (D ≤ C) := fge fC fD
  have main : ∀ E : Rat, E = (if cge z then C else D) → p2 (-301) ≤ E ∧ E ≤ p2 301 ∧ Bd c E ∧ Bd d E ∧ E * E ≤ c * c + d * d ∧ (if cge z then (c = E ∨ c = -E) ∧ Bd d E else (d = E ∨ d = -E) ∧ Bd c E) := fun E hE => by
    have sc := sq_nonneg c
    have ec := sq_abs hC
    have ed := sq_abs hD
    have sd := sq_nonneg d
    rw [hge] at hE ⊢
    by_cases h : D ≤ C
    · simp only [h, decide_true, if_true] at hE ⊢
      subst hE
      exact ⟨by grind, by grind, Bd.of_abs C0 hC, (Bd.of_abs D0 hD).mono h, by rw [← ec]; grind, by rcases hC with k | k <;> grind, (Bd.of_abs D0 hD).mono h⟩
    · simp only [h, decide_false, Bool.false_eq_true, if_false] at hE ⊢
      subst hE
      exact ⟨by grind, by grind, (Bd.of_abs C0 hC).mono (by grind), Bd.of_abs D0 hD, by rw [← ed]; grind, by rcases hD with k | k <;> grind, (Bd.of_abs C0 hC).mono (by grind)⟩
  obtain ⟨e1, e2, bc, bd, esq, e3⟩ := main _ rfl
  generalize (if cge z then C else D) = E at *
  have hE0 : E ≠ 0 := by grind
  have hE : 0 < E := by grind
  have hEs : Sc E := ⟨by grind, by grind⟩
  obtain ⟨I, hI⟩ : ∃ I : Rat, I * E = 1 := ⟨1 / E, Rat.div_mul_cancel hE0⟩
  obtain ⟨q1, q2, f1, f2, -, -, k1, k2⟩ := smith_all (cge z) fc fd fc fd bc bd hEs hEs hI (inv_sc hI e1 e2) e3
  have hcd : cdiv z z = cquoB (cge z) z z := by unfold cdiv; rw [hok]; rfl
  rw [hcd]
  generalize cquoB (cge z) z z = Q at *
  have hcu := cu_pos
  have hEE := Rat.mul_pos hE hE
  -- bounds of (q1 - 1), q2
  have m1 := (bc.mul k1).add (bd.mul k2)
  have m2 := (bc.mul k2).sub (bd.mul k1)
  have i1 : c * (q1 * c - q2 * d - c) + d * (q1 * d + q2 * c - d) = (q1 - 1) * (c * c + d * d) := by grind
  have i2 : c * (q1 * d + q2 * c - d) - d * (q1 * c - q2 * d - c) = q2 * (c * c + d * d) := by grind
  rw [i1] at m1
  rw [i2] at m2
  have i3 : E * (19 * (cu * E)) + E * (19 * (cu * E)) = 38 * cu * (E * E) := by grind
  rw [i3] at m1 m2
  clear i1 i2 i3 k1 k2 main e3 hge hcd hI e1 e2 bc bd
  have div_bd : ∀ x : Rat, Bd (x * (c * c + d * d)) (38 * cu * (E * E)) → Bd x (38 * cu) := fun x hx => by
    have hs : 0 < c * c + d * d := by grind
    have hk := Rat.mul_le_mul_of_nonneg_left esq (show 0 ≤ 38 * cu by grind)
    constructor
    · refine Rat.le_of_mul_le_mul_right (c := c * c + d * d) ?_ hs
      have := hx.1
      grind
    · refine Rat.le_of_mul_le_mul_right (c := c * c + d * d) ?_ hs
      have := hx.2
      grind
  have b1 := div_bd _ m1
  have b2 := div_bd _ m2
  clear div_bd m1 m2 esq
  have hsm := cu_small
  have lo : p2 (-900) ≤ 1 := p2_le (n := 0) (by decide)
  have hi : 1 ≤ p2 1000 := p2_le (m := 0) (by decide)
  obtain ⟨x1, fx1, ex1⟩ := fop_sub_near f1 one_FQ (b1.mono (show 38 * cu ≤ 1 by grind)) lo hi
  have b2' : Bd (q2 - 0) 1 := by have := b2.mono (show 38 * cu ≤ 1 by grind); have e : q2 - 0 = q2 := by grind
                                 rw [e]; exact this
  obtain ⟨x2, fx2, ex2⟩ := fop_sub_near f2 zero_FQ b2' lo hi
  obtain ⟨y1, fy1, y10, hy1⟩ := fx1.abs
  obtain ⟨y2, fy2, y20, hy2⟩ := fx2.abs
  have c1' : Bd x1 (39 * cu) := Bd.of_near ex1 b1 (by grind)
  have c2' : Bd x2 (39 * cu) := Bd.of_near (x := q2 - 0) ex2 (by have e : q2 - 0 = q2 := by grind
                                                                 rw [e]; exact b2) (by grind)
  have d1 := c1'.abs hy1
  have d2 := c2'.abs hy2
  have bs : Bd (y1 + y2) (78 * cu) := by constructor <;> grind
  obtain ⟨s, fs, es⟩ := fop_add_near fy1 fy2 (bs.mono (show 78 * cu ≤ 1 by grind)) lo hi
  have hs := (Bd.of_near es bs (K := 79 * cu) (by grind)).2
  unfold ple
  rw [show offBy Q (one64, cl .f64 0) = fop .add .f64 (fabs .f64 (fop .sub .f64 Q.1 one64)) (fabs .f64 (fop .sub .f64 Q.2 (cl .f64 0))) from rfl, fle fs sixteenth_FQ]
  refine decide_eq_true ?_
  have h16 : p2 (-4) * 16 = 1 := by
    have : (16 : Rat) = p2 4 := (p2_nat 4).symm
    rw [this, ← p2_add]
    rfl
  grind

theorem V_single_inf : V Ieee.single Ieee.single.infRung = 2 ^ 139 * 2 ^ 138 := by decide +kernel

/-- A widened number is not too great. -/
theorem wide_FQ {p : Option Nat} {x : Nat} (h : FV .f32 p x) (hf : isFin .f64 (fconv .f32 .f64 p) = true) : ∃ v, FQ (fconv .f32 .f64 p) v ∧ Bd v (p2 131) := by
  cases p with
  | none => cases hf
  | some c =>
    obtain ⟨rfl, hn⟩ := h.not_nan
    have hle := rg_le_of_not_nan hn
    rcases Nat.lt_or_eq_of_le hle with h1 | h1
    · obtain ⟨m, pl, hr, hv⟩ := bv_read Ieee.single h1
      have e : fconv .f32 .f64 (some c) = some (D64.nearest (sg Ieee.single c) m pl) := by
        show some (FloatKind.f64.encode (FloatKind.f32.decode c)) = _
        rw [show FloatKind.f32.decode c = _ from hr]
        rfl
      have hb : Bd (bv Ieee.single c) (p2 128) := by
        have hV := Rat.natCast_le_natCast.2 (V_le Ieee.single (Nat.le_of_lt h1))
        rw [show V Ieee.single (FloatKind.f32.format.infRung) = 2 ^ 139 * 2 ^ 138 from V_single_inf] at hV
        have g := Rat.mul_le_mul_of_nonneg_right hV (Rat.le_of_lt (p2_pos Ieee.single.leastPlace))
        have e1 : (((2 ^ 139 * 2 ^ 138 : Nat)) : Rat) * p2 Ieee.single.leastPlace = p2 128 := by
          rw [Rat.natCast_mul, ← p2_nat, ← p2_nat, ← p2_add, ← p2_add]
          congr 1
        rw [e1] at g
        have g0 : 0 ≤ ((V Ieee.single (rg Ieee.single c) : Nat) : Rat) * p2 Ieee.single.leastPlace := Rat.mul_nonneg Rat.natCast_nonneg (Rat.le_of_lt (p2_pos _))
        have e2 : bv Ieee.single c = sv (sg Ieee.single c) * (((V Ieee.single (rg Ieee.single c) : Nat) : Rat) * p2 Ieee.single.leastPlace) := by
          unfold bv iv sv
          split
          · rw [Rat.intCast_neg, Rat.intCast_natCast]; grind
          · rw [Rat.intCast_natCast]; grind
        rw [e2]
        refine Bd.sv ?_ _
        constructor
        · have := p2_pos 128; grind
        · exact g
      rw [hv] at hb
      obtain ⟨r, hr1, r1, r2, r3⟩ := near_num (sg Ieee.single c) m pl hb (p2_le (by decide))
      rw [e, hr1]
      refine ⟨_, ⟨r, rfl, r1, r2, rfl⟩, ?_⟩
      have := r3.add hb
      have e3 : bv D64 r - sv (sg Ieee.single c) * (m * p2 pl) + sv (sg Ieee.single c) * (m * p2 pl) = bv D64 r := by grind
      rw [e3] at this
      refine this.mono ?_
      have k1 := Rat.mul_le_mul_of_nonneg_left (p2_le (show (-53 : Int) ≤ 0 by decide)) (Rat.le_of_lt (p2_pos 128))
      rw [p2_zero] at k1
      have k2 : p2 (-1075) ≤ p2 128 := p2_le (by decide)
      have k3 : p2 129 = 2 * p2 128 := p2_succ 128
      have k4 : p2 130 = 2 * p2 129 := p2_succ 129
      have k5 : p2 131 = 2 * p2 130 := p2_succ 130
      have := p2_pos 128
      grind
    · exfalso
      have hi := read_inf _ (okf .f32) h1
      have e : fconv .f32 .f64 (some c) = some (D64.write (.infinity (sg Ieee.single c))) := by
        show some (FloatKind.f64.encode (FloatKind.f32.decode c)) = _
        rw [show FloatKind.f32.decode c = _ from hi]
        rfl
      rw [e] at hf
      generalize sg Ieee.single c = s at hf
      revert hf
      cases s <;> decide +kernel

theorem pw20_FQ : FQ (some (pw 20)) (p2 (-20)) := FQ_pow (e := 1002) _ (by decide) (by decide)

/-- A pole of a mode that is no smaller than 2^-20. -/
theorem pole_mod {z : CN} {x y : Nat} (h1 : FV .f32 z.1 x) (h2 : FV .f32 z.2 y) (hf : cfin (wide z) = true) (hsq : ple (csq (wide z)) one64 = true)
    (hlo : (ford .f64 (fop .add .f64 (fabs .f64 (wide z).1) (fabs .f64 (wide z).2)) (some (pw 20)) == some .lt) = false) :
    Moderate (wide z) ∧ ∀ A B, FQ (fabs .f64 (wide z).1) A → FQ (fabs .f64 (wide z).2) B → A + B ≤ 2 := by
  unfold cfin at hf
  simp only [Bool.and_eq_true] at hf
  obtain ⟨a, fa, ba⟩ := wide_FQ h1 hf.1
  obtain ⟨b, fb, bb⟩ := wide_FQ h2 hf.2
  have fa' : FQ (wide z).1 a := fa
  have fb' : FQ (wide z).2 b := fb
  clear fa fb
  generalize wide z = Z at *
  obtain ⟨A, fA, A0, hA⟩ := fa'.abs
  obtain ⟨B, fB, B0, hB⟩ := fb'.abs
  have sa := sq_abs hA
  have sb := sq_abs hB
  have pa := Rat.mul_nonneg A0 A0
  have pb := Rat.mul_nonneg B0 B0
  have big : ∀ v : Rat, Bd v (p2 131) → v * v ≤ p2 262 := fun v hv => by
    have := (hv.mul hv).2
    rw [← p2_add] at this
    exact this
  have ga := big a ba
  have gb := big b bb
  have k0 : 1 ≤ p2 262 := p2_le (m := 0) (by decide)
  have k1 : p2 263 = 2 * p2 262 := p2_succ 262
  have k2 : p2 264 = 2 * p2 263 := p2_succ 263
  have k3 : p2 265 = 2 * p2 264 := p2_succ 264
  have k4 : p2 265 ≤ p2 1000 := p2_le (by decide)
  have lo : p2 (-900) ≤ 1 := p2_le (n := 0) (by decide)
  have hcu := cu_le
  have hcu0 := cu_pos
  obtain ⟨s1, fs1, es1⟩ := fop_mul_near fa' fa' (M := a * a + 1) (by constructor <;> grind) (by grind) (by grind)
  obtain ⟨s2, fs2, es2⟩ := fop_mul_near fb' fb' (M := b * b + 1) (by constructor <;> grind) (by grind) (by grind)
  have m1 := Rat.mul_le_mul_of_nonneg_left hcu (show 0 ≤ a * a + 1 by grind)
  have m2 := Rat.mul_le_mul_of_nonneg_left hcu (show 0 ≤ b * b + 1 by grind)
  have es1' := es1.mono m1
  have es2' := es2.mono m2
  obtain ⟨u1, u2⟩ := es1'
  obtain ⟨v1, v2⟩ := es2'
  obtain ⟨s, fs, es⟩ := fop_add_near fs1 fs2 (M := 2 * (a * a + b * b) + 3) (by constructor <;> grind) (by grind) (by grind)
  have m3 := Rat.mul_le_mul_of_nonneg_left hcu (show 0 ≤ 2 * (a * a + b * b) + 3 by grind)
  have es' := es.mono m3
  obtain ⟨w1, w2⟩ := es'
  have hs1 : s ≤ 1 := by
    unfold ple at hsq
    rw [show csq Z = fop .add .f64 (fop .mul .f64 Z.1 Z.1) (fop .mul .f64 Z.2 Z.2) from rfl, fle fs one_FQ] at hsq
    exact of_decide_eq_true hsq
  have tot : A * A + B * B ≤ 2 := by grind
  have hAB : A + B ≤ 2 := by
    refine Rat.not_lt.1 fun hlt => ?_
    have t1 : 4 < (A + B) * (A + B) := by
      have t2 := Rat.mul_lt_mul_of_pos_left hlt (show 0 < A + B by grind)
      grind
    have t3 := sq_nonneg (A - B)
    grind
  clear es1 es2 es m1 m2 m3 u1 u2 v1 v2 w1 w2 big ga gb fs fs1 fs2 hs1
  have c1 := p2_pos (-300)
  refine ⟨⟨_, _, A, B, fa', fb', fA, fB, A0, B0, hA, hB, ?_, ?_⟩, ?_⟩
  · refine Rat.not_lt.1 fun hlt => ?_
    have hb : Bd (A + B) (p2 (-300)) := by constructor <;> grind
    obtain ⟨s, fs, es⟩ := fop_add_near fA fB hb (p2_le (by decide)) (p2_le (by decide))
    have hs : Bd s (2 * p2 (-300)) := Bd.of_near es hb (by
      have := Rat.mul_le_mul_of_nonneg_left (p2_le (show (-51 : Int) ≤ 0 by decide)) (Rat.le_of_lt c1)
      rw [p2_zero] at this
      grind)
    rw [flt fs pw20_FQ] at hlo
    have h1 := of_decide_eq_false hlo
    have h2 : p2 (-299) = 2 * p2 (-300) := by
      rw [show (-299 : Int) = (-300) + 1 by decide]
      exact p2_succ _
    have h3 : p2 (-299) < p2 (-20) := by
      have : p2 (-298) ≤ p2 (-20) := p2_le (by decide)
      have h4 : p2 (-298) = 2 * p2 (-299) := by
        rw [show (-298 : Int) = (-299) + 1 by decide]
        exact p2_succ _
      have := p2_pos (-299)
      grind
    have := hs.2
    grind
  · have : p2 1 ≤ p2 300 := p2_le (by decide)
    rw [p2_one] at this
    grind
  · intro A' B' fA' fB'
    obtain ⟨r1, e1, -, -, rfl⟩ := fA
    obtain ⟨r2, e2, -, -, rfl⟩ := fB
    obtain ⟨r1', e1', -, -, rfl⟩ := fA'
    obtain ⟨r2', e2', -, -, rfl⟩ := fB'
    rw [e1] at e1'
    rw [e2] at e2'
    cases e1'
    cases e2'
    exact hAB

/-- What the law's last test asks. -/
theorem beat_ok {z u : CN} (hz : Moderate z) (hu : Moderate u) (h2 : ∀ A B, FQ (fabs .f64 z.1) A → FQ (fabs .f64 z.2) B → A + B ≤ 2) : cdivOk z u = true ∧
    (ford .f64 (offBy (cmul (cdiv z u) u) z) (some (pw 44)) == some .lt || ford .f64 (offBy (cmul (cdiv z u) u) z) (some (pw 44)) == some .eq) = true := by
  obtain ⟨hok, s, A, B, fA, fB, A0, B0, hS, fs, hs⟩ := mod_div hz hu
  refine ⟨hok, ?_⟩
  rw [fle fs pw44_FQ]
  refine decide_eq_true ?_
  have k := h2 A B fA fB
  have c := cu_pos
  have := Rat.mul_le_mul_of_nonneg_left k (Rat.le_of_lt c)
  rw [cu_44]
  grind
end Go.Proofs.Ytkfcpnfolgiogaa
