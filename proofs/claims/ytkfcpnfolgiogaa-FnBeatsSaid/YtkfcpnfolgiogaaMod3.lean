import Derived.Test.YtkfcpnfolgiogaaMod2
namespace Go.Proofs.Ytkfcpnfolgiogaa
open Go.RowKit Go.Fl

/-- A number with finite parts, whose size A + B is from 2^-300 to 2^300. -/
def Moderate (z : CN) : Prop := ∃ a b A B, FQ z.1 a ∧ FQ z.2 b ∧ FQ (fabs .f64 z.1) A ∧ FQ (fabs .f64 z.2) B ∧ 0 ≤ A ∧ 0 ≤ B ∧ (A = a ∨ A = -a) ∧ (B = b ∨ B = -b) ∧ p2 (-300) ≤ A + B ∧ A + B ≤ p2 300

theorem FQ.of_fin {p : Option Nat} {x : Nat} (h : FV .f64 p x) (hf : isFin .f64 p = true) : FQ p (bv D64 x) := by
  cases p with
  | none => cases hf
  | some c =>
    obtain rfl := h.some_eq
    exact ⟨c, rfl, of_decide_eq_true hf, h.2, rfl⟩

theorem lo_FQ : FQ (some 3706462493325918208) (p2 (-200)) := FQ_pow (e := 822) _ (by decide) (by decide)
theorem hi_FQ : FQ (some 5507902344274116608) (p2 200) := FQ_pow (e := 1222) _ (by decide) (by decide)

/-- What the size tells. -/
theorem mod_of {z : CN} {x y : Nat} (h : FC z x y) (hf : cfin z = true) (hlo : (ford .f64 (fop .add .f64 (fabs .f64 z.1) (fabs .f64 z.2)) (some 3706462493325918208) == some .lt) = false)
    (hhi : (ford .f64 (fop .add .f64 (fabs .f64 z.1) (fabs .f64 z.2)) (some 5507902344274116608) == some .gt) = false) : Moderate z := by
  unfold cfin at hf
  simp only [Bool.and_eq_true] at hf
  have fa := FQ.of_fin h.1 hf.1
  have fb := FQ.of_fin h.2 hf.2
  obtain ⟨A, fA, A0, hA⟩ := fa.abs
  obtain ⟨B, fB, B0, hB⟩ := fb.abs
  have c1 := p2_pos (-300)
  refine ⟨_, _, A, B, fa, fb, fA, fB, A0, B0, hA, hB, ?_, ?_⟩
  · refine Rat.not_lt.1 fun hlt => ?_
    have hb : Bd (A + B) (p2 (-300)) := by constructor <;> grind
    obtain ⟨s, fs, es⟩ := fop_add_near fA fB hb (p2_le (by decide)) (p2_le (by decide))
    have hs : Bd s (2 * p2 (-300)) := Bd.of_near es hb (by
      have := Rat.mul_le_mul_of_nonneg_left (p2_le (show (-51 : Int) ≤ 0 by decide)) (Rat.le_of_lt c1)
      rw [p2_zero] at this
      grind)
    rw [flt fs lo_FQ] at hlo
    have h1 := of_decide_eq_false hlo
    have h2 : p2 (-299) = 2 * p2 (-300) := by
      rw [show (-299 : Int) = (-300) + 1 by decide]
      exact p2_succ _
    have h3 : p2 (-299) < p2 (-200) := by
      have : p2 (-298) ≤ p2 (-200) := p2_le (by decide)
      have h4 : p2 (-298) = 2 * p2 (-299) := by
        rw [show (-298 : Int) = (-299) + 1 by decide]
        exact p2_succ _
      have := p2_pos (-299)
      grind
    have := hs.2
    grind
  · refine Rat.not_lt.1 fun hlt => ?_
    rw [add_big fA fB (Rat.le_of_lt hlt) hi_FQ] at hhi
    cases hhi

theorem mod_const : Moderate (some 4604930618986332160, some 13837309855095848960) := by
  have f1 : FQ (some 4604930618986332160) (3 * p2 (-2)) := by
    have h := FQ_word false (e := 1021) (k := 3 * 2251799813685248) (by decide) (by decide) (by decide)
    have e2 : sv false * (((3 * 2251799813685248 : Nat) : Rat) * p2 (((1021 : Nat) : Int) + -1074)) = 3 * p2 (-2) := by
      have : ((3 * 2251799813685248 : Nat) : Rat) = 3 * p2 51 := by
        rw [Rat.natCast_mul]
        have : p2 51 = ((2251799813685248 : Nat) : Rat) := p2_nat 51
        rw [this]
        rfl
      rw [this, Rat.mul_assoc, ← p2_add]
      unfold sv
      rw [if_neg (by decide), Rat.one_mul]
      rfl
    rw [e2] at h
    exact h
  have f2 : FQ (some 13837309855095848960) (-(3 * p2 0)) := by
    have h := FQ_word true (e := 1023) (k := 3 * 2251799813685248) (by decide) (by decide) (by decide)
    have e2 : sv true * (((3 * 2251799813685248 : Nat) : Rat) * p2 (((1023 : Nat) : Int) + -1074)) = -(3 * p2 0) := by
      have : ((3 * 2251799813685248 : Nat) : Rat) = 3 * p2 51 := by
        rw [Rat.natCast_mul]
        have : p2 51 = ((2251799813685248 : Nat) : Rat) := p2_nat 51
        rw [this]
        rfl
      rw [this, Rat.mul_assoc, ← p2_add]
      unfold sv
      rw [if_pos rfl, Rat.neg_mul, Rat.one_mul]
      rfl
    rw [e2] at h
    exact h
  obtain ⟨A, fA, A0, hA⟩ := f1.abs
  obtain ⟨B, fB, B0, hB⟩ := f2.abs
  have c1 := p2_pos (-2)
  have c2 := p2_pos 0
  have c3 : p2 (-2) ≤ p2 0 := p2_le (by decide)
  have c4 : p2 (-300) ≤ p2 (-2) := p2_le (by decide)
  have c5 : p2 3 ≤ p2 300 := p2_le (by decide)
  have c6 : p2 3 = 8 := p2_nat 3
  have c7 : p2 0 = 1 := rfl
  refine ⟨_, _, A, B, f1, f2, fA, fB, A0, B0, hA, hB, ?_, ?_⟩
  · rcases hA with h | h <;> rcases hB with k | k <;> grind
  · rcases hA with h | h <;> rcases hB with k | k <;> grind

/-- A call that gives a moderate number. -/
def ModC (w : World) (e : Ending) (w' : World) : Prop := ∃ z x y, e = .returned (.complex .f64 x y) ∧ FC z x y ∧ Moderate z ∧ Below w.heap.size w w'

theorem cl_lo : cl .f64 3706462493325918208 = some 3706462493325918208 := by decide +kernel
theorem cl_hi : cl .f64 5507902344274116608 = some 5507902344274116608 := by decide +kernel
theorem cl_m1 : cl .f64 4604930618986332160 = some 4604930618986332160 := by decide +kernel
theorem cl_m2 : cl .f64 13837309855095848960 = some 13837309855095848960 := by decide +kernel

set_option maxHeartbeats 1000000 in
theorem makeModerate_c {a : Option Addr} {len cap : Nat} (w : World) (h : BsP w a len) (hl : len ≤ 1048576) :
    Calls Try.prog 9 #[.slice a len cap] w (ModC w) := by
  have H := Lib.hid h
  clear h
  have no : ∀ w', Below w.heap.size w w' → ModC w (.returned (.complex .f64 4604930618986332160 13837309855095848960)) w' := fun w' hb =>
    ⟨_, _, _, rfl, ⟨⟨cl_m1, by decide⟩, ⟨cl_m2, by decide⟩⟩, mod_const, hb⟩
  have NO := Lib.hid no
  clear no
  go_enter Try.func9, Try.ntmps9
  go_wp2_with fail
  refine (l01New_c _ H.out hl).mono ?_
  rintro e w1 ⟨rfl, c1, b1⟩
  have C1 := Lib.hid c1
  clear c1
  go_wp2_with fail
  refine (l1Double_c _ C1.out).mono ?_
  rintro e w2 ⟨r, s, p, q, rfl, hr, hs, d2⟩
  have hz : FC (p, q) r s := ⟨hr, hs⟩
  have hb := below_cur b1 d2
  clear d2 hr hs C1
  generalize hzz : ((p, q) : CN) = z at *
  clear hzz
  go_wp2_with fail
  refine (finiteSpec_c hz _).mono ?_
  rintro e _ ⟨rfl, n1, rfl⟩
  cases h1 : cfin z
  · go_wp2_with fail
    go_ret
    exact NO.out _ (below_drewN' hb _)
  · go_wp2_with fail
    refine (sizeSpec_c hz _).mono ?_
    rintro e _ ⟨s1, rfl, hs1, n2, rfl⟩
    have o1 : FloatKind.f64.format.order s1 3706462493325918208 = ford .f64 (fop .add .f64 (fabs .f64 z.1) (fabs .f64 z.2)) (some 3706462493325918208) := order_FV hs1 ⟨cl_lo, by decide⟩
    cases h2 : (FloatKind.f64.format.order s1 3706462493325918208 == some .lt)
    · rw [o1] at h2
      have H2 := Lib.hid h2
      have O1 := Lib.hid o1
      have h2' : (FloatKind.f64.format.order s1 3706462493325918208 == some .lt) = false := by rw [O1.out]; exact h2
      clear h2 o1
      go_wp2_with fail
      refine (sizeSpec_c hz _).mono ?_
      rintro e _ ⟨s2, rfl, hs2, n3, rfl⟩
      have o2 : FloatKind.f64.format.order s2 5507902344274116608 = ford .f64 (fop .add .f64 (fabs .f64 z.1) (fabs .f64 z.2)) (some 5507902344274116608) := order_FV hs2 ⟨cl_hi, by decide⟩
      cases h3 : (FloatKind.f64.format.order s2 5507902344274116608 == some .gt)
      · have H3 := Lib.hid h3
        have O2 := Lib.hid o2
        clear o2 hs1 hs2
        go_wp2_with fail
        go_ret
        exact ⟨z, _, _, rfl, hz, mod_of hz h1 H2.out (by rw [← O2.out]; exact H3.out), below_drewN' hb _⟩
      · clear o2 hs1 hs2
        go_wp2_with fail
        go_ret
        exact NO.out _ (below_drewN' hb _)
    · clear o1 hs1
      go_wp2_with fail
      go_ret
      exact NO.out _ (below_drewN' hb _)
end Go.Proofs.Ytkfcpnfolgiogaa
