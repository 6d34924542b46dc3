import Derived.Test.YtkfcpnfolgiogaaSmith2
import Derived.Test.YtkfcpnfolgiogaaRing
namespace Go.Proofs.Ytkfcpnfolgiogaa
open Go.RowKit Go.Fl

def feq (p q : Option Nat) : Bool := ford .f64 p q == some .eq
def cfin (z : CN) : Bool := isFin .f64 z.1 && isFin .f64 z.2
def ceq (z u : CN) : Bool := feq z.1 u.1 && feq z.2 u.2
def c0 : CN := (cl .f64 0, cl .f64 0)
def cge (u : CN) : Bool := ford .f64 (fabs .f64 u.1) (fabs .f64 u.2) == some .gt || ford .f64 (fabs .f64 u.1) (fabs .f64 u.2) == some .eq
def cquo (z u : CN) : CN := cquoB (cge u) z u

set_option maxHeartbeats 400000 in
theorem finiteSpec_c {z : CN} {x y : Nat} (h : FC z x y) (w : World) :
    Calls Try.prog 17 #[.complex .f64 x y] w (Ret (.bool (cfin z)) w) := by
  obtain ⟨hx, hy⟩ := h
  go_enter Try.func17, Try.ntmps17
  go_wp2_with fail
  refine (l1Finite_c hx _).mono ?_
  rintro e _ ⟨rfl, n, rfl⟩
  cases h1 : isFin .f64 z.1
  · go_wp2_with fail
    go_ret
    exact ⟨by unfold cfin; rw [h1]; rfl, _, rfl⟩
  · go_wp2_with fail
    refine (l1Finite_c hy _).mono ?_
    rintro e _ ⟨rfl, m, rfl⟩
    go_wp2_with fail
    go_ret
    exact ⟨by unfold cfin; rw [h1, Bool.true_and]; rfl, _, rfl⟩

set_option maxHeartbeats 400000 in
theorem finiteImpl_c {z : CN} {x y : Nat} (h : FC z x y) (w : World) :
    Calls Try.prog 43 #[.complex .f64 x y] w (Ret (.bool (cfin z)) w) := by
  obtain ⟨hx, hy⟩ := h
  go_enter Try.func43, Try.ntmps43
  go_wp2_with fail
  refine (finite_c hx _).mono ?_
  rintro e _ ⟨rfl, n, rfl⟩
  cases h1 : isFin .f64 z.1
  · go_wp2_with fail
    go_ret
    exact ⟨by unfold cfin; rw [h1]; rfl, _, rfl⟩
  · go_wp2_with fail
    refine (finite_c hy _).mono ?_
    rintro e _ ⟨rfl, m, rfl⟩
    go_wp2_with fail
    go_ret
    exact ⟨by unfold cfin; rw [h1, Bool.true_and]; rfl, _, rfl⟩

set_option maxHeartbeats 400000 in
theorem equalDouble_c {z u : CN} {a b c d : Nat} (hz : FC z a b) (hu : FC u c d) (w : World) :
    Calls Try.prog 18 #[.complex .f64 a b, .complex .f64 c d] w (Ret (.bool (ceq z u)) w) := by
  obtain ⟨ha, hb⟩ := hz
  obtain ⟨hc, hd⟩ := hu
  have h1 : (FloatKind.f64.format.order a c == some .eq) = feq z.1 u.1 := by unfold feq; rw [order_FV ha hc]
  have h2 : (FloatKind.f64.format.order b d == some .eq) = feq z.2 u.2 := by unfold feq; rw [order_FV hb hd]
  unfold ceq
  cases ht : feq z.1 u.1 <;> rw [ht] at h1
  · clear ha hb hc hd h2
    go_enter Try.func18, Try.ntmps18
    go_wp2_with fail
    go_ret
    exact ⟨rfl, 0, rfl⟩
  · clear ha hb hc hd
    go_enter Try.func18, Try.ntmps18
    go_wp2_with fail
    go_ret
    exact ⟨by simp, 0, rfl⟩

set_option maxHeartbeats 1000000 in
theorem quotient_c {z u : CN} {a b c d : Nat} (hz : FC z a b) (hu : FC u c d) (w : World) :
    Calls Try.prog 44 #[.complex .f64 a b, .complex .f64 c d] w (RetC (cquo z u) w) := by
  obtain ⟨ha, hb⟩ := hz
  obtain ⟨hc, hd⟩ := hu
  go_enter Try.func44, Try.ntmps44
  go_wp2_with fail
  refine (mathAbs_c hc _).mono ?_
  rintro e _ ⟨r, rfl, hr, n, rfl⟩
  go_wp2_with fail
  refine (mathAbs_c hd _).mono ?_
  rintro e _ ⟨s, rfl, hs, m, rfl⟩
  have hge : (FloatKind.f64.format.order r s == some .gt || FloatKind.f64.format.order r s == some .eq) = cge u := by unfold cge; rw [order_FV hr hs]
  cases ht : cge u <;> rw [ht] at hge
  · go_wp2_with (first | (refine upon_flop _ (by decide) hc hd ?_; intro x1 n1 h1) | (refine upon_flop _ (by decide) h1 hc ?_; intro x2 n2 h2) | (refine upon_flop _ (by decide) ha h1 ?_; intro x3 n3 h3) | (refine upon_flop _ (by decide) hb h1 ?_; intro x4 n4 h4) | (refine upon_flop _ (by decide) hd h2 ?_; intro x5 n5 h5) | (refine upon_flop _ (by decide) h3 hb ?_; intro x6 n6 h6) | (refine upon_flop _ (by decide) h6 h5 ?_; intro x7 n7 h7) | (refine upon_flop _ (by decide) h4 ha ?_; intro x8 n8 h8) | (refine upon_flop _ (by decide) h8 h5 ?_; intro x9 n9 h9))
    go_ret
    refine ⟨_, _, rfl, ?_, _, rfl⟩
    rw [show cquo z u = cquoB false z u by unfold cquo; rw [ht]]
    exact ⟨h7, h9⟩
  · go_wp2_with (first | (refine upon_flop _ (by decide) hd hc ?_; intro x1 n1 h1) | (refine upon_flop _ (by decide) h1 hd ?_; intro x2 n2 h2) | (refine upon_flop _ (by decide) hb h1 ?_; intro x3 n3 h3) | (refine upon_flop _ (by decide) ha h1 ?_; intro x4 n4 h4) | (refine upon_flop _ (by decide) hc h2 ?_; intro x5 n5 h5) | (refine upon_flop _ (by decide) ha h3 ?_; intro x6 n6 h6) | (refine upon_flop _ (by decide) h6 h5 ?_; intro x7 n7 h7) | (refine upon_flop _ (by decide) hb h4 ?_; intro x8 n8 h8) | (refine upon_flop _ (by decide) h8 h5 ?_; intro x9 n9 h9))
    go_ret
    refine ⟨_, _, rfl, ?_, _, rfl⟩
    rw [show cquo z u = cquoB true z u by unfold cquo; rw [ht]]
    exact ⟨h7, h9⟩

/-- Is a quotient given? -/
def cdivOk (z u : CN) : Bool := cfin z && cfin u && !ceq u c0 && cfin (cquo z u)
def cdiv (z u : CN) : CN := if cdivOk z u then cquo z u else c0

/-- A call that gives a complex number and a bool. -/
def RetCB (z : CN) (t : Bool) (w : World) (e : Ending) (w' : World) : Prop := ∃ x y, e = .returned (.tuple #[.complex .f64 x y, .bool t]) ∧ FC z x y ∧ ∃ n, w' = w.drewN n

theorem fc0 : FC c0 0 0 := ⟨FV.of_lt (k := .f64) (by decide), FV.of_lt (k := .f64) (by decide)⟩

set_option maxHeartbeats 1000000 in
theorem divideDouble_c {z u : CN} {a b c d : Nat} (hz : FC z a b) (hu : FC u c d) (w : World) :
    Calls Try.prog 11 #[.complex .f64 a b, .complex .f64 c d] w (RetCB (cdiv z u) (cdivOk z u) w) := by
  have no : cdivOk z u = false → ∀ n, RetCB (cdiv z u) (cdivOk z u) w (.returned (.tuple #[.complex .f64 0 0, .bool false])) (w.drewN n) := fun e n => by
    have e2 : cdiv z u = c0 := by unfold cdiv; rw [e]; rfl
    rw [e, e2]
    exact ⟨_, _, rfl, fc0, _, rfl⟩
  go_enter Try.func11, Try.ntmps11
  go_wp2_with fail
  refine (finiteImpl_c hz _).mono ?_
  rintro e _ ⟨rfl, n1, rfl⟩
  cases h1 : cfin z
  · go_wp2_with fail
    go_ret2
    exact no (by unfold cdivOk; rw [h1]; simp) _
  · go_wp2_with fail
    refine (finiteImpl_c hu _).mono ?_
    rintro e _ ⟨rfl, n2, rfl⟩
    cases h2 : cfin u
    · go_wp2_with fail
      go_ret2
      exact no (by unfold cdivOk; rw [h2]; simp) _
    · go_wp2_with fail
      refine (equalDouble_c hu fc0 _).mono ?_
      rintro e _ ⟨rfl, n3, rfl⟩
      cases h3 : ceq u c0
      · go_wp2_with fail
        refine (quotient_c hz hu _).mono ?_
        rintro e _ ⟨x, y, rfl, hq, n4, rfl⟩
        go_wp2_with fail
        refine (finiteImpl_c hq _).mono ?_
        rintro e _ ⟨rfl, n5, rfl⟩
        cases h4 : cfin (cquo z u)
        · go_wp2_with fail
          go_ret2
          exact no (by unfold cdivOk; rw [h4]; simp) _
        · go_wp2_with fail
          have e : cdivOk z u = true := by unfold cdivOk; rw [h1, h2, h3, h4]; rfl
          have e2 : cdiv z u = cquo z u := by unfold cdiv; rw [e]; rfl
          go_ret2
          rw [e, e2]
          exact ⟨_, _, rfl, hq, _, rfl⟩
      · go_wp2_with fail
        go_ret2
        exact no (by unfold cdivOk; rw [h3]; simp) _
end Go.Proofs.Ytkfcpnfolgiogaa
