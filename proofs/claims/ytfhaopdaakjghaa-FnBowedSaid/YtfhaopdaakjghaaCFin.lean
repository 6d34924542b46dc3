import Derived.Test.YtfhaopdaakjghaaFresh
import Derived.Test.YtfhaopdaakjghaaL1Abs
import Derived.Test.YtfhaopdaakjghaaFinite
namespace Go.Proofs.Ytfhaopdaakjghaa
open Go.RowKit Go.Fl

/-- A call that gives some complex number; what lay below stays. -/
def AnyC (w : World) (e : Ending) (w' : World) : Prop := ∃ z x y, e = .returned (.complex .f64 x y) ∧ FC z x y ∧ Below w.heap.size w w'

theorem below_cur {a : Option Addr} {len cap : Nat} {w w1 w2 : World} (h1 : Below w.heap.size w w1) (d : Drawn w.heap.size a len cap w1 w2) : Below w.heap.size w w2 :=
  h1.trans ((Below.refl _ _).grown d.2 h1.size (fun k hk => by cases hk; exact Nat.le_refl _))

def isC (z : CN) (v : Value) : Prop := ∃ x y, v = .complex .f64 x y ∧ FC z x y

def feq (p q : Option Nat) : Bool := ford .f64 p q == some .eq

def cfin (z : CN) : Bool := isFin .f64 z.1 && isFin .f64 z.2

set_option maxHeartbeats 400000 in
theorem finiteSpec_c {z : CN} {x y : Nat} (h : FC z x y) (w : World) :
    Calls Try.prog 42 #[.complex .f64 x y] w (Ret (.bool (cfin z)) w) := by
  obtain ⟨hx, hy⟩ := h
  go_enter Try.func42, Try.ntmps42
  go_wp2_with fail
  refine (l1Finite_c hx _).mono ?_
  rintro e _ ⟨rfl, n, rfl⟩
  cases h1 : isFin .f64 z.1
  · go_wp2_with fail
    go_ret
    exact ⟨by unfold cfin; rw [h1]; rfl, _, rfl⟩
  · go_wp2_with fail
    refine (l1Finite_c hy _).mono ?_
    rintro e _ ⟨rfl, m, rfl⟩
    go_wp2_with fail
    go_ret
    exact ⟨by unfold cfin; rw [h1, Bool.true_and]; rfl, _, rfl⟩

set_option maxHeartbeats 400000 in
theorem finiteImpl_c {z : CN} {x y : Nat} (h : FC z x y) (w : World) :
    Calls Try.prog 44 #[.complex .f64 x y] w (Ret (.bool (cfin z)) w) := by
  obtain ⟨hx, hy⟩ := h
  go_enter Try.func44, Try.ntmps44
  go_wp2_with fail
  refine (finite_c hx _).mono ?_
  rintro e _ ⟨rfl, n, rfl⟩
  cases h1 : isFin .f64 z.1
  · go_wp2_with fail
    go_ret
    exact ⟨by unfold cfin; rw [h1]; rfl, _, rfl⟩
  · go_wp2_with fail
    refine (finite_c hy _).mono ?_
    rintro e _ ⟨rfl, m, rfl⟩
    go_wp2_with fail
    go_ret
    exact ⟨by unfold cfin; rw [h1, Bool.true_and]; rfl, _, rfl⟩
end Go.Proofs.Ytfhaopdaakjghaa
