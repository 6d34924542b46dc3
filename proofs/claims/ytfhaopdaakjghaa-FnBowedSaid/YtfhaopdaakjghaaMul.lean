import Derived.Test.YtfhaopdaakjghaaAny
namespace Go.Proofs.Ytfhaopdaakjghaa
open Go.RowKit Go.Fl

/-- What the two words of a complex number stand for. -/
abbrev CN := Option Nat × Option Nat

/-- The words x and y stand for z's parts. -/
def FC (z : CN) (x y : Nat) : Prop := FV .f64 z.1 x ∧ FV .f64 z.2 y

/-- A call that gives a complex number that stands for z, and leaves the world as it was, but for draws. -/
def RetC (z : CN) (w : World) (e : Ending) (w' : World) : Prop := ∃ x y, e = .returned (.complex .f64 x y) ∧ FC z x y ∧ ∃ n, w' = w.drewN n

def cmul (z u : CN) : CN := (fop .sub .f64 (fop .mul .f64 z.1 u.1) (fop .mul .f64 z.2 u.2), fop .add .f64 (fop .mul .f64 z.1 u.2) (fop .mul .f64 z.2 u.1))
def cadd (z u : CN) : CN := (fop .add .f64 z.1 u.1, fop .add .f64 z.2 u.2)
def csub (z u : CN) : CN := (fop .sub .f64 z.1 u.1, fop .sub .f64 z.2 u.2)

set_option maxHeartbeats 400000 in
theorem multiplyDouble_c {z u : CN} {a b c d : Nat} (hz : FC z a b) (hu : FC u c d) (w : World) :
    Calls Try.prog 56 #[.complex .f64 a b, .complex .f64 c d] w (RetC (cmul z u) w) := by
  obtain ⟨ha, hb⟩ := hz
  obtain ⟨hc, hd⟩ := hu
  go_enter Try.func56, Try.ntmps56
  go_wp2_with (first | (refine upon_flop _ (by decide) ha hc ?_; intro x1 n1 h1) | (refine upon_flop _ (by decide) hb hd ?_; intro x2 n2 h2) | (refine upon_flop _ (by decide) ha hd ?_; intro x3 n3 h3) | (refine upon_flop _ (by decide) hb hc ?_; intro x4 n4 h4) | (refine upon_flop _ (by decide) h1 h2 ?_; intro x5 n5 h5) | (refine upon_flop _ (by decide) h3 h4 ?_; intro x6 n6 h6))
  go_ret
  exact ⟨_, _, rfl, ⟨h5, h6⟩, _, rfl⟩

set_option maxHeartbeats 400000 in
theorem at_c {a : Option Addr} {len cap : Nat} (w : World) (h : BsP w a len) (hl : len ≤ 1048576) (i : Nat) (hi : i ≤ 1000) :
    Calls Try.prog 5 #[.slice a len cap, .int .i64 i] w (fun e w' => ∃ r : Nat, e = .returned (.int .i64 r) ∧ r ≤ 255 ∧ w' = w) := by
  have u3 := under3
  by_cases hlt : i < len
  · obtain ⟨b, off, x, rfl, hc, x0, x1, _⟩ := h i hlt
    have d1 : decide ((i : Int) < (len : Int)) = true := by simpa using hlt
    clear h
    go_enter Try.func5, Try.ntmps5
    go_wp2
    go_ret
    refine ⟨x.toNat, ?_, by omega, rfl⟩
    rw [show ((x.toNat : Nat) : Int) = x by omega]
    rfl
  · have d1 : decide ((i : Int) < (len : Int)) = false := by simpa using hlt
    clear h
    go_enter Try.func5, Try.ntmps5
    go_wp2
    go_ret
    refine ⟨((i * 37 + len * 11) % 256), ?_, by omega, rfl⟩
    rfl
end Go.Proofs.Ytfhaopdaakjghaa
