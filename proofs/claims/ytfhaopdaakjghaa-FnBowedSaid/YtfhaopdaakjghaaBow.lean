import Derived.Test.YtfhaopdaakjghaaSize32
namespace Go.Proofs.Ytfhaopdaakjghaa
open Go.RowKit Go.Fl

/-- The force of a bow, and whether it sticks. -/
def bowD (b v : Option Nat) : Option Nat := fop .sub .f32 b v
def bowSticks (b v g : Option Nat) : Bool := ford .f32 (fabs .f32 (bowD b v)) g == some .lt || ford .f32 (fabs .f32 (bowD b v)) g == some .eq
def bowForce (b v g : Option Nat) : Option Nat := if bowSticks b v g then bowD b v else fop .quo .f32 (fop .mul .f32 g g) (bowD b v)

/-- A call that gives a float that stands for p and a bool. -/
def RetFB (k : FloatKind) (p : Option Nat) (t : Bool) (w : World) (e : Ending) (w' : World) : Prop := ∃ r, e = .returned (.tuple #[.float k r, .bool t]) ∧ FV k p r ∧ ∃ n, w' = w.drewN n

theorem bow_yes {b v g : Option Nat} (h : bowSticks b v g = true) : bowForce b v g = bowD b v := by unfold bowForce; rw [if_pos h]
theorem bow_no {b v g : Option Nat} (h : bowSticks b v g = false) : bowForce b v g = fop .quo .f32 (fop .mul .f32 g g) (bowD b v) := by unfold bowForce; rw [if_neg (by simp [h])]

set_option maxHeartbeats 400000 in
theorem bowedImpl_c {pb pv pg : Option Nat} {b v g : Nat} (hb : FV .f32 pb b) (hv : FV .f32 pv v) (hg : FV .f32 pg g) (w : World) :
    Calls Try.prog 14 #[.float .f32 b, .float .f32 v, .float .f32 g] w (RetFB .f32 (bowForce pb pv pg) (bowSticks pb pv pg) w) := by
  cases hs : bowSticks pb pv pg
  · have hf := Lib.hid (bow_no hs)
    have hs' := hs
    unfold bowSticks bowD at hs'
    have hs := Lib.hid hs'
    clear hs'
    go_enter Try.func14, Try.ntmps14
    go_wp2_with (refine upon_flop _ (by decide) hb hv ?_; intro d n1 hd)
    refine (size32_c hd _).mono ?_
    rintro e _ ⟨x, rfl, hx, n2, rfl⟩
    have ho : (FloatKind.f32.format.order x g == some .lt || FloatKind.f32.format.order x g == some .eq) = false := by rw [order_FV hx hg]; exact hs.out
    go_wp2_with (first | (refine upon_flop _ (by decide) hg hg ?_; intro m n3 hm) | (refine upon_flop _ (by decide) hm hd ?_; intro q n4 hq))
    go_ret2
    exact ⟨_, rfl, by rw [hf.out]; exact hq, _, rfl⟩
  · have hf := Lib.hid (bow_yes hs)
    have hs' := hs
    unfold bowSticks bowD at hs'
    have hs := Lib.hid hs'
    clear hs'
    go_enter Try.func14, Try.ntmps14
    go_wp2_with (refine upon_flop _ (by decide) hb hv ?_; intro d n1 hd)
    refine (size32_c hd _).mono ?_
    rintro e _ ⟨x, rfl, hx, n2, rfl⟩
    have ho : (FloatKind.f32.format.order x g == some .lt || FloatKind.f32.format.order x g == some .eq) = true := by rw [order_FV hx hg]; exact hs.out
    go_wp2_with fail
    go_ret2
    exact ⟨_, rfl, by rw [hf.out]; exact hd, _, rfl⟩

set_option maxHeartbeats 400000 in
theorem bowForceImpl_c {pb pv pg : Option Nat} {b v g : Nat} (hb : FV .f32 pb b) (hv : FV .f32 pv v) (hg : FV .f32 pg g) (w : World) :
    Calls Try.prog 6 #[.float .f32 b, .float .f32 v, .float .f32 g] w (RetF .f32 (bowForce pb pv pg) w) := by
  go_enter Try.func6, Try.ntmps6
  go_wp2_with (go_at_call 14; refine (bowedImpl_c hb hv hg _).mono ?_; rintro e _ ⟨r, rfl, hr, n, rfl⟩)
  go_ret
  exact ⟨_, rfl, hr, _, rfl⟩

end Go.Proofs.Ytfhaopdaakjghaa
