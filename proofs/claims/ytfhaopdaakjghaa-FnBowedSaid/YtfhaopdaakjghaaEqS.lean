import Derived.Test.YtfhaopdaakjghaaBodyC
namespace Go.Proofs.Ytfhaopdaakjghaa
open Go.RowKit Go.Fl

/-- Are two words equal numbers? -/
def weq (a b : Nat) : Bool := FloatKind.f32.format.order a b == some .eq
def ceq (a b c d : Nat) : Bool := weq a c && weq b d

set_option maxRecDepth 10000 in
set_option maxHeartbeats 1000000 in
theorem addSingle_c {a b c d x y : Nat} (h1 : floatBits .add .f32 a c = some x) (h2 : floatBits .add .f32 b d = some y) (w : World) :
    Calls Try.prog 46 #[.complex .f32 a b, .complex .f32 c d] w fun e w' => e = .returned (.complex .f32 x y) ∧ w' = w := by
  have e1 := fun W => run_float_arith (P := Try.prog) W .add 25 .f32 a c x h1
  have e2 := fun W => run_float_arith (P := Try.prog) W .add 25 .f32 b d y h2
  go_enter Try.func46, Try.ntmps46
  go_wp2_with fail
  go_ret
  simp

set_option maxRecDepth 10000 in
set_option maxHeartbeats 1000000 in
theorem scaleSingle_c {a b c x y : Nat} (h1 : floatBits .mul .f32 a c = some x) (h2 : floatBits .mul .f32 b c = some y) (w : World) :
    Calls Try.prog 48 #[.complex .f32 a b, .float .f32 c] w fun e w' => e = .returned (.complex .f32 x y) ∧ w' = w := by
  have e1 := fun W => run_float_arith (P := Try.prog) W .mul 25 .f32 a c x h1
  have e2 := fun W => run_float_arith (P := Try.prog) W .mul 25 .f32 b c y h2
  go_enter Try.func48, Try.ntmps48
  go_wp2_with fail
  go_ret
  simp
end Go.Proofs.Ytfhaopdaakjghaa
