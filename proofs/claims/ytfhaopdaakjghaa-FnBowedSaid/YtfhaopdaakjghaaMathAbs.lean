import Derived.Test.YtfhaopdaakjghaaAbs
namespace Go.Proofs.Ytfhaopdaakjghaa
open Go.RowKit Go.Fl

theorem f64bits_run (b : Nat) (w : World) : (callFunc 54 #[.float .f64 b]).run Try.prog w = .ok (.value (.int .u64 b)) w := by
  rw [run_callFunc_extern (e := Extern.MathFloatBits.float64bits) Try.func54 (by kernel_rfl) (by kernel_rfl) (by kernel_rfl) (by kernel_rfl)]
  rfl

theorem f64frombits_run (n : Int) (w : World) : (callFunc 53 #[.int .u64 n]).run Try.prog w = .ok (.value (.float .f64 n.toNat)) w := by
  rw [run_callFunc_extern (e := Extern.MathFloatBits.float64frombits) Try.func53 (by kernel_rfl) (by kernel_rfl) (by kernel_rfl) (by kernel_rfl)]
  rfl

theorem clear_top64 (b : Nat) : b &&& 9223372036854775807 = rg FloatKind.f64.format b := by
  have : b &&& (2 ^ 63 - 1) = b % 2 ^ 63 := Nat.and_two_pow_sub_one_eq_mod b 63
  exact this

set_option maxHeartbeats 400000 in
/-- The program's absolute value of a float32. -/
theorem mathAbs_c {p : Option Nat} {x : Nat} (hx : FV .f64 p x) (w : World) : Calls Try.prog 45 #[.float .f64 x] w (RetF .f64 (fabs .f64 p) w) := by
  have r1 := fun w => f64bits_run x w
  have r2 := fun n w => f64frombits_run n w
  have hlt : (x : Int) < 18446744073709551616 := by have := hx.2; have h64 : (2 : Nat) ^ FloatKind.f64.format.width = 18446744073709551616 := rfl; omega
  have ha := hx.abs
  have hc := Lib.hid (clear_top64 x)
  go_enter Try.func45, Try.ntmps45
  go_wp2
  go_ret
  refine ⟨_, rfl, ?_, 0, rfl⟩
  have e : (bits BinOp.andNot IntKind.u64 (x : Int) 9223372036854775808).toNat = rg FloatKind.f64.format x := by
    rw [u64_andNot (x : Int) 9223372036854775808 (by omega) hlt (by decide) (by decide), ← hc.out]
    rfl
  show FV .f64 _ (bits BinOp.andNot IntKind.u64 (x : Int) 9223372036854775808).toNat
  rw [e]
  exact ha
end Go.Proofs.Ytfhaopdaakjghaa
