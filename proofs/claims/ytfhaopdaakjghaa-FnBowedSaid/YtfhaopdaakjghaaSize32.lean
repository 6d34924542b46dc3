import Derived.Test.YtfhaopdaakjghaaAbs
namespace Go.Proofs.Ytfhaopdaakjghaa
open Go.RowKit Go.Fl

theorem f32bits_run (b : Nat) (w : World) : (callFunc 28 #[.float .f32 b]).run Try.prog w = .ok (.value (.int .u32 b)) w := by
  rw [run_callFunc_extern (e := Extern.MathFloatBits.float32bits) Try.func28 (by kernel_rfl) (by kernel_rfl) (by kernel_rfl) (by kernel_rfl)]
  rfl

theorem f32frombits_run (n : Int) (w : World) : (callFunc 27 #[.int .u32 n]).run Try.prog w = .ok (.value (.float .f32 n.toNat)) w := by
  rw [run_callFunc_extern (e := Extern.MathFloatBits.float32frombits) Try.func27 (by kernel_rfl) (by kernel_rfl) (by kernel_rfl) (by kernel_rfl)]
  rfl

theorem clear_top32 (b : Nat) : b &&& 2147483647 = rg FloatKind.f32.format b := by
  have : b &&& (2 ^ 31 - 1) = b % 2 ^ 31 := Nat.and_two_pow_sub_one_eq_mod b 31
  exact this

set_option maxHeartbeats 400000 in
/-- The program's absolute value of a float32. -/
theorem size32_c {p : Option Nat} {x : Nat} (hx : FV .f32 p x) (w : World) : Calls Try.prog 20 #[.float .f32 x] w (RetF .f32 (fabs .f32 p) w) := by
  have r1 := fun w => f32bits_run x w
  have r2 := fun n w => f32frombits_run n w
  have hlt : (x : Int) < 4294967296 := by have := hx.2; have h32 : (2 : Nat) ^ FloatKind.f32.format.width = 4294967296 := rfl; omega
  have ha := hx.abs
  have hc := Lib.hid (clear_top32 x)
  go_enter Try.func20, Try.ntmps20
  go_wp2
  go_ret
  refine ⟨_, rfl, ?_, 0, rfl⟩
  have e : (bits BinOp.andNot IntKind.u32 (x : Int) 2147483648).toNat = rg FloatKind.f32.format x := by
    rw [u32_andNot (x : Int) 2147483648 (by omega) hlt (by decide) (by decide), ← hc.out]
    rfl
  show FV .f32 _ (bits BinOp.andNot IntKind.u32 (x : Int) 2147483648).toNat
  rw [e]
  exact ha
end Go.Proofs.Ytfhaopdaakjghaa
