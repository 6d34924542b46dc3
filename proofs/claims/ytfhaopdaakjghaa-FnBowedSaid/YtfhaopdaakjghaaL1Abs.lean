import Derived.Test.YtfhaopdaakjghaaAbs
namespace Go.Proofs.Ytfhaopdaakjghaa
open Go.RowKit Go.Fl

set_option maxHeartbeats 400000 in
/-- The reference's absolute value. -/
theorem l1Abs_c {p : Option Nat} {x : Nat} (hx : FV .f64 p x) (w : World) : Calls Try.prog 43 #[.float .f64 x] w (RetF .f64 (fabs .f64 p) w) := by
  cases p with
  | none =>
    have h1 := order_nan hx 0
    go_enter Try.func43, Try.ntmps43
    go_wp2
    go_ret
    exact ⟨x, rfl, hx, 0, rfl⟩
  | some c =>
    obtain ⟨rfl, hn⟩ := hx.not_nan
    have hlt := lt_iv (k := .f64) hn (zero_not_nan _)
    have heq := eq_iv (k := .f64) hn (zero_not_nan _)
    rw [iv_lit_zero] at hlt heq
    have ha := hx.abs
    rcases Int.lt_trichotomy (iv FloatKind.f64.format c) 0 with h | h | h
    · have t1 : (FloatKind.f64.format.order c 0 == some .lt) = true := by rw [hlt]; simpa using h
      have hneg := negFloat_word .f64 hx.2
      rw [((iv_neg_iff _ _).1 h).1] at hneg
      have hneg' : Op.negFloat .f64 c = rg FloatKind.f64.format c := hneg
      rw [← hneg'] at ha
      clear hlt heq h hneg hneg' hn
      have hu : ∀ w : World, (Op.unary .neg (.float .f64 c)).run Try.prog w = .ok (.float .f64 (Op.negFloat .f64 c)) w := fun _ => rfl
      go_enter Try.func43, Try.ntmps43
      go_wp2
      go_ret
      exact ⟨_, rfl, ha, 0, rfl⟩
    · have t1 : (FloatKind.f64.format.order c 0 == some .lt) = false := by rw [hlt, h]; rfl
      have t2 : (FloatKind.f64.format.order c 0 == some .eq) = true := by rw [heq, h]; rfl
      rw [(iv_zero_iff _ _).1 h] at ha
      clear hlt heq h hn
      go_enter Try.func43, Try.ntmps43
      go_wp2
      go_ret
      exact ⟨_, rfl, ha, 0, rfl⟩
    · have t1 : (FloatKind.f64.format.order c 0 == some .lt) = false := by rw [hlt]; simp; omega
      have t2 : (FloatKind.f64.format.order c 0 == some .eq) = false := by rw [heq]; simp; omega
      have hs : sg FloatKind.f64.format c = false := by
        cases hs : sg FloatKind.f64.format c
        · rfl
        · exfalso; unfold iv at h; rw [hs] at h; simp at h; omega
      rw [rg_of_not_neg hx.2 hs] at ha
      clear hlt heq h hs hn
      go_enter Try.func43, Try.ntmps43
      go_wp2
      go_ret
      exact ⟨_, rfl, ha, 0, rfl⟩
end Go.Proofs.Ytfhaopdaakjghaa
