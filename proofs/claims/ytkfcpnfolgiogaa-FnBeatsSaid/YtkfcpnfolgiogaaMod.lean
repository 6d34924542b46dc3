import Derived.Test.YtkfcpnfolgiogaaDiv
namespace Go.Proofs.Ytkfcpnfolgiogaa
open Go.RowKit Go.Fl

set_option maxHeartbeats 400000 in
theorem small_c {z u : CN} {p : Option Nat} {a b c d t : Nat} (hz : FC z a b) (hu : FC u c d) (ht : FV .f64 p t) (w : World) :
    Calls Try.prog 12 #[.complex .f64 a b, .complex .f64 c d, .float .f64 t] w (Ret (.bool (ford .f64 (offBy z u) p == some .lt || ford .f64 (offBy z u) p == some .eq)) w) := by
  obtain ⟨ha, hb⟩ := hz
  obtain ⟨hc, hd⟩ := hu
  go_enter Try.func12, Try.ntmps12
  go_wp2_with (first | (refine upon_flop _ (by decide) ha hc ?_; intro x1 n1 h1) | (refine upon_flop _ (by decide) hb hd ?_; intro x2 n2 h2))
  refine (sizeSpec_c (z := csub z u) ⟨h1, h2⟩ _).mono ?_
  rintro e _ ⟨s, rfl, hs, n, rfl⟩
  have E2 : ford .f64 (offBy z u) p = FloatKind.f64.format.order s t := (order_FV hs ht).symm
  have E := Lib.hid E2
  clear E2
  go_wp2_with fail
  go_ret
  refine ⟨?_, _, rfl⟩
  rw [E.out]
  rfl

/-- Two to the power of -k, as a word. -/
def pw (k : Nat) : Nat := 4607182418800017408 - k * 4503599627370496

theorem pw_half : ∀ k, k < 60 → floatBits .quo .f64 (pw k) 4611686018427387904 = some (pw (k + 1)) := by decide +kernel
theorem pw_cl : ∀ k, k < 61 → cl .f64 (pw k) = some (pw k) := by decide +kernel
theorem two_cl : cl .f64 4611686018427387904 = some 4611686018427387904 := by decide +kernel

set_option maxRecDepth 10000 in
set_option maxHeartbeats 1000000 in
theorem power_c (k : Nat) (hk : k ≤ 60) (w : World) :
    Calls Try.prog 15 #[.int .i64 (-(k : Int))] w (RetF .f64 (some (pw k)) w) := by
  have u3 := under3
  go_enter Try.func15, Try.ntmps15
  go_wp2_with fail
  go_loopw [0, 3] (fun i o wr => i = .int .i64 (-(k : Int)) ∧ o = .float .f64 4607182418800017408 ∧ w = wr) (fun _ _ _ => 0)
  case atStart => exact ⟨rfl, rfl, by first | rfl | exact True.intro⟩
  case round =>
    obtain ⟨rfl, rfl, rfl⟩ := hrel
    have d0 : decide (0 < -(k : Int)) = false := by simp
    go_wp2_with fail
    clear d0
    go_loopw [0, 3] (fun i o wr => ∃ j n : Nat, j ≤ k ∧ i = .int .i64 ((j : Int) - k) ∧ o = .float .f64 (pw j) ∧ wr = w.drewN n) (fun i _ _ => (-(intOf i)).toNat)
    case atStart => exact ⟨0, 0, Nat.zero_le _, by simp, rfl, by first | rfl | exact True.intro⟩
    case round =>
      obtain ⟨j, n, hj, rfl, rfl, rfl⟩ := hrel
      by_cases hjk : j < k
      · have d1 : decide ((j : Int) - k < 0) = true := by simp; omega
        have hv : FV .f64 (cl .f64 (pw j)) (pw j) := FV.of_lt (show pw j < 2 ^ 64 by unfold pw; omega)
        have hh := Lib.hid (pw_half j (by omega))
        have hc := Lib.hid (pw_cl j (by omega))
        go_wp2_with (refine upon_flop _ (by decide) hv (FV.of_lt (by decide)) ?_; intro x m hx)
        rw [fop_cl, hh.out] at hx
        obtain rfl := hx.some_eq
        exact ⟨⟨j + 1, n + m, hjk, by congr 1; omega, rfl, rfl⟩, by simp [intOf]; omega⟩
      · obtain rfl : j = k := by omega
        have d1 : decide ((j : Int) - j < 0) = false := by simp
        go_wp2_with fail
        go_ret
        refine ⟨_, rfl, ⟨pw_cl j (by omega), ?_⟩, _, rfl⟩
        show pw j < 2 ^ 64
        unfold pw
        omega
end Go.Proofs.Ytkfcpnfolgiogaa
