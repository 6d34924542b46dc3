import Derived.Test.YtkckobbmejckiaaL1Abs
import Derived.Test.YtkckobbmejckiaaSize32
import Derived.Test.YtkckobbmejckiaaWiden
namespace Go.Proofs.Ytkckobbmejckiaa
open Go.RowKit Go.Fl

theorem under32 : Try.prog.underlying 29 = some (.float .f32) := by kernel_rfl
theorem under64s : (Try.prog.underlying 23).isSome = true := by kernel_rfl

/-- The greatest absolute value. -/
def peakStep (m p : Option Nat) : Option Nat := if ford .f32 (fabs .f32 p) m == some .gt then fabs .f32 p else m
def peakOf (ps : List (Option Nat)) : Option Nat := ps.foldl peakStep (cl .f32 0)

theorem peak_snoc (bs : List Nat) {k : Nat} (h : k < bs.length) : peakOf (cls .f32 (bs.take (k + 1))) = peakStep (peakOf (cls .f32 (bs.take k))) (cl .f32 bs[k]) := by
  unfold peakOf cls
  rw [List.take_succ_eq_append_getElem h, List.map_append, List.foldl_append]
  rfl

theorem order_FV {k : FloatKind} {p q : Option Nat} {x y : Nat} (hx : FV k p x) (hy : FV k q y) : k.format.order x y = ford k p q := by
  rw [← hx.1, ← hy.1, ford_cl]

theorem peak_yes {m p : Option Nat} {x y : Nat} (hx : FV .f32 (fabs .f32 p) x) (hy : FV .f32 m y) (h : (FloatKind.f32.format.order x y == some .gt) = true) : peakStep m p = fabs .f32 p := by
  unfold peakStep
  rw [← order_FV hx hy, if_pos h]

theorem peak_no {m p : Option Nat} {x y : Nat} (hx : FV .f32 (fabs .f32 p) x) (hy : FV .f32 m y) (h : (FloatKind.f32.format.order x y == some .gt) = false) : peakStep m p = m := by
  unfold peakStep
  rw [← order_FV hx hy, if_neg (by simp [h])]

set_option maxHeartbeats 400000 in
theorem peakImpl_c {a : Option Addr} {len cap : Nat} {bs : List Nat} (w : World) (h : FsP w .f32 a len bs) (hl : len ≤ 1048576) :
    Calls Try.prog 14 #[.slice a len cap] w (RetF .f32 (peakOf (cls .f32 bs)) w) := by
  obtain ⟨rfl, hc, hw⟩ := h
  go_enter Try.func14, Try.ntmps14
  go_wp2
  go_loopw [3, 8] (fun s i wr => ∃ k n r : Nat, k ≤ bs.length ∧ i = .int .i64 k ∧ s = .float .f32 r ∧ FV .f32 (peakOf (cls .f32 (bs.take k))) r ∧ wr = w.drewN n) (fun _ i _ => bs.length - (intOf i).toNat)
  case atStart => exact ⟨0, 0, 0, Nat.zero_le _, rfl, rfl, FV.of_lt (by decide), rfl⟩
  case round =>
    obtain ⟨k, n, r, hk, rfl, rfl, hr, rfl⟩ := hrel
    by_cases hlt : k < bs.length
    · obtain ⟨b, off, rfl, hck, _⟩ := hc k hlt
      have hvk := @FV.of_lt .f32 bs[k] (hw _ (List.getElem_mem hlt))
      have hs := Lib.hid (peak_snoc bs hlt)
      clear hc hw
      go_wp2_with fail
      refine (size32_c hvk _).mono ?_
      rintro e _ ⟨x, rfl, hx, n1, rfl⟩
      cases hgt : (FloatKind.f32.format.order x r == some .gt)
      · have hno := Lib.hid (peak_no hx hr hgt)
        go_wp2_with fail
        exact ⟨⟨k + 1, _, _, by omega, by go_num, rfl, by rw [hs.out, hno.out]; exact hr, rfl⟩, by simp [intOf]; omega⟩
      · have hyes := Lib.hid (peak_yes hx hr hgt)
        go_wp2_with fail
        refine (size32_c hvk _).mono ?_
        rintro e _ ⟨y, rfl, hy, n2, rfl⟩
        go_wp2_with fail
        exact ⟨⟨k + 1, _, _, by omega, by go_num, rfl, by rw [hs.out, hyes.out]; exact hy, rfl⟩, by simp [intOf]; omega⟩
    · obtain rfl : k = bs.length := by omega
      rw [List.take_length] at hr
      go_wp2
      go_ret
      exact ⟨_, rfl, hr, _, rfl⟩

set_option maxHeartbeats 400000 in
theorem peakSpec_c {a : Option Addr} {len cap : Nat} {bs : List Nat} (w : World) (h : FsP w .f32 a len bs) (hl : len ≤ 1048576) :
    Calls Try.prog 13 #[.slice a len cap] w (RetF .f32 (peakOf (cls .f32 bs)) w) := by
  obtain ⟨rfl, hc, hw⟩ := h
  go_enter Try.func13, Try.ntmps13
  go_wp2
  go_loopw [3, 8] (fun s i wr => ∃ k n r y : Nat, k ≤ bs.length ∧ i = .int .i64 k ∧ s = .float .f64 r ∧ FV .f32 (peakOf (cls .f32 (bs.take k))) y ∧ FV .f64 (fconv .f32 .f64 (peakOf (cls .f32 (bs.take k)))) r ∧ wr = w.drewN n) (fun _ i _ => bs.length - (intOf i).toNat)
  case atStart => exact ⟨0, 0, 0, 0, Nat.zero_le _, rfl, rfl, FV.of_lt (by decide), FV.of_lt (k := .f64) (b := 0) (by decide), rfl⟩
  case round =>
    obtain ⟨k, n, r, y, hk, rfl, rfl, hy, hr, rfl⟩ := hrel
    by_cases hlt : k < bs.length
    · obtain ⟨b, off, rfl, hck, _⟩ := hc k hlt
      have hvk := @FV.of_lt .f32 bs[k] (hw _ (List.getElem_mem hlt))
      have hs := Lib.hid (peak_snoc bs hlt)
      have hfa := fconv_fabs hvk
      have hva := hvk.abs
      clear hc hw
      go_wp2_with (refine upon_widen _ under29 under23 hvk ?_; intro X n1 hX)
      refine (l1Abs_c hX _).mono ?_
      rintro e _ ⟨x, rfl, hx, n2, rfl⟩
      rw [← hfa] at hx
      have how := order_widen hva hy hx hr
      clear hfa
      cases hgt : (FloatKind.f64.format.order x r == some .gt)
      · have hno := Lib.hid (peak_no hva hy (by rw [← how]; exact hgt))
        clear how
        go_wp2_with fail
        exact ⟨⟨k + 1, _, _, y, by omega, by go_num, rfl, by rw [hs.out, hno.out]; exact hy, by rw [hs.out, hno.out]; exact hr, rfl⟩, by simp [intOf]; omega⟩
      · have hyes := Lib.hid (peak_yes hva hy (by rw [← how]; exact hgt))
        have hfa2 := Lib.hid (fconv_fabs hvk)
        clear how
        go_wp2_with (refine upon_widen _ under29 under23 hvk ?_; intro X2 n3 hX2)
        refine (l1Abs_c hX2 _).mono ?_
        rintro e _ ⟨x2, rfl, hx2, n4, rfl⟩
        rw [← hfa2.out] at hx2
        go_wp2_with fail
        exact ⟨⟨k + 1, _, _, _, by omega, by go_num, rfl, by rw [hs.out, hyes.out]; exact hva, by rw [hs.out, hyes.out]; exact hx2, rfl⟩, by simp [intOf]; omega⟩
    · obtain rfl : k = bs.length := by omega
      rw [List.take_length] at hr hy
      have hok := hy.okF
      go_wp2_with (refine upon_narrow_widened _ under64s under32 hok hr ?_; intro _ _ _)
      go_ret
      exact ⟨_, rfl, by assumption, _, rfl⟩
end Go.Proofs.Ytkckobbmejckiaa
