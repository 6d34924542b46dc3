import Derived.Test.YtfhaopdaakjghaaCFin
namespace Go.Proofs.Ytfhaopdaakjghaa
open Go.RowKit Go.Fl

theorem under59 : Try.prog.underlying 25 = some (.float .f32) := by kernel_rfl

/-- A call that draws a complex64. -/
def DrawsS (b : Nat) (a : Option Addr) (len cap : Nat) (w : World) (e : Ending) (w' : World) : Prop := ∃ r s p q, e = .returned (.complex .f32 r s) ∧ FV .f32 p r ∧ FV .f32 q s ∧ Drawn b a len cap w w'

theorem DrawsS.mk {b : Nat} {a : Option Addr} {len cap : Nat} {w w1 : World} {r s : Nat} (h1 : r < 2 ^ 32) (h2 : s < 2 ^ 32) (d : Drawn b a len cap w w1) : DrawsS b a len cap w (.returned (.complex .f32 r s)) w1 :=
  ⟨r, s, _, _, rfl, FV.of_lt (k := .f32) h1, FV.of_lt (k := .f32) h2, d⟩

set_option maxHeartbeats 2000000 in
theorem l2Turn_c {b : Nat} {a : Option Addr} {len cap : Nat} (w : World) (h : CurP w b a len cap) :
    Calls Try.prog 29 #[.pointer (some ⟨b, 0, none⟩)] w (DrawsS b a len cap w) := by
  have H := Lib.hid h
  clear h
  have u3 := under3
  have u59 := under59
  go_enter Try.func29, Try.ntmps29
  go_wp2_with fail
  refine (l01Below_c 10 (by decide) (by decide) _ H.out).mono ?_
  rintro e w1 ⟨r, rfl, r0, r1, d1⟩
  have D1 := Lib.hid d1
  clear d1
  have hr : r = 0 ∨ r = 1 ∨ r = 2 ∨ r = 3 ∨ r = 4 ∨ r = 5 ∨ r = 6 ∨ 7 ≤ r := by omega
  rcases hr with rfl | rfl | rfl | rfl | rfl | rfl | rfl | hr
  · go_wp2_with fail
    go_ret
    exact DrawsS.mk (by decide) (by decide) D1.out
  · go_wp2_with fail
    go_ret
    exact DrawsS.mk (by decide) (by decide) D1.out
  · go_wp2_with fail
    go_ret
    exact DrawsS.mk (by decide) (by decide) D1.out
  · go_wp2_with fail
    go_ret
    exact DrawsS.mk (by decide) (by decide) D1.out
  · go_wp2_with fail
    go_ret
    exact DrawsS.mk (by decide) (by decide) D1.out
  · go_wp2_with fail
    go_ret
    exact DrawsS.mk (by decide) (by decide) D1.out
  · go_wp2_with fail
    go_ret
    exact DrawsS.mk (by decide) (by decide) D1.out
  · have k0 : (r == 0) = false := by simp; omega
    have k1 : (r == 1) = false := by simp; omega
    have k2 : (r == 2) = false := by simp; omega
    have k3 : (r == 3) = false := by simp; omega
    have k4 : (r == 4) = false := by simp; omega
    have k5 : (r == 5) = false := by simp; omega
    have k6 : (r == 6) = false := by simp; omega
    go_wp2_with fail
    refine (l01Below_c 23 (by decide) (by decide) _ D1.out.1).mono ?_
    rintro e w2 ⟨s, rfl, s0, s1, d2⟩
    have D2 := Lib.hid (D1.out.trans d2)
    clear d2
    go_wp2_with (refine upon_flop _ (by decide) (int_FV _ _) (FV.of_lt (by decide)) ?_; intro x n1 hx)
    refine Calls.mono (l01Below_c 23 (by decide) (by decide) _ (D2.out.drewN _).1) ?_
    rintro e w3 ⟨t, rfl, t0, t1, d3⟩
    have D3 := Lib.hid ((D2.out.drewN _).trans d3)
    clear d3
    go_wp2_with (refine upon_flop _ (by decide) (int_FV _ _) (FV.of_lt (by decide)) ?_; intro y n2 hy)
    go_ret
    exact ⟨_, _, _, _, rfl, hx, hy, D3.out.drewN _⟩
end Go.Proofs.Ytfhaopdaakjghaa
