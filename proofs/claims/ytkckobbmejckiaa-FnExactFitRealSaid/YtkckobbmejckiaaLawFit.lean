/- The law FnExactFitReal holds for every slice of float32 numbers: the program's FitReal returns what the reference's returns, and leaves its argument alone. No condition. -/
import Derived.Test.YtkckobbmejckiaaFit
import Derived.Test.YtkckobbmejckiaaOpen
namespace Go.Proofs.Ytkckobbmejckiaa
open Go.RowKit Go.Fl

/-- The law's walk: true, and what was there is as it was. -/
def LawEnds (w : World) (e : Ending) (w' : World) : Prop := e = .returned (.bool true) ∧ Below w.heap.size w w'

set_option maxHeartbeats 400000 in
theorem law_FnExactFitReal (w : World) {a : Option Addr} {len cap : Nat} {bs : List Nat} (h : FsP w .f32 a len bs) :
    Calls Try.prog 7 #[.slice a len cap] w (LawEnds w) := by
  by_cases hl : len ≤ 1048576
  · generalize hA : fitA bs = pA
    generalize hB : fitB bs = pB
    generalize hO : fitOk bs = t
    have c0 : ∀ (a : Option Addr) (len cap : Nat) (w : World), FsP w .f32 a len bs → len ≤ 1048576 → Calls Try.prog 21 #[.slice a len cap] w (RetFFB pA pB t w) := fun a len cap w h1 h2 => by rw [← hA, ← hB, ← hO]; exact fitSpec_c w h1 h2
    have d0 : ∀ (a : Option Addr) (len cap : Nat) (w : World), FsP w .f32 a len bs → len ≤ 1048576 → Calls Try.prog 22 #[.slice a len cap] w (RetFFB pA pB t w) := fun a len cap w h1 h2 => by rw [← hA, ← hB, ← hO]; exact fitImpl_c w h1 h2
    clear hA hB hO
    have c0 := Lib.hid c0
    have d0 := Lib.hid d0
    go_enter Try.func7, Try.ntmps7
    go_wp2_with fail
    refine (toFloat32S_c _ h hl).mono ?_
    rintro e w1 ⟨b1, cap1, rfl, hb1, f1, _, bel1⟩
    obtain rfl := h.1
    go_wp2_with fail
    refine (c0.out _ _ _ _ f1 hl).mono ?_
    rintro e _ ⟨r1, s1, rfl, v1, u1, n1, rfl⟩
    go_wp2_with fail
    have c1 := below_drewN bel1 n1
    refine (toFloat32S_c _ (h.below c1) hl).mono ?_
    rintro e w2 ⟨b2, cap2, rfl, hb2, f2, _, bel2⟩
    go_wp2_with fail
    refine (d0.out _ _ _ _ f2 hl).mono ?_
    rintro e _ ⟨r2, s2, rfl, v2, u2, n2, rfl⟩
    go_wp2_with fail
    refine (sameFloat_c v2 v1 _).mono ?_
    rintro e _ ⟨rfl, n3, rfl⟩
    go_wp2_with fail
    refine (sameFloat_c u2 u1 _).mono ?_
    rintro e _ ⟨rfl, n4, rfl⟩
    go_wp2_with fail
    have c2 : Below w.heap.size w (w2.drewN (n2 + n3 + n4)) := below_drewN (c1.trans (bel2.mono c1.size)) _
    refine (toFloat32S_c _ (h.below c2) hl).mono ?_
    rintro e w3 ⟨b3, cap3, rfl, hb3, f3, _, bel3⟩
    go_wp2_with fail
    refine (eqFloat32S_c _ ((f2.below (below_drewN (Below.refl _ _) (n2 + n3 + n4))).below bel3) f3 hl rfl).mono ?_
    rintro e _ ⟨rfl, n5, rfl⟩
    go_wp2
    go_ret
    exact ⟨rfl, below_drewN (c2.trans (bel3.mono c2.size)) n5⟩
  · go_enter Try.func7, Try.ntmps7
    go_wp2
    go_ret
    exact ⟨rfl, Below.refl _ _⟩
open Go.ChangeShapes Go.WideShapes Go.ChangeAt
set_option maxRecDepth 100000 in
theorem lifted_FnExactFitReal (os : Os) (started : os.Started) (H : Type) (enc : TypeId × Value → H) :
    ReturnsInHanded {} Try.checked os 7 .any (Rows.fnExactFitRealSpec.pre6 enc Try.prog Try.f7 Rows.fnExactFitRealRow.domain false) (Rows.fnExactFitRealSpec.post enc Try.prog Try.f7 false true false false) := by
  refine returnsInHanded_of_change (C := Try.checked) own started (by kernel_rfl) Try.func7
    (ChangeSpec.witness6 (enc := enc) (C := Try.checked) false ⟨#[], #[.slice none 0 0], []⟩ 8 (by kernel_rfl) (by kernel_rfl) (by kernel_rfl) (by kernel_rfl)) ?_
  intro W base args ds gs before hval0 hW hcnd _
  have hval : ∀ (j : Nat) t v, Try.f7.params[j]? = some t → args[j]? = some v → Value.okWide Try.prog W .any base t v := hval0
  have hW' := hW
  obtain ⟨p, q, hA0, hV, rfl, hfz, hnd⟩ := hW
  have hA : DataW.TrodAll enc Try.prog W 0 (fun _ => true) true Try.f7.params.toList args.toList ds p := hA0
  rw [Try.params7] at hA hval
  obtain ⟨v0, vs0, d0, ds0, p0, q0, hargs, rfl, rfl, h0, r0⟩ := trodAll_cons hA
  obtain ⟨rfl, rfl, rfl⟩ := trodAll_nil r0
  obtain rfl : args = #[v0] := by cases args; simp_all
  obtain ⟨rfl, rfl⟩ := trodVars_none hV
  obtain ⟨a0, len0, cap0, rfl⟩ := okWide_slice (Try.underlying22) (hval 0 22 v0 rfl rfl)
  have k0 := h0
  have lt0 : ∀ x ∈ p0, x.block < W.heap.size := by obtain ⟨m, hm⟩ := k0; exact DataW.trod_lt m _ _ _ hm
  obtain ⟨z0, w0, _⟩ : ∃ bs, FsP W .f32 a0 len0 bs ∧ len0 ≤ cap0 ∧ cap0 ≤ maxLen := by obtain ⟨fuel, hf⟩ := h0; exact open_floats Try.underlying22 Try.underlying29 (by kernel_rfl) hf
  clear hA0 hval0
  refine (law_FnExactFitReal W w0).mono fun e W' ⟨he, bel⟩ => ?_
  subst he
  exact ⟨_, rfl, _, _, _, [], _, [], hW', trodAll_mk1 (shut_bool Try.underlying4 _), (trodAll_cons_mk (Below.trod laidOut (by kernel_rfl) (of_decide_eq_true (by kernel_rfl)) k0 bel lt0) trodAll_mk0), rfl, bel.frame _, fun h => by cases h⟩

theorem proved_FnExactFitReal : Rows.FnExactFitRealSaid :=
  OpenClaim.holds_of_wide 7 Try.f7 rfl rfl rfl rfl rfl rfl rfl ⟨rfl, rfl, rfl, rfl, rfl⟩ rfl rfl rfl rfl rfl (by kernel_rfl) Try.func7 (by kernel_rfl)
    (of_decide_eq_true (by kernel_rfl)) (by unfold Func.isWrapper; first | (rw [if_pos (by decide +kernel)]; kernel_rfl) | (rw [if_neg (by decide +kernel)]; exact ⟨rfl, rfl⟩))
    (fun os started H enc _ => lifted_FnExactFitReal os started H enc)
#print axioms proved_FnExactFitReal
end Go.Proofs.Ytkckobbmejckiaa
