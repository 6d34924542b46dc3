/- The law FnExactBowForce holds for all float32 numbers: the program's BowForce returns what the reference's returns. No condition. -/
import Derived.Test.YtkckobbmejckiaaBow
import Derived.Test.YtkckobbmejckiaaOpen
namespace Go.Proofs.Ytkckobbmejckiaa
open Go.RowKit Go.Fl

/-- The law's walk: true, and what was there is as it was. -/
def LawEnds (w : World) (e : Ending) (w' : World) : Prop := e = .returned (.bool true) ∧ Below w.heap.size w w'

theorem lt_of_wf {k : FloatKind} {b : Nat} (h : (Lit.float k b).wf = true) : b < 2 ^ k.format.width := by
  cases k
  · show b < 2 ^ 32
    simpa [Lit.wf] using h
  · show b < 2 ^ 64
    simpa [Lit.wf] using h

set_option maxHeartbeats 400000 in
theorem law_FnExactBowForce (w : World) {b v g : Nat} (hb : b < 2 ^ FloatKind.f32.format.width) (hv : v < 2 ^ FloatKind.f32.format.width) (hg : g < 2 ^ FloatKind.f32.format.width) :
    Calls Try.prog 5 #[.float .f32 b, .float .f32 v, .float .f32 g] w (LawEnds w) := by
  have fb := FV.of_lt hb
  have fv := FV.of_lt hv
  have fg := FV.of_lt hg
  clear hb hv hg
  go_enter Try.func5, Try.ntmps5
  go_wp2_with (first | (go_at_call 15; refine (bowForceSpec_c fb fv fg _).mono ?_; rintro e _ ⟨r, rfl, hr, n, rfl⟩) | (go_at_call 16; refine (bowForceImpl_c fb fv fg _).mono ?_; rintro e _ ⟨s, rfl, hs, m, rfl⟩) | (refine upon_widen _ under29 under23 hs ?_; intro X n5 g5) | (refine upon_widen _ under29 under23 hr ?_; intro Y n6 g6) | (go_at_call 11; refine (sameFloat_c g5 g6 _).mono ?_; rintro e _ ⟨rfl, n3, rfl⟩))
  go_ret
  exact ⟨rfl, below_drewN (Below.refl _ _) _⟩
open Go.ChangeShapes Go.WideShapes Go.ChangeAt
set_option maxRecDepth 100000 in
theorem lifted_FnExactBowForce (os : Os) (started : os.Started) (H : Type) (enc : TypeId × Value → H) :
    ReturnsInHanded {} Try.checked os 5 .any (Rows.fnExactBowForceSpec.pre6 enc Try.prog Try.f5 Rows.fnExactBowForceRow.domain false) (Rows.fnExactBowForceSpec.post enc Try.prog Try.f5 false true false false) := by
  refine returnsInHanded_of_change (C := Try.checked) own started (by kernel_rfl) Try.func5
    (ChangeSpec.witness6 (enc := enc) (C := Try.checked) false ⟨#[], #[.float .f32 0, .float .f32 0, .float .f32 0], []⟩ 8 (by kernel_rfl) (by kernel_rfl) (by kernel_rfl) (by kernel_rfl)) ?_
  intro W base args ds gs before hval0 hW hcnd _
  have hval : ∀ (j : Nat) t v, Try.f5.params[j]? = some t → args[j]? = some v → Value.okWide Try.prog W .any base t v := hval0
  have hW' := hW
  obtain ⟨p, q, hA0, hV, rfl, hfz, hnd⟩ := hW
  have hA : DataW.TrodAll enc Try.prog W 0 (fun _ => true) true Try.f5.params.toList args.toList ds p := hA0
  rw [Try.params5] at hA hval
  obtain ⟨v0, vs0, d0, ds0, p0, q0, hargs, rfl, rfl, h0, r0⟩ := trodAll_cons hA
  obtain ⟨v1, vs1, d1, ds1, p1, q1, rfl, rfl, rfl, h1, r1⟩ := trodAll_cons r0
  obtain ⟨v2, vs2, d2, ds2, p2, q2, rfl, rfl, rfl, h2, r2⟩ := trodAll_cons r1
  obtain ⟨rfl, rfl, rfl⟩ := trodAll_nil r2
  obtain rfl : args = #[v0, v1, v2] := by cases args; simp_all
  obtain ⟨rfl, rfl⟩ := trodVars_none hV
  obtain ⟨b0, rfl, rfl, rfl, w0⟩ := open_float Try.underlying29 (hval 0 29 v0 rfl rfl) h0
  obtain ⟨b1, rfl, rfl, rfl, w1⟩ := open_float Try.underlying29 (hval 1 29 v1 rfl rfl) h1
  obtain ⟨b2, rfl, rfl, rfl, w2⟩ := open_float Try.underlying29 (hval 2 29 v2 rfl rfl) h2
  clear hA0 hval0
  refine (law_FnExactBowForce W (lt_of_wf w0) (lt_of_wf w1) (lt_of_wf w2)).mono fun e W' ⟨he, bel⟩ => ?_
  subst he
  exact ⟨_, rfl, _, _, _, [], _, [], hW', trodAll_mk1 (shut_bool Try.underlying4 _), (trodAll_cons_mk (shut_float Try.underlying29 w0) (trodAll_cons_mk (shut_float Try.underlying29 w1) (trodAll_cons_mk (shut_float Try.underlying29 w2) trodAll_mk0))), rfl, bel.frame _, fun h => by cases h⟩

theorem proved_FnExactBowForce : Rows.FnExactBowForceSaid :=
  OpenClaim.holds_of_wide 5 Try.f5 rfl rfl rfl rfl rfl rfl rfl ⟨rfl, rfl, rfl, rfl, rfl⟩ rfl rfl rfl rfl rfl (by kernel_rfl) Try.func5 (by kernel_rfl)
    (of_decide_eq_true (by kernel_rfl)) (by unfold Func.isWrapper; first | (rw [if_pos (by decide +kernel)]; kernel_rfl) | (rw [if_neg (by decide +kernel)]; exact ⟨rfl, rfl⟩))
    (fun os started H enc _ => lifted_FnExactBowForce os started H enc)
#print axioms proved_FnExactBowForce
end Go.Proofs.Ytkckobbmejckiaa
