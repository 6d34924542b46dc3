/- The law FnExactParseSingle holds for every string: the program's ParseSingle returns what the reference's returns. Condition: the tables of math/bits and internal/strconv and the two errors of strconv lie as the program's text lays them, which the card ties. -/
import Derived.Test.YtjamceoofgfokaaDoorParW
import Derived.ChangeMaps5
namespace Go.Proofs.YtjamceoofgfokaaDoor
open Go.ChangeShapes Go.WideShapes Go.ChangeAt Go.RowKit Go.Fl

set_option maxRecDepth 10000 in
set_option maxHeartbeats 1000000 in
theorem law_FnExactParseSingle (w : World) (s : ByteArray) (hL : Laid w) :
    Calls Tryd.prog 6 #[.string s] w (LawEnds w) := by
  obtain ⟨l, rfl⟩ : ∃ l : List UInt8, s = ⟨l.toArray⟩ := ⟨s.data.toList, by simp⟩
  have L0 := Lib.hid hL
  clear hL
  by_cases hl : l.length ≤ 1048576
  · have d0 : decide (1048576 < (l.length : Int)) = false := by simp; omega
    have S0 := Lib.hid (fun w => parse32Spec_c hl w)
    have I0 := Lib.hid (fun w h => parse32Impl_c hl w h)
    go_enter Tryd.func6, Tryd.ntmps6
    go_wp2_with fail
    refine (S0.out _).mono ?_
    rintro e w1 ⟨x, t, rfl, h1, h2, b1⟩
    have H := Lib.hid (And.intro h1 h2)
    have B1 := Lib.hid b1
    clear h1 h2 b1
    go_wp2_with fail
    refine (I0.out _ (L0.out.below B1.out)).mono ?_
    rintro e w2 ⟨y, u, rfl, k1, k2, b2⟩
    obtain ⟨rfl, rfl, hx⟩ := RetPS.agree H.out.1 H.out.2 k1 k2
    have B2 := B1.out.trans (b2.mono B1.out.size)
    clear k1 k2 b2 B1 H
    have fx := FV.of_lt (k := .f32) hx
    have fy := FV.of_lt (k := .f32) hx
    go_wp2_with (first | (refine upon_widen _ under29 under23 fx ?_; intro X1 m1 g1; clear fx) | (refine upon_widen _ under29 under23 fy ?_; intro X2 m2 g2))
    refine (sameFloat_c g1 g2 _).mono ?_
    rintro e _ ⟨rfl, n, rfl⟩
    have q : ((t == t) : Bool) = true := by simp
    have q2 : ((t != t) : Bool) = false := by simp
    go_wp2_with fail
    go_ret
    exact ⟨rfl, below_drewN' B2 _⟩
  · have d0 : decide (1048576 < (l.length : Int)) = true := by simp; omega
    go_enter Tryd.func6, Tryd.ntmps6
    go_wp2_with fail
    go_ret
    exact ⟨rfl, Below.refl _ _⟩

set_option maxRecDepth 100000 in
theorem door_FnExactParseSingle (os : Os) (args : Array Value) : laidMetH Tryd.prog Rows.fnExactParseSingleRow.laid ((World.doorLaid Tryd.prog 400 os).forCall (fun _ _ => 0) ⟨#[], args, []⟩).memory :=
  laidMetH_of_parts3 (fuel := 8) (laidMet_of_run' 8 (by kernel_rfl) (by kernel_rfl)) (by kernel_rfl) (by kernel_rfl)

set_option maxRecDepth 100000 in
theorem lifted_FnExactParseSingle (os : Os) (started : os.Started) (H : Type) (enc : TypeId × Value → H) :
    ReturnsInHanded {} Tryd.checked os 6 .any (fun w args => (Rows.fnExactParseSingleSpec.pre enc Tryd.prog Tryd.f6 [] false w args ∧ laidMetH Tryd.prog Rows.fnExactParseSingleRow.laid w) ∧ sizedMet enc Tryd.prog Tryd.f6 (OpenSpec.ofChange Rows.fnExactParseSingleSpec) false w args)
      (Rows.fnExactParseSingleSpec.post enc Tryd.prog Tryd.f6 false true false false) := by
  refine returnsInHanded_of_change_and (C := Tryd.checked) (X := fun w _ => laidMetH Tryd.prog Rows.fnExactParseSingleRow.laid w) (fun _ _ _ hh h => h.of_heap hh) own started (by kernel_rfl) Tryd.func6
    (ChangeSpec.witness_shaped (enc := enc) (C := Tryd.checked) (os := os) (X := fun w _ => laidMetH Tryd.prog Rows.fnExactParseSingleRow.laid w) false (World.doorLaid Tryd.prog 400 os) #[.string ByteArray.empty] 8 rfl (World.shaped_of_RefB (by kernel_rfl) (by kernel_rfl)) (by kernel_rfl) (by kernel_rfl) (by kernel_rfl) (door_FnExactParseSingle os _)) ?_
  intro W base args ds gs before hval0 hW _ hsz hL _
  have hval : ∀ (j : Nat) t v, Tryd.f6.params[j]? = some t → args[j]? = some v → Value.okWide Tryd.prog W .any base t v := hval0
  have hW' := hW
  obtain ⟨p, q, hA0, hV, rfl, hfz, hnd⟩ := hW
  have hA : DataW.TrodAll enc Tryd.prog W 0 (fun _ => true) true Tryd.f6.params.toList args.toList ds p := hA0
  rw [Tryd.params6] at hA hval
  obtain ⟨v0, vs0, d0, ds0, p0, q0, hargs, rfl, rfl, h0, r0⟩ := trodAll_cons hA
  obtain ⟨rfl, rfl, rfl⟩ := trodAll_nil r0
  obtain rfl : args = #[v0] := by cases args; simp_all
  obtain ⟨rfl, rfl⟩ := trodVars_none hV
  obtain ⟨s0, rfl, rfl, rfl, w0⟩ := Go.ChangeMaps.open_string Tryd.underlying9 (hval 0 9 v0 rfl rfl) h0
  clear hA0 hval0
  have hL0 : laidMetH Tryd.prog Rows.fnExactParseSingleRow.laid W := hL
  rw [MakeChecks.laidMetH_plain _ _ _ (by kernel_rfl)] at hL0
  have hT := laid_of_laid hL0
  refine (law_FnExactParseSingle W  s0 hT).mono fun e W' ⟨he, bel⟩ => ?_
  subst he
  exact ⟨_, rfl, _, _, _, [], _, [], hW', trodAll_mk1 (shut_bool Tryd.underlying4 _), (trodAll_cons_mk (Go.ChangeMaps.shut_string Tryd.underlying9 w0) trodAll_mk0), rfl, bel.frame _, fun h => by cases h⟩

theorem row_FnExactParseSingle : Rows.FnExactParseSingleSaid :=
  OpenClaim.holds_of_wide 6 Tryd.f6 rfl rfl rfl rfl rfl rfl rfl ⟨rfl, rfl, rfl, rfl, rfl⟩ rfl rfl rfl rfl rfl (by kernel_rfl) Tryd.func6 (by kernel_rfl)
    (of_decide_eq_true (by kernel_rfl)) (by unfold Func.isWrapper; first | (rw [if_pos (by decide +kernel)]; kernel_rfl) | (rw [if_neg (by decide +kernel)]; exact ⟨rfl, rfl⟩))
    (fun os started H enc _ => lifted_FnExactParseSingle os started H enc)

theorem proved_FnExactParseSingle : Rows.FnExactParseSingleCardSaid :=
  Claim7.holds_tied_plain_at .later [] [.data, .data, .data, .sentinel, .sentinel] true Rows.fnExactParseSingleCard.stood.harness true
    row_FnExactParseSingle (fun _ h => by cases h) (by kernel_rfl) (fun _ h => by cases h) fnExactParseSingle_row_tie rfl ⟨rfl, rfl⟩ (by kernel_rfl) rfl
    (fun f fn hf hfn => by
      obtain rfl : f = 6 := Option.some.inj ((show Tryd.prog.funcNamed Rows.fnExactParseSingleRow.func = some 6 by kernel_rfl).symm.trans hf) |>.symm
      obtain rfl : fn = Tryd.f6 := (Option.some.inj (Tryd.func6.symm.trans hfn)).symm
      exact ⟨by kernel_rfl, fun j t ht => by
        rw [Tryd.params6] at ht
        have hm : t ∈ [9] := by simpa using Array.mem_of_getElem? ht
        have hall : ([9].all fun u => !Tryd.prog.wantsStandIn u) = true := by kernel_rfl
        exact (show Tryd.prog.wantsStandIn t = false by simpa using List.all_eq_true.1 hall t hm)⟩)
    (by kernel_rfl)
#print axioms proved_FnExactParseSingle
end Go.Proofs.YtjamceoofgfokaaDoor
