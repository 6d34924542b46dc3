/- The law FnExactFormatSingle holds for every float32: the program's FormatSingle returns what the reference's returns. Condition: the tables of math/bits and internal/strconv lie as the program's text lays them, which the card ties. -/
import Derived.Test.YtjamceoofgfokaaDoorOpenC
namespace Go.Proofs.YtjamceoofgfokaaDoor
open Go.ChangeShapes Go.WideShapes Go.ChangeAt Go.RowKit Go.Fl

set_option maxRecDepth 10000 in
set_option maxHeartbeats 400000 in
theorem formatSingleSpec_c {p : Option Nat} {x : Nat} (hx : FV .f32 p x) (w : World) :
    Calls Tryd.prog 9 #[.float .f32 x] w (RetS (fmtD (fconv .f32 .f64 p)) w) := by
  go_enter Tryd.func9, Tryd.ntmps9
  go_wp2_with (refine upon_widen _ under29 under23 hx ?_; intro y n hy)
  refine (formatSpec_c hy _).mono ?_
  rintro e w1 ⟨rfl, b1⟩
  go_wp2_with fail
  go_ret
  exact ⟨rfl, (below_drewN' (Below.refl _ _) _).trans b1⟩

set_option maxRecDepth 10000 in
set_option maxHeartbeats 400000 in
theorem formatSingleImpl_c {p : Option Nat} {x : Nat} (hx : FV .f32 p x) (w : World) (hT : Tabs w) :
    Calls Tryd.prog 10 #[.float .f32 x] w (RetS (fmtD (fconv .f32 .f64 p)) w) := by
  have T0 := Lib.hid hT
  clear hT
  go_enter Tryd.func10, Tryd.ntmps10
  go_wp2_with (refine upon_widen _ under29 under23 hx ?_; intro y n hy)
  refine (formatImpl_c hy _ (T0.out.below (below_drewN' (Below.refl _ _) _))).mono ?_
  rintro e w1 ⟨rfl, b1⟩
  go_wp2_with fail
  go_ret
  exact ⟨rfl, (below_drewN' (Below.refl _ _) _).trans b1⟩

set_option maxRecDepth 10000 in
set_option maxHeartbeats 1000000 in
theorem law_FnExactFormatSingle (w : World) {b : Nat} (hb : b < 2 ^ FloatKind.f32.format.width) (hT : Tabs w) :
    Calls Tryd.prog 4 #[.float .f32 b] w (LawEnds w) := by
  have hx := FV.of_lt hb
  have T0 := Lib.hid hT
  clear hT
  go_enter Tryd.func4, Tryd.ntmps4
  go_wp2_with fail
  refine (formatSingleSpec_c hx _).mono ?_
  rintro e w1 ⟨rfl, b1⟩
  have B1 := Lib.hid b1
  clear b1
  have impl : ∀ w', Tabs w' → Calls Tryd.prog 10 #[.float .f32 b] w' (RetS (fmtD (fconv .f32 .f64 (cl .f32 b))) w') := fun w' h => formatSingleImpl_c hx w' h
  have I0 := Lib.hid impl
  clear impl hx hb
  generalize fmtD (fconv .f32 .f64 (cl .f32 b)) = l at *
  go_wp2_with fail
  refine (I0.out _ (T0.out.below B1.out)).mono ?_
  rintro e w2 ⟨rfl, b2⟩
  have B2 := B1.out.trans (b2.mono B1.out.size)
  clear b2 B1
  go_wp2_with fail
  go_ret
  exact ⟨rfl, B2⟩

set_option maxRecDepth 100000 in
theorem door_FnExactFormatSingle (os : Os) (args : Array Value) : laidMetH Tryd.prog Rows.fnExactFormatSingleRow.laid ((World.doorLaid Tryd.prog 400 os).forCall (fun _ _ => 0) ⟨#[], args, []⟩).memory :=
  laidMetH_of_parts3 (fuel := 8) (laidMet_of_run' 8 (by kernel_rfl) (by kernel_rfl)) (by kernel_rfl) (by kernel_rfl)

set_option maxRecDepth 100000 in
theorem lifted_FnExactFormatSingle (os : Os) (started : os.Started) (H : Type) (enc : TypeId × Value → H) :
    ReturnsInHanded {} Tryd.checked os 4 .any (fun w args => (Rows.fnExactFormatSingleSpec.pre enc Tryd.prog Tryd.f4 [] false w args ∧ laidMetH Tryd.prog Rows.fnExactFormatSingleRow.laid w) ∧ sizedMet enc Tryd.prog Tryd.f4 (OpenSpec.ofChange Rows.fnExactFormatSingleSpec) false w args)
      (Rows.fnExactFormatSingleSpec.post enc Tryd.prog Tryd.f4 false true false false) := by
  refine returnsInHanded_of_change_and (C := Tryd.checked) (X := fun w _ => laidMetH Tryd.prog Rows.fnExactFormatSingleRow.laid w) (fun _ _ _ hh h => h.of_heap hh) own started (by kernel_rfl) Tryd.func4
    (ChangeSpec.witness_shaped (enc := enc) (C := Tryd.checked) (os := os) (X := fun w _ => laidMetH Tryd.prog Rows.fnExactFormatSingleRow.laid w) false (World.doorLaid Tryd.prog 400 os) #[.float .f32 0] 8 rfl (World.shaped_of_RefB (by kernel_rfl) (by kernel_rfl)) (by kernel_rfl) (by kernel_rfl) (by kernel_rfl) (door_FnExactFormatSingle os _)) ?_
  intro W base args ds gs before hval0 hW _ hsz hL _
  have hval : ∀ (j : Nat) t v, Tryd.f4.params[j]? = some t → args[j]? = some v → Value.okWide Tryd.prog W .any base t v := hval0
  have hW' := hW
  obtain ⟨p, q, hA0, hV, rfl, hfz, hnd⟩ := hW
  have hA : DataW.TrodAll enc Tryd.prog W 0 (fun _ => true) true Tryd.f4.params.toList args.toList ds p := hA0
  rw [Tryd.params4] at hA hval
  obtain ⟨v0, vs0, d0, ds0, p0, q0, hargs, rfl, rfl, h0, r0⟩ := trodAll_cons hA
  obtain ⟨rfl, rfl, rfl⟩ := trodAll_nil r0
  obtain rfl : args = #[v0] := by cases args; simp_all
  obtain ⟨rfl, rfl⟩ := trodVars_none hV
  obtain ⟨b0, rfl, rfl, rfl, w0⟩ := open_float Tryd.underlying25 (hval 0 25 v0 rfl rfl) h0
  clear hA0 hval0
  have hL0 : laidMetH Tryd.prog Rows.fnExactFormatSingleRow.laid W := hL
  rw [MakeChecks.laidMetH_plain _ _ _ (by kernel_rfl)] at hL0
  have hT := tabs_of_laid hL0
  refine (law_FnExactFormatSingle W (lt_of_wf w0) hT).mono fun e W' ⟨he, bel⟩ => ?_
  subst he
  exact ⟨_, rfl, _, _, _, [], _, [], hW', trodAll_mk1 (shut_bool Tryd.underlying4 _), (trodAll_cons_mk (shut_float Tryd.underlying25 w0) trodAll_mk0), rfl, bel.frame _, fun h => by cases h⟩

theorem row_FnExactFormatSingle : Rows.FnExactFormatSingleSaid :=
  OpenClaim.holds_of_wide 4 Tryd.f4 rfl rfl rfl rfl rfl rfl rfl ⟨rfl, rfl, rfl, rfl, rfl⟩ rfl rfl rfl rfl rfl (by kernel_rfl) Tryd.func4 (by kernel_rfl)
    (of_decide_eq_true (by kernel_rfl)) (by unfold Func.isWrapper; first | (rw [if_pos (by decide +kernel)]; kernel_rfl) | (rw [if_neg (by decide +kernel)]; exact ⟨rfl, rfl⟩))
    (fun os started H enc _ => lifted_FnExactFormatSingle os started H enc)

theorem proved_FnExactFormatSingle : Rows.FnExactFormatSingleCardSaid :=
  Claim7.holds_tied_plain_at .later [] [.data, .data, .data] true Rows.fnExactFormatSingleCard.stood.harness true
    row_FnExactFormatSingle (fun _ h => by cases h) (by kernel_rfl) (fun _ h => by cases h) fnExactFormatSingle_row_tie rfl ⟨rfl, rfl⟩ (by kernel_rfl) rfl
    (fun f fn hf hfn => by
      obtain rfl : f = 4 := Option.some.inj ((show Tryd.prog.funcNamed Rows.fnExactFormatSingleRow.func = some 4 by kernel_rfl).symm.trans hf) |>.symm
      obtain rfl : fn = Tryd.f4 := (Option.some.inj (Tryd.func4.symm.trans hfn)).symm
      exact ⟨by kernel_rfl, fun j t ht => by
        rw [Tryd.params4] at ht
        have hm : t ∈ [25] := by simpa using Array.mem_of_getElem? ht
        have hall : ([25].all fun u => !Tryd.prog.wantsStandIn u) = true := by kernel_rfl
        exact (show Tryd.prog.wantsStandIn t = false by simpa using List.all_eq_true.1 hall t hm)⟩)
    (by kernel_rfl)
#print axioms proved_FnExactFormatSingle
end Go.Proofs.YtjamceoofgfokaaDoor
