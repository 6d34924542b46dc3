/- The law FnBowed holds for every slice of bytes: the force of a bow turns its sign with bow and velocity, and is the difference exactly where it sticks; a bow with the greatest grip sticks in all steps of finite ringing. No condition. -/
import Derived.Test.YtfhaopdaakjghaaSml
import Derived.Test.YtfhaopdaakjghaaFinL
import Derived.Test.YtfhaopdaakjghaaFresh
import Derived.Test.YtfhaopdaakjghaaOpenB
import Derived.Deep.QuietTactic
import Derived.BigQuiet
import Derived.StillTailTactics
import Derived.Deep.RegionHeld3
namespace Go.Proofs.Ytfhaopdaakjghaa
open Go.RowKit Go.Fl Go.BigFrame

/-- The law's walk: true, and what was there is as it was. -/
def LawEnds (w : World) (e : Ending) (w' : World) : Prop := e = .returned (.bool true) ∧ Below w.heap.size w w'

/-- The twelve outputs are finite only where the bow sticks in all steps. -/
theorem stuck_all {P : Option Nat} {l : List Nat} {n : Nat} (h10 : ∃ r, l[10]? = some r ∧ FV .f32 P r) (hn : isFin .f32 P = true → n = 12) (h : finL l = true) : n = 12 := by
  obtain ⟨r, h1, h2⟩ := h10
  apply hn
  rw [← h2.1]
  exact List.all_eq_true.1 h r (List.mem_of_getElem? h1)

/-- The first two numbers of the input, as they lie there. -/
structure Inp (w W : World) (g off x0 x1 : Nat) : Prop where
  bel : Below w.heap.size w W
  lt : g < W.heap.size
  c0 : W.cell? ⟨g, off, none⟩ = some (.float .f32 x0)
  c1 : W.cell? ⟨g, off + 1, none⟩ = some (.float .f32 x1)

theorem Inp.below {w W W' : World} {g off x0 x1 : Nat} (h : Inp w W g off x0 x1) (hb : Below W.heap.size W W') : Inp w W' g off x0 x1 :=
  ⟨h.bel.trans (hb.mono h.bel.size), Nat.lt_of_lt_of_le h.lt hb.size, (hb.cell (p := ⟨g, off, none⟩) h.lt).trans h.c0, (hb.cell (p := ⟨g, off + 1, none⟩) h.lt).trans h.c1⟩

theorem Inp.drew {w W : World} {g off x0 x1 : Nat} (h : Inp w W g off x0 x1) (n : Nat) : Inp w (W.drewN n) g off x0 x1 := h.below (below_drewN' (Below.refl _ _) n)

/-- A variable of type Body, in block O. -/
structure Shown (W : World) (O : Nat) (a : Option Addr) (c : Nat) (xs : List MW) : Prop where
  box : W.heap[O]? = some (.cells #[.slice a xs.length c] 30 (0, 0))
  shows : MsP W a xs
  lt : O < W.heap.size

theorem Shown.below {W W' : World} {O c : Nat} {a : Option Addr} {xs : List MW} (h : Shown W O a c xs) (hb : Below W.heap.size W W') : Shown W' O a c xs :=
  ⟨(hb.block O h.lt).trans h.box, h.shows.below hb, Nat.lt_of_lt_of_le h.lt hb.size⟩

theorem Shown.new {W : World} {c : Nat} {a : Option Addr} {xs : List MW} (h : MsP W a xs) : Shown (W.alloc (.cells #[.slice a xs.length c] 30)) W.heap.size a c xs :=
  ⟨heap_alloc_new _ _, h.below ((Below.refl _ _).alloc (Nat.le_refl _) _), by rw [World.size_alloc]; omega⟩

theorem Shown.cell {W : World} {O c : Nat} {a : Option Addr} {xs : List MW} (h : Shown W O a c xs) : W.cell? ⟨O, 0, none⟩ = some (.slice a xs.length c) := by rw [cur_cell h.box]; rfl

/-- The modes of a made body. -/
structure Made (most : Nat) (xs : List MW) : Prop where
  ok : okL xs = true
  wf : ∀ x ∈ xs, wfX x
  len : xs.length ≤ most

theorem Made.of {most : Nat} (hm : most ≤ 16) {xs : List MW} (hl : xs.length ≤ most) (h : ∀ x ∈ xs, okX x) : Made most xs := by
  refine ⟨?_, fun x hx => (h x hx).wf.1, hl⟩
  unfold okL
  rw [show xs.all okB = true from List.all_eq_true.2 fun x hx => (h x hx).wf.2]
  simp; omega

set_option maxRecDepth 10000 in
set_option maxHeartbeats 4000000 in
theorem law_FnBowed (w : World) {a : Option Addr} {len cap : Nat} (h : BsP w a len) :
    Calls Try.prog 3 #[.slice a len cap] w (LawEnds w) := by
  by_cases hl : len ≤ 1048576
  · have H := Lib.hid h
    have d0 : decide ((len : Int) > 1048576) = false := by simp; omega
    clear h
    have u3 := under3
    go_enter Try.func3, Try.ntmps3
    go_wp2_with fail
    refine (makeSmall_c _ H.out hl).mono ?_
    rintro e w1 ⟨ia, ic, inp, rfl, fin1, hin, b1⟩
    have IN1 := Lib.hid fin1
    have HIN := Lib.hid hin
    have B1 := Lib.hid b1
    clear fin1 hin b1
    by_cases h2 : inp.length < 2
    · have d1 : decide ((inp.length : Int) < 2) = true := by simp; omega
      go_wp2_with fail
      go_ret
      exact ⟨rfl, B1.out⟩
    · have d1 : decide ((inp.length : Int) < 2) = false := by simp; omega
      obtain ⟨r, hr, har⟩ := at_ready (cap := cap) w H.out
      have AR := Lib.hid har
      obtain ⟨q1, GL, GS⟩ := grp_eq hr
      have hq := fun W => run_float_arith (P := Try.prog) W .quo 25 .f32 _ _ _ q1
      have HG := Lib.hid (And.intro GL GS)
      clear har q1 GL GS
      generalize grp r = g at *
      go_wp2_with fail
      refine (AR.out _ B1.out).mono ?_
      rintro e _ ⟨rfl, rfl⟩
      clear AR
      have i0 : 0 < inp.length := by omega
      have i1 : 1 < inp.length := by omega
      have HL := Lib.hid (And.intro (HIN.out _ (List.getElem_mem i0)) (HIN.out _ (List.getElem_mem i1)))
      obtain ⟨d, one, two, FO⟩ := forced HL.out.1 HL.out.2 HG.out.1 HG.out.2
      have HF := Lib.hid FO
      clear FO HIN
      obtain ⟨gx, off, rfl, c0, hgx⟩ := IN1.out.2.1 0 i0
      obtain ⟨_, _, e, c1, _⟩ := IN1.out.2.1 1 i1
      cases e
      rw [Nat.add_zero] at c0
      have HX := Lib.hid (show FV .f32 (some inp[0]) inp[0] ∧ FV .f32 (some inp[1]) inp[1] ∧ FV .f32 (some g) g from by
        have key : ∀ x, Lim .f32 3 x → FV .f32 (some x) x := fun x hx => by
          have := FV.of_lt (k := .f32) hx.1
          rw [cl_fin (k := .f32) (hx.fin (by omega))] at this
          exact this
        exact ⟨key _ HL.out.1, key _ HL.out.2, key _ HG.out.1⟩)
      have HY := Lib.hid (show FV .f32 (some (Op.negFloat .f32 inp[0])) (Op.negFloat .f32 inp[0]) ∧ FV .f32 (some (Op.negFloat .f32 inp[1])) (Op.negFloat .f32 inp[1]) from by
        have key : ∀ x, Lim .f32 3 x → FV .f32 (some (Op.negFloat .f32 x)) (Op.negFloat .f32 x) := fun x hx => by
          have h3 := neg_facts hx.1
          have := FV.of_lt (k := .f32) h3.2.2
          rw [cl_fin (k := .f32) (by unfold fin; rw [show rg FloatKind.f32.format _ = _ from h3.2.1]; exact hx.fin (by omega))] at this
          exact this
        exact ⟨key _ HL.out.1, key _ HL.out.2⟩)
      have HB := Lib.hid (Bd.of_lim HL.out.1)
      clear HL HG
      have hi0 : (0 : Int) < (inp.length : Int) := by omega
      have hi1 : (1 : Int) < (inp.length : Int) := by omega
      generalize inp[0] = x0 at *
      generalize inp[1] = x1 at *
      go_upto_region 7 with fail
      rename_i w2 _ _ _
      have P2 := Lib.hid (Inp.mk B1.out hgx c0 c1)
      clear B1 IN1 hgx
      go_still_tail 7, (by kernel_rfl)
      change wpList _ _ _ _ _ w2.drew
      go_wp2_with fail
      refine (bowForceImpl_c HX.out.1 HX.out.2.1 HX.out.2.2 _).mono ?_
      rintro e _ ⟨r1, rfl, hr1, n1, rfl⟩
      rw [HF.out.first] at hr1
      obtain rfl := hr1.some_eq
      have P3 := Lib.hid (P2.out.drew (1 + n1))
      have hneg : ∀ (w : World) (c : Nat), (Op.unary .neg (.float .f32 c)).run Try.prog w = .ok (.float .f32 (Op.negFloat .f32 c)) w := fun _ _ => rfl
      clear P2 hr1 c0 c1
      go_upto_region 8 with fail
      obtain ⟨w3, e3⟩ : ∃ w3, w2.drewN (1 + n1) = w3 := ⟨_, rfl⟩
      rw [e3] at P3 ⊢
      clear e3
      have c0 := P3.out.c0
      have c1 := P3.out.c1
      go_still_tail 9, (by kernel_rfl)
      change wpList _ _ _ _ _ w3.drew
      go_wp2_with fail
      refine (bowForceImpl_c HY.out.1 HY.out.2 HX.out.2.2 _).mono ?_
      rintro e _ ⟨r1, rfl, hr1, n2, rfl⟩
      rw [HF.out.other] at hr1
      obtain rfl := hr1.some_eq
      have P4 := Lib.hid (P3.out.drew (1 + n2))
      clear P3 hr1 c0 c1
      go_upto_region 9 with fail
      obtain ⟨w4, e4⟩ : ∃ w4, w3.drewN (1 + n2) = w4 := ⟨_, rfl⟩
      rw [e4] at P4 ⊢
      clear e4
      have c0 := P4.out.c0
      have c1 := P4.out.c1
      have hsub := fun W => run_float_arith (P := Try.prog) W .sub 25 .f32 _ _ _ HF.out.sub
      go_still_tail 7, (by kernel_rfl)
      change wpList _ _ _ _ _ w4.drew
      have P5 := Lib.hid (P4.out.drew 1)
      clear P4 c0 c1 hsub
      have ht : (FloatKind.f32.format.order one (Op.negFloat .f32 two) != some .eq) = false := by rw [bne, HF.out.turned]; rfl
      obtain ⟨w5, e5⟩ : ∃ w5, w4.drew = w5 := ⟨_, rfl⟩
      have P5 := Lib.hid (show Inp w w5 gx off x0 x1 from e5 ▸ P5.out)
      rw [e5]
      clear e5
      have CS := Lib.hid HF.out.cases
      clear HF HX HY
      rcases CS.out with ⟨⟨o1, o2⟩, o3⟩ | ⟨o1 | o2, rm, hm, o3⟩
      rotate_left 2
      cases o1 : (FloatKind.f32.format.order d g == some .lt || FloatKind.f32.format.order d g == some .eq)
      all_goals first
        | have o3 : (FloatKind.f32.format.order one d != some .eq) = false := by rw [bne, o3]; rfl
        | have hm := fun W => run_float_arith (P := Try.prog) W .mul 25 .f32 _ _ _ hm
      all_goals
        clear CS
        go_upto_region 13 with fail
        go_wp2_with fail
        refine (fresh_c _ (H.out.below P5.out.bel) 3 (by decide) (by decide)).mono ?_
        rintro e w6 ⟨a2, len2, cap2, rfl, bs2, l2, m2, b2⟩
        have P6 := Lib.hid (P5.out.below b2)
        have S6 := Lib.hid bs2
        clear bs2 b2 P5
        go_wp2_with fail
        refine (makeBody_c (most := 3) (by omega) _ S6.out m2).mono ?_
        rintro e w7 ⟨v, xs, rfl, hown, hxl, hxo, b7⟩
        obtain ⟨xa, xc, rfl⟩ := owns_slice hown
        have MX := Lib.hid (Made.of (by omega) hxl hxo)
        have SX := MsP.of_owns rfl hown
        have P7 := Lib.hid (P6.out.below b7)
        clear hown hxo b7 P6 S6
        go_upto_region 14 with fail
        have A8 := Lib.hid (Shown.new (c := xc) SX)
        have P8 := Lib.hid (P7.out.below ((Below.refl _ _).alloc (Nat.le_refl _) (.cells #[.slice xa xs.length xc] 30)))
        generalize w7.alloc (.cells #[.slice xa xs.length xc] 30) = W8 at *
        generalize w7.heap.size = A at *
        clear P7 SX
        have cA := A8.out.cell
        have c0 := P8.out.c0
        have A9 := Lib.hid (A8.out.below (show Below W8.heap.size W8 W8.drew from below_drewN' (Below.refl _ _) 1))
        have P9 := Lib.hid (show Inp w W8.drew gx off x0 x1 from P8.out.drew 1)
        go_region_held3 (fun w' => w'.cell? ⟨A, 0, none⟩ = some (.slice xa xs.length xc) ∧ w'.cell? ⟨gx, off, none⟩ = some (.float .f32 x0))
          (first | exact ⟨cA, c0⟩ | exact ⟨cA10, c10⟩)
          ((first
            | (go_at_call 9
               refine Calls.mono (bowBody_c _ A9.out.shows MX.out.wf MX.out.ok MX.out.len HB.out) ?_
               rintro e W10 ⟨v, l, rfl, hll, hlt, h10, hown, b10⟩
               have A10 := Lib.hid (A9.out.below b10)
               have P10 := Lib.hid (P9.out.below b10)
               have cA10 := A10.out.cell
               have c10 := P10.out.c0)))
        obtain ⟨ya, yc, rfl⟩ := owns_slice hown
        have FY := Lib.hid (fsP_own (by rw [hll]; exact hown) hlt)
        have H10 := Lib.hid h10
        clear A8 P8 A9 P9 cA c0 cA10 c10 hown hlt h10 b10
        go_upto_region 15 with fail
        have cA := A10.out.cell
        have c0 := P10.out.c0
        have A11 := Lib.hid (A10.out.below (show Below W10.heap.size W10 W10.drew from below_drewN' (Below.refl _ _) 1))
        have P11 := Lib.hid (show Inp w W10.drew gx off x0 x1 from P10.out.drew 1)
        have F11 := Lib.hid (FY.out.below (show Below W10.heap.size W10 W10.drew from below_drewN' (Below.refl _ _) 1))
        go_region_held3 (fun w' => w'.cell? ⟨A, 0, none⟩ = some (.slice xa xs.length xc) ∧ w'.cell? ⟨gx, off, none⟩ = some (.float .f32 x0))
          (first | exact ⟨cA, c0⟩ | exact ⟨cA12, c12⟩)
          ((first
            | (go_at_call 10
               refine Calls.mono (countStuck_c _ A11.out.shows MX.out.wf MX.out.ok MX.out.len HB.out) ?_
               rintro e W12 ⟨n, rfl, hn, b12⟩
               have A12 := Lib.hid (A11.out.below b12)
               have P12 := Lib.hid (P11.out.below b12)
               have cA12 := A12.out.cell
               have c12 := P12.out.c0)))
        have ST := Lib.hid (fun h => stuck_all H10.out hn h)
        have FIN := lawsFinite_c (cap := yc) W12 (F11.out.below b12) (by rw [hll]; omega)
        rw [hll] at FIN
        clear A10 P10 A11 P11 F11 FY cA c0 cA12 c12 hn b12 A12 H10
        cases hf : finL l
        · rw [hf] at FIN
          go_wp2_with fail
          refine FIN.mono ?_
          rintro e _ ⟨rfl, nq, rfl⟩
          go_wp2_with fail
          go_ret
          exact ⟨rfl, (P12.out.drew nq).bel⟩
        · rw [hf] at FIN
          obtain rfl := ST.out hf
          go_wp2_with fail
          refine FIN.mono ?_
          rintro e _ ⟨rfl, nq, rfl⟩
          go_wp2_with fail
          go_ret
          exact ⟨rfl, (P12.out.drew nq).bel⟩
  · have d0 : decide (1048576 < (len : Int)) = true := by simp; omega
    clear h
    go_enter Try.func3, Try.ntmps3
    go_wp2_with fail
    go_ret
    exact ⟨rfl, Below.refl _ _⟩
open Go.ChangeShapes Go.WideShapes Go.ChangeAt
set_option maxRecDepth 100000 in
theorem lifted_FnBowed (os : Os) (started : os.Started) (H : Type) (enc : TypeId × Value → H) :
    ReturnsInHanded {} Try.checked os 3 .any (Rows.fnBowedSpec.pre6 enc Try.prog Try.f3 Rows.fnBowedRow.domain false) (Rows.fnBowedSpec.post enc Try.prog Try.f3 false true false false) := by
  refine returnsInHanded_of_change (C := Try.checked) own started (by kernel_rfl) Try.func3
    (ChangeSpec.witness6 (enc := enc) (C := Try.checked) false ⟨#[], #[.slice none 0 0], []⟩ 8 (by kernel_rfl) (by kernel_rfl) (by kernel_rfl) (by kernel_rfl)) ?_
  intro W base args ds gs before hval0 hW hcnd _
  have hval : ∀ (j : Nat) t v, Try.f3.params[j]? = some t → args[j]? = some v → Value.okWide Try.prog W .any base t v := hval0
  have hW' := hW
  obtain ⟨p, q, hA0, hV, rfl, hfz, hnd⟩ := hW
  have hA : DataW.TrodAll enc Try.prog W 0 (fun _ => true) true Try.f3.params.toList args.toList ds p := hA0
  rw [Try.params3] at hA hval
  obtain ⟨v0, vs0, d0, ds0, p0, q0, hargs, rfl, rfl, h0, r0⟩ := trodAll_cons hA
  obtain ⟨rfl, rfl, rfl⟩ := trodAll_nil r0
  obtain rfl : args = #[v0] := by cases args; simp_all
  obtain ⟨rfl, rfl⟩ := trodVars_none hV
  obtain ⟨a0, len0, cap0, rfl⟩ := okWide_slice (Try.underlying22) (hval 0 22 v0 rfl rfl)
  have k0 := h0
  have lt0 : ∀ x ∈ p0, x.block < W.heap.size := by obtain ⟨m, hm⟩ := k0; exact DataW.trod_lt m _ _ _ hm
  have w0 : BsP W a0 len0 := by obtain ⟨fuel, hf⟩ := h0; exact open_bytes Try.underlying22 Try.underlying5 (by kernel_rfl) hf
  clear hA0 hval0
  refine (law_FnBowed W w0).mono fun e W' ⟨he, bel⟩ => ?_
  subst he
  exact ⟨_, rfl, _, _, _, [], _, [], hW', trodAll_mk1 (shut_bool Try.underlying4 _), (trodAll_cons_mk (Below.trod laidOut (by kernel_rfl) (of_decide_eq_true (by kernel_rfl)) k0 bel lt0) trodAll_mk0), rfl, bel.frame _, fun h => by cases h⟩

theorem proved_FnBowed : Rows.FnBowedSaid :=
  OpenClaim.holds_of_wide 3 Try.f3 rfl rfl rfl rfl rfl rfl rfl ⟨rfl, rfl, rfl, rfl, rfl⟩ rfl rfl rfl rfl rfl (by kernel_rfl) Try.func3 (by kernel_rfl)
    (of_decide_eq_true (by kernel_rfl)) (by unfold Func.isWrapper; first | (rw [if_pos (by decide +kernel)]; kernel_rfl) | (rw [if_neg (by decide +kernel)]; exact ⟨rfl, rfl⟩))
    (fun os started H enc _ => lifted_FnBowed os started H enc)
#print axioms proved_FnBowed
end Go.Proofs.Ytfhaopdaakjghaa
