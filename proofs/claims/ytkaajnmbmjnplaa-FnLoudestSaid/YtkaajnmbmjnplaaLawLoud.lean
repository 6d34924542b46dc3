/- The law FnLoudest holds for every slice of bytes: no ear is louder than the loudest one, and none before it as loud. No condition. -/
import Derived.Test.YtkaajnmbmjnplaaLoud
import Derived.Test.YtkaajnmbmjnplaaLoudB
import Derived.Test.YtkaajnmbmjnplaaRoomM
import Derived.Test.YtkaajnmbmjnplaaSmall
import Derived.Test.YtkaajnmbmjnplaaFresh
import Derived.Test.YtkaajnmbmjnplaaOpenB
import Derived.Deep.QuietTactic
import Derived.BigQuiet
namespace Go.Proofs.Ytkaajnmbmjnplaa
open Go.RowKit Go.Fl Go.BigFrame

/-- The law's walk: true, and what was there is as it was. -/
def LawEnds (w : World) (e : Ending) (w' : World) : Prop := e = .returned (.bool true) ∧ Below w.heap.size w w'

/-- One byte, whatever world comes after. -/
theorem at_ready {a : Option Addr} {len cap : Nat} (w : World) (h : BsP w a len) : ∃ r : Nat, r ≤ 255 ∧ ∀ W, Below w.heap.size w W →
    Calls Try.prog 11 #[.slice a len cap, .int .i64 1] W (fun e w' => e = .returned (.int .i64 r) ∧ w' = W) := by
  have u3 := under3
  by_cases hlt : 1 < len
  · obtain ⟨b, off, x, rfl, hc, x0, x1, hb⟩ := h 1 hlt
    have d1 : decide (1 < (len : Int)) = true := by simp; omega
    refine ⟨x.toNat, by omega, fun W hW => ?_⟩
    have hc : W.cell? ⟨b, off + 1, none⟩ = some (.int .u8 x) := (hW.cell (p := ⟨b, off + 1, none⟩) hb).trans hc
    clear h
    go_enter Try.func11, Try.ntmps11
    go_wp2
    go_ret
    refine ⟨?_, rfl⟩
    rw [show ((x.toNat : Nat) : Int) = x by omega]
    rfl
  · have d1 : decide (1 < (len : Int)) = false := by simp; omega
    refine ⟨((1 * 37 + len * 11) % 256), by omega, fun W hW => ?_⟩
    clear h
    have hl : len ≤ 1 := by omega
    go_enter Try.func11, Try.ntmps11
    go_wp2
    go_ret
    exact ⟨rfl, rfl⟩

set_option maxRecDepth 10000 in
set_option maxHeartbeats 4000000 in
theorem law_FnLoudest (w : World) {a : Option Addr} {len cap : Nat} (h : BsP w a len) :
    Calls Try.prog 4 #[.slice a len cap] w (LawEnds w) := by
  by_cases hl : len ≤ 1048576
  · have H := Lib.hid h
    have d0 : decide ((len : Int) > 1048576) = false := by simp; omega
    clear h
    have u3 := under3
    go_enter Try.func4, Try.ntmps4
    go_wp2_with fail
    refine (makeRoom_c (most := 3) (by omega) _ H.out hl).mono ?_
    rintro e w1 ⟨ma, mc, xs, sa, sc, sh, rfl, rp, hxl, hxo, hshl, hro, b1⟩
    have OK := Lib.hid (show RoomOk xs sh from by
      refine ⟨?_, fun x hx => (hxo x hx).wf.1, by omega, hro⟩
      unfold okL
      rw [show xs.all okB = true from List.all_eq_true.2 fun x hx => (hxo x hx).wf.2]
      simp; omega)
    clear hxo hro
    go_upto_region 4 with fail
    have A1 := Lib.hid (heap_alloc_new w1 (.cells #[.slice ma xs.length mc, .slice sa sh.length sc] 42))
    have B1 := b1.alloc b1.size (.cells #[.slice ma xs.length mc, .slice sa sh.length sc] 42)
    have RP1 := Lib.hid (rp.below ((Below.refl _ _).alloc (Nat.le_refl _) (.cells #[.slice ma xs.length mc, .slice sa sh.length sc] 42)))
    have lA : w1.heap.size < (w1.alloc (.cells #[.slice ma xs.length mc, .slice sa sh.length sc] 42)).heap.size := by rw [World.size_alloc]; omega
    generalize w1.alloc (.cells #[.slice ma xs.length mc, .slice sa sh.length sc] 42) = W1 at *
    generalize w1.heap.size = A at *
    clear b1 rp
    go_wp2_with fail
    refine (fresh_c _ (H.out.below B1) 3 (by decide) (by decide)).mono ?_
    rintro e w2 ⟨a2, len2, cap2, rfl, bs2, l2, m2, b2⟩
    have A2 := Lib.hid ((b2.block _ lA).trans A1.out)
    have RP2 := Lib.hid (RP1.out.below b2)
    have B2 := B1.trans (b2.mono B1.size)
    have lA2 := Nat.lt_of_lt_of_le lA b2.size
    have S2 := Lib.hid bs2
    clear bs2 b2 B1 A1 RP1 lA
    go_wp2_with fail
    refine (makeSmall_c _ S2.out m2).mono ?_
    rintro e w3 ⟨ia, ic, inp, rfl, fin3, hin, b3⟩
    have A3 := Lib.hid ((b3.block _ lA2).trans A2.out)
    have RP3 := Lib.hid (RP2.out.below b3)
    have B3 := Lib.hid (B2.trans (b3.mono B2.size))
    have lA3 := Nat.lt_of_lt_of_le lA2 b3.size
    have IN3 := Lib.hid fin3
    have HIN := Lib.hid hin
    clear fin3 hin b3 B2 A2 RP2 lA2 S2
    obtain ⟨r, hr, har⟩ := at_ready (cap := cap) w H.out
    have AR := Lib.hid har
    clear har
    have hne : ((sh.length : Int) + 1) ≠ 0 := by omega
    have hwn : IntKind.i64.wrap ((sh.length : Int) + 1) = (sh.length : Int) + 1 := by rw [IntKind.wrap_i64]; omega
    have c1 := cur_cell A3.out 1
    simp at c1
    go_upto_region 5 with fail
    go_big_quiet ((go_at_call 11; exact Calls.quiet_of_same (AR.out _ (below_drewN' B3.out _))))
    obtain ⟨s, hs, hsl⟩ : ∃ s : Nat, (r : Int) % ((sh.length : Int) + 1) = (s : Int) ∧ s ≤ sh.length := by
      have h1 := Int.emod_nonneg (r : Int) hne
      have h2 := Int.emod_lt_of_pos (r : Int) (show (0 : Int) < (sh.length : Int) + 1 by omega)
      exact ⟨((r : Int) % ((sh.length : Int) + 1)).toNat, by omega, by omega⟩
    rw [hs]
    have A4 := Lib.hid (show (w3.drewN nq).heap[A]? = _ from A3.out)
    have hd3 : Below w3.heap.size w3 (w3.drewN nq) := below_drewN' (Below.refl _ _) nq
    have RP4 := Lib.hid (RP3.out.below hd3)
    have IN4 := Lib.hid (IN3.out.below hd3)
    have B4 := Lib.hid (below_drewN' B3.out nq)
    have lA4 : A < (w3.drewN nq).heap.size := lA3
    clear A3 RP3 IN3 B3 lA3 hd3 c1 hs hne hwn AR hr
    generalize w3.drewN nq = W4 at *
    have c0 := cur_cell A4.out 0
    have c1 := cur_cell A4.out 1
    simp at c0 c1
    rcases Nat.lt_or_eq_of_le hsl with hlt | heq
    · have GOOD := Lib.hid (loudest_c (mc := mc) (sc := sc) (ic := ic) W4 RP4.out OK.out hlt IN4.out HIN.out)
      have HEARD := Lib.hid (fun (w' : World) (hb : Below W4.heap.size W4 w') e (he : e < sh.length) => heard_c (mc := mc) (sc := sc) (ic := ic) w' (RP4.out.below hb) OK.out hlt he (IN4.out.below hb) HIN.out)
      have OD := Lib.hid (fun p q (hp : p < sh.length) (hq : q < sh.length) => EN_order OK.out hlt hp hq HIN.out)
      generalize EV xs sh inp s = f at *
      generalize EN xs sh inp s = en at *
      have ds : decide ((s : Int) = (sh.length : Int)) = false := by simp; omega
      go_wp2_with fail
      refine GOOD.out.mono ?_
      rintro e W5 ⟨best, rfl, hbest, b5⟩
      have HB := Lib.hid hbest
      have hbl := hbest.1
      have A5 := Lib.hid ((b5.block _ lA4).trans A4.out)
      have B5 := Lib.hid (B4.out.trans (b5.mono B4.out.size))
      have lA5 := Nat.lt_of_lt_of_le lA4 b5.size
      have F5 := Lib.hid b5
      clear c0 c1 hbest b5 A4 B4 GOOD
      have c0 := cur_cell A5.out 0
      have c1 := cur_cell A5.out 1
      simp at c0 c1
      go_wp2_with fail
      refine (HEARD.out _ F5.out best hbl).mono ?_
      rintro e W6 ⟨ta, tl, tc, rfl, b6, htop⟩
      have TOP := Lib.hid htop
      have A6 := Lib.hid ((b6.block _ lA5).trans A5.out)
      have B6 := Lib.hid (B5.out.trans (b6.mono B5.out.size))
      have lA6 := Nat.lt_of_lt_of_le lA5 b6.size
      have F6 := Lib.hid (F5.out.trans (b6.mono F5.out.size))
      clear c0 c1 htop b6 A5 B5 F5
      have c1 := cur_cell A6.out 1
      simp at c1
      go_wp2_with fail
      go_loopw [67] (fun i wr => ∃ I : Nat, i = .int .i64 I ∧ I ≤ sh.length ∧ Hid (wr.heap[A]? = some (.cells #[.slice ma xs.length mc, .slice sa sh.length sc] 42 (0, 0))) ∧ Hid (Below w.heap.size w wr) ∧ Hid (Below W6.heap.size W6 wr) ∧ A < wr.heap.size) (fun i _ => sh.length - (intOf i).toNat)
      case atStart => exact ⟨0, rfl, Nat.zero_le _, A6, B6, Lib.hid (Below.refl _ _), lA6⟩
      case round =>
        clear c1
        obtain ⟨I, rfl, hI, A7, B7, F7, lA7⟩ := hrel
        rcases Nat.lt_or_eq_of_le hI with hlt2 | heq2
        · have d1 : decide ((I : Int) < (sh.length : Int)) = true := by simpa using hlt2
          have c0 := cur_cell A7.out 0
          have c1 := cur_cell A7.out 1
          simp at c0 c1
          go_wp2_with fail
          refine (HEARD.out _ (F6.out.trans (F7.out.mono F6.out.size)) I hlt2).mono ?_
          rintro e W8 ⟨xa, xl, xc, rfl, b8, hx⟩
          have HX := Lib.hid hx
          have A8 := Lib.hid ((b8.block _ lA7).trans A7.out)
          have B8 := Lib.hid (B7.out.trans (b8.mono B7.out.size))
          have F8 := Lib.hid (F7.out.trans (b8.mono F7.out.size))
          have lA8 := Nat.lt_of_lt_of_le lA7 b8.size
          clear hx b8 c0 c1 A7 B7 F7
          have o1 : (FloatKind.f64.format.order (en I) (en best) == some .gt) = false := by
            rw [OD.out I best hlt2 hbl]
            have h1 := HB.out.2.1 I hlt2
            cases hc : compare (f I) (f best) with
            | gt => rw [Int.compare_eq_gt] at hc; omega
            | lt => rfl
            | eq => rfl
          go_wp2_with fail
          refine (HX.out _ (Below.refl _ _)).mono ?_
          rintro e _ ⟨rfl, rfl⟩
          go_wp2_with fail
          refine (TOP.out _ F8.out).mono ?_
          rintro e _ ⟨rfl, rfl⟩
          rcases Nat.lt_or_ge I best with hib | hib
          · have d2 : decide ((I : Int) < (best : Int)) = true := by simpa using hib
            have o2 : (FloatKind.f64.format.order (en I) (en best) == some .eq) = false := by
              rw [OD.out I best hlt2 hbl]
              have h1 := HB.out.2.2 I hib
              cases hc : compare (f I) (f best) with
              | gt => rfl
              | lt => rfl
              | eq => rw [Int.compare_eq_eq] at hc; omega
            go_wp2_with fail
            refine (HX.out _ (Below.refl _ _)).mono ?_
            rintro e _ ⟨rfl, rfl⟩
            go_wp2_with fail
            refine (TOP.out _ F8.out).mono ?_
            rintro e _ ⟨rfl, rfl⟩
            go_wp2_with fail
            exact ⟨⟨I + 1, by go_num, hlt2, A8, B8, F8, lA8⟩, by simp [intOf]; omega⟩
          · have d2 : decide ((I : Int) < (best : Int)) = false := by simp; omega
            go_wp2_with fail
            exact ⟨⟨I + 1, by go_num, hlt2, A8, B8, F8, lA8⟩, by simp [intOf]; omega⟩
        · subst heq2
          have d1 : decide ((sh.length : Int) < (sh.length : Int)) = false := by simp
          go_wp2_with fail
          go_ret
          exact ⟨rfl, B7.out⟩
    · subst heq
      have BAD := Lib.hid (loudestBad_c (mc := mc) (sc := sc) (ia := ia) (ic := ic) (il := inp.length) W4 RP4.out OK.out (Nat.le_refl _))
      have BADS := Lib.hid (fun (w' : World) (hb : Below W4.heap.size W4 w') => loudestBadS_c (mc := mc) (sc := sc) (ia := ia) (ic := ic) (il := inp.length) w' (RP4.out.below hb) OK.out (Nat.le_refl _))
      go_wp2_with fail
      refine BAD.out.mono ?_
      rintro e W5 ⟨rfl, b5⟩
      have A5 := Lib.hid ((b5.block _ lA4).trans A4.out)
      have B5 := Lib.hid (B4.out.trans (b5.mono B4.out.size))
      have F5 := Lib.hid b5
      clear c0 c1 b5 A4 B4 BAD
      have c0 := cur_cell A5.out 0
      have c1 := cur_cell A5.out 1
      simp at c0 c1
      go_wp2_with fail
      refine (BADS.out _ F5.out).mono ?_
      rintro e W6 ⟨rfl, b6⟩
      have B6 := Lib.hid (B5.out.trans (b6.mono B5.out.size))
      go_wp2_with fail
      go_ret
      exact ⟨rfl, B6.out⟩
  · have d0 : decide (1048576 < (len : Int)) = true := by simp; omega
    clear h
    go_enter Try.func4, Try.ntmps4
    go_wp2_with fail
    go_ret
    exact ⟨rfl, Below.refl _ _⟩
open Go.ChangeShapes Go.WideShapes Go.ChangeAt
set_option maxRecDepth 100000 in
theorem lifted_FnLoudest (os : Os) (started : os.Started) (H : Type) (enc : TypeId × Value → H) :
    ReturnsInHanded {} Try.checked os 4 .any (Rows.fnLoudestSpec.pre6 enc Try.prog Try.f4 Rows.fnLoudestRow.domain false) (Rows.fnLoudestSpec.post enc Try.prog Try.f4 false true false false) := by
  refine returnsInHanded_of_change (C := Try.checked) own started (by kernel_rfl) Try.func4
    (ChangeSpec.witness6 (enc := enc) (C := Try.checked) false ⟨#[], #[.slice none 0 0], []⟩ 8 (by kernel_rfl) (by kernel_rfl) (by kernel_rfl) (by kernel_rfl)) ?_
  intro W base args ds gs before hval0 hW hcnd _
  have hval : ∀ (j : Nat) t v, Try.f4.params[j]? = some t → args[j]? = some v → Value.okWide Try.prog W .any base t v := hval0
  have hW' := hW
  obtain ⟨p, q, hA0, hV, rfl, hfz, hnd⟩ := hW
  have hA : DataW.TrodAll enc Try.prog W 0 (fun _ => true) true Try.f4.params.toList args.toList ds p := hA0
  rw [Try.params4] at hA hval
  obtain ⟨v0, vs0, d0, ds0, p0, q0, hargs, rfl, rfl, h0, r0⟩ := trodAll_cons hA
  obtain ⟨rfl, rfl, rfl⟩ := trodAll_nil r0
  obtain rfl : args = #[v0] := by cases args; simp_all
  obtain ⟨rfl, rfl⟩ := trodVars_none hV
  obtain ⟨a0, len0, cap0, rfl⟩ := okWide_slice (Try.underlying22) (hval 0 22 v0 rfl rfl)
  have k0 := h0
  have lt0 : ∀ x ∈ p0, x.block < W.heap.size := by obtain ⟨m, hm⟩ := k0; exact DataW.trod_lt m _ _ _ hm
  have w0 : BsP W a0 len0 := by obtain ⟨fuel, hf⟩ := h0; exact open_bytes Try.underlying22 Try.underlying5 (by kernel_rfl) hf
  clear hA0 hval0
  refine (law_FnLoudest W w0).mono fun e W' ⟨he, bel⟩ => ?_
  subst he
  exact ⟨_, rfl, _, _, _, [], _, [], hW', trodAll_mk1 (shut_bool Try.underlying4 _), (trodAll_cons_mk (Below.trod laidOut (by kernel_rfl) (of_decide_eq_true (by kernel_rfl)) k0 bel lt0) trodAll_mk0), rfl, bel.frame _, fun h => by cases h⟩

theorem proved_FnLoudest : Rows.FnLoudestSaid :=
  OpenClaim.holds_of_wide 4 Try.f4 rfl rfl rfl rfl rfl rfl rfl ⟨rfl, rfl, rfl, rfl, rfl⟩ rfl rfl rfl rfl rfl (by kernel_rfl) Try.func4 (by kernel_rfl)
    (of_decide_eq_true (by kernel_rfl)) (by unfold Func.isWrapper; first | (rw [if_pos (by decide +kernel)]; kernel_rfl) | (rw [if_neg (by decide +kernel)]; exact ⟨rfl, rfl⟩))
    (fun os started H enc _ => lifted_FnLoudest os started H enc)
#print axioms proved_FnLoudest
end Go.Proofs.Ytkaajnmbmjnplaa
