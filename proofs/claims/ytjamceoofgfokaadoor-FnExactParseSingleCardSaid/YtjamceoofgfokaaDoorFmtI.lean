import Derived.Test.YtjamceoofgfokaaDoorFmtS
import Derived.Test.YtjamceoofgfokaaDoorShelf
import Derived.Lib.SmallJoins
import Derived.Lib.AppendIntMem
import Derived.Laws.BitsAllLaws
import Derived.Laws.ShiftsVarLaws
namespace Go.Fl
open Go

theorem V_bits {R : Nat} : V D64 R = (if R / 2 ^ 52 = 0 then R % 2 ^ 52 else R % 2 ^ 52 + 2 ^ 52) * 2 ^ ((if R / 2 ^ 52 = 0 then 1 else R / 2 ^ 52) - 1) := by
  unfold V
  rw [D_B]
  by_cases h : R < 2 ^ 52
  · rw [if_pos h, if_pos (by omega), if_pos (by omega)]
    simp
    omega
  · rw [if_neg h, if_neg (by omega), if_neg (by omega), Nat.add_comm]

theorem impl_parts {mm ee N : Nat} (h0 : 0 < mm) (h1 : mm < 2 ^ 53) (he : 1 ≤ ee) (hN : N < U 2200) (hV : N = mm * 2 ^ (ee - 1)) : mm / 2 ^ Lib.ctz 64 mm = oddOf N ∧ (ee : Int) - 1075 + (Lib.ctz 64 mm : Nat) = (twos N : Int) - 1074 ∧ Lib.ctz 64 mm < 64 := by
  have hc : Lib.ctz 64 mm = Lib.ctzFrom 64 mm := by unfold Lib.ctz; rw [if_neg (by omega)]
  rw [hc]
  obtain ⟨m, hm, hlt⟩ := Lib.ctzFrom_spec 64 mm h0 (by omega)
  generalize Lib.ctzFrom 64 mm = s at *
  have hN0 : 0 < N := by rw [hV]; exact Nat.mul_pos h0 (Nat.two_pow_pos _)
  have k := odd_is hN0 hN (m := 2 * m + 1) (a := s + (ee - 1)) (b := 0) (by omega) (by rw [Nat.pow_zero, Nat.mul_one, hV, hm, Nat.pow_add]; ac_rfl)
  refine ⟨?_, by omega, hlt⟩
  rw [← k.1]
  exact Nat.div_eq_of_eq_mul_right (Nat.two_pow_pos _) hm
end Go.Fl
namespace Go.Proofs.YtjamceoofgfokaaDoor
open Go.RowKit Go.Fl

/-- The tables of the library, as they lie. -/
def Tabs (w : World) : Prop := TabAt 1 Lib.deBruijn64tab w ∧ Lib.TabIs Tryd.prog w "internal/strconv.uint64pow10" .u64 Lib.pow10Tab ∧ 1 < w.heap.size

theorem gPow : Tryd.prog.globalNamed "internal/strconv.uint64pow10" = some 3 := by kernel_rfl

theorem Tabs.below {w w' : World} (h : Tabs w) (hb : Below w.heap.size w w') : Tabs w' :=
  ⟨fun j hj => by rw [hb.cell (p := ⟨1, j, none⟩) h.2.2]; exact h.1 j hj, Go.Joins.tab_stays gPow h.2.1 hb (Nat.le_refl _), Nat.lt_of_lt_of_le h.2.2 hb.size⟩

/-- The fields of a word. -/
theorem word_fields {c : Nat} (hc : c < 2 ^ 64) : bits .and .u64 (c : Int) 4503599627370495 = ((rg D64 c % 2 ^ 52 : Nat) : Int) ∧ bits .and .u64 ((c : Int) / 4503599627370496) 2047 = ((rg D64 c / 2 ^ 52 : Nat) : Int) ∧ ((c : Int) / 9223372036854775808 == 1) = sg D64 c := by
  have hr : rg D64 c = c % 2 ^ 63 := rfl
  refine ⟨?_, ?_, ?_⟩
  · rw [show (4503599627370495 : Int) = ((4503599627370495 : Nat) : Int) from rfl, u64_and_nat c 4503599627370495 (by omega) (by decide)]
    have := Nat.and_two_pow_sub_one_eq_mod c 52
    rw [show (4503599627370495 : Nat) = 2 ^ 52 - 1 from rfl, this, hr]
    congr 1
    omega
  · rw [show (2047 : Int) = ((2047 : Nat) : Int) from rfl, show (c : Int) / 4503599627370496 = ((c / 4503599627370496 : Nat) : Int) by omega, u64_and_nat _ 2047 (by omega) (by decide)]
    have := Nat.and_two_pow_sub_one_eq_mod (c / 4503599627370496) 11
    rw [show (2047 : Nat) = 2 ^ 11 - 1 from rfl, this, hr]
    congr 1
    omega
  · have hs : sg D64 c = (c / 2 ^ 63 % 2 == 1) := rfl
    rw [hs]
    have h2 : c / 2 ^ 63 < 2 := by omega
    rcases (show c / 2 ^ 63 = 0 ∨ c / 2 ^ 63 = 1 by omega) with h | h
    · rw [h]
      have : (c : Int) / 9223372036854775808 = 0 := by omega
      rw [this]; rfl
    · rw [h]
      have : (c : Int) / 9223372036854775808 = 1 := by omega
      rw [this]; rfl

theorem or_top {M : Nat} (h : M < 2 ^ 52) : bits .or .u64 (M : Int) 4503599627370496 = ((M + 2 ^ 52 : Nat) : Int) := by
  rw [show (4503599627370496 : Int) = ((4503599627370496 : Nat) : Int) from rfl, u64_or_nat M 4503599627370496 (by omega) (by decide)]
  have := Nat.two_pow_add_eq_or_of_lt h 1
  rw [Nat.mul_one] at this
  rw [Nat.or_comm, show (4503599627370496 : Nat) = 2 ^ 52 from rfl, ← this, Nat.add_comm]

set_option maxRecDepth 10000 in
set_option maxHeartbeats 4000000 in
theorem formatImpl_c {p : Option Nat} {x : Nat} (hx : FV .f64 p x) (w : World) (hT : Tabs w) :
    Calls Tryd.prog 8 #[.float .f64 x] w (RetS (fmtD p) w) := by
  cases hf : isFin .f64 p with
  | false =>
    have hfm := Lib.hid (fmtD_inf hf)
    clear hT
    go_enter Tryd.func8, Tryd.ntmps8
    go_wp2_with (go_at_call 20; refine (finite_c hx _).mono ?_; rw [hf]; rintro e _ ⟨rfl, n1, rfl⟩)
    go_ret
    exact ⟨by rw [hfm.out]; rfl, below_drewN' (Below.refl _ _) _⟩
  | true =>
    cases p with
    | none => cases hf
    | some c =>
      obtain ⟨rfl, hn⟩ := hx.not_nan
      have hr : rg D64 c < D64.infRung := of_decide_eq_true hf
      have hc64 : c < 2 ^ 64 := hx.2
      obtain ⟨b1, b2, b3⟩ := word_fields hc64
      have hVb := V_bits (R := rg D64 c)
      have hE : rg D64 c / 2 ^ 52 < 2047 := by rw [D_I] at hr; omega
      have hM : rg D64 c % 2 ^ 52 < 2 ^ 52 := Nat.mod_lt _ (by decide)
      have hRe : rg D64 c = rg D64 c / 2 ^ 52 * 2 ^ 52 + rg D64 c % 2 ^ 52 := by omega
      have X0 := Lib.hid hx
      have F0 := Lib.hid hf
      have T0 := Lib.hid hT
      have S0 : Hid (sgn c = if sg D64 c then [45] else []) := Lib.hid rfl
      have tz : ∀ (mm : Nat), mm < 2 ^ 53 → ∀ k, Calls Tryd.prog 22 #[.int .u64 mm] (w.drewN k) fun e w' => e = .returned (.int .i64 (Lib.ctz 64 mm)) ∧ w' = w.drewN k := fun mm h k => Tryd.bits_TrailingZeros64 mm (by omega) (w.drewN k) (fun _ => (T0.out.below (below_drewN' (Below.refl _ _) k)).1)
      have it : ∀ (n : Int), -9223372036854775808 ≤ n → n ≤ 9223372036854775807 → ∀ w', Below w.heap.size w w' → Calls Tryd.prog 23 #[.int .i64 n] w' (RetS (Lib.itoa n) w') := fun n h1 h2 w' hb => (Tryd.strconv_Itoa n h1 h2 w' (T0.out.below hb).2.1).mono fun e w2 ⟨he, k, os, hw⟩ => ⟨he, by subst hw; exact Lib.below_grow _ _ (Nat.le_refl _) _ _⟩
      have TZ := Lib.hid tz
      have IT := Lib.hid it
      clear tz it hx hf hT hn
      by_cases h0 : rg D64 c = 0
      · have hfm := Lib.hid (fmtD_zero h0)
        rw [h0] at b1 b2
        have b1' : bits .and .u64 (c : Int) 4503599627370495 = 0 := b1
        have b2' : bits .and .u64 ((c : Int) / 4503599627370496) 2047 = 0 := b2
        have cat : (⟨#[45]⟩ : ByteArray) ++ ⟨#[48]⟩ = ⟨#[45, 48]⟩ := cat_bytes [45] [48]
        have cat0 : (⟨#[]⟩ : ByteArray) ++ ⟨#[48]⟩ = ⟨#[48]⟩ := cat_bytes [] [48]
        clear b1 b2 hVb hE hM hRe hc64 hr h0 TZ IT
        cases hs : sg D64 c
        case false =>
          rw [hs] at b3 S0
          clear hs
          have r1 := fun w => f64bits_run c w
          go_enter Tryd.func8, Tryd.ntmps8
          go_wp2_with (go_at_call 20; refine (finite_c X0.out _).mono ?_; rw [F0.out]; rintro e _ ⟨rfl, n1, rfl⟩)
          go_ret
          exact ⟨by rw [hfm.out, S0.out]; rfl, below_drewN' (Below.refl _ _) _⟩
        case true =>
          rw [hs] at b3 S0
          clear hs
          have r1 := fun w => f64bits_run c w
          go_enter Tryd.func8, Tryd.ntmps8
          go_wp2_with (go_at_call 20; refine (finite_c X0.out _).mono ?_; rw [F0.out]; rintro e _ ⟨rfl, n1, rfl⟩)
          go_ret
          exact ⟨by rw [hfm.out, S0.out]; rfl, below_drewN' (Below.refl _ _) _⟩
      · have hfm := Lib.hid (fmtD_fin hr h0)
        have hN := V_lt_U hr
        obtain ⟨o1, o2, o3⟩ := odd_bound (r := rg D64 c) (by omega) hr
        generalize V D64 (rg D64 c) = N at *
        generalize rg D64 c / 2 ^ 52 = E at *
        generalize rg D64 c % 2 ^ 52 = M at *
        generalize rg D64 c = R at *
        have wE : wrap64 (E : Int) = (E : Int) := by unfold wrap64; omega
        have la := itoa_length (n := (oddOf N : Int)) (by omega) (by omega)
        have lb := itoa_length (n := (twos N : Int) - 1074) (by omega) (by omega)
        have cat := cat_bytes
        by_cases hE0 : E = 0
        · subst hE0
          rw [if_pos rfl, if_pos rfl] at hVb
          have hM0 : 0 < M := by omega
          obtain ⟨p1, p2, p3⟩ := impl_parts (ee := 1) hM0 (by omega) (by omega) hN hVb
          clear hVb hRe hc64
          have m0 : ((M : Int) == 0) = false := by simp; omega
          have hm53 : M < 2 ^ 53 := by omega
          have eE : (((0 : Nat) : Int) == 0) = true := rfl
          cases hs : sg D64 c
          case false =>
            have LE := Lib.hid (And.intro la lb)
            have PP := Lib.hid (And.intro p1 p2)
            have OO := Lib.hid (And.intro o1 (And.intro o2 o3))
            clear la lb p1 p2 o1 o2 o3 hN hr h0
            rw [hs] at b3 S0
            clear hs
            have r1 := fun w => f64bits_run c w
            go_enter Tryd.func8, Tryd.ntmps8
            go_wp2_with (go_at_call 20; refine (finite_c X0.out _).mono ?_; rw [F0.out]; rintro e _ ⟨rfl, n1, rfl⟩)
            refine (TZ.out M hm53 _).mono ?_
            rintro e _ ⟨rfl, rfl⟩
            have hs64 := p3
            generalize Lib.ctz 64 M = s at *
            have hq : wrap64 ((M : Int) / 2 ^ s) = (oddOf N : Int) := by
              have h1 := PP.out.1
              have h2 : ((M / 2 ^ s : Nat) : Int) = (M : Int) / 2 ^ s := by simp
              rw [← h2, h1]
              have h3 := OO.out.1
              unfold wrap64
              omega
            have HQ := Lib.hid hq
            clear hq
            go_wp2_with fail
            rw [HQ.out]
            refine (IT.out _ (by omega) (by have := OO.out.1; omega) _ (below_drewN' (Below.refl _ _) n1)).mono ?_
            rintro e w1 ⟨rfl, b1⟩
            have B1 := Lib.hid ((below_drewN' (Below.refl w.heap.size w) n1).trans b1)
            clear b1
            have la := LE.out.1
            generalize Lib.itoa (oddOf N) = ta at *
            go_wp2_with fail
            refine (IT.out _ (by have := PP.out.2; omega) (by have := PP.out.2; omega) _ B1.out).mono ?_
            rintro e w2 ⟨rfl, b2⟩
            have B2 := B1.out.trans (b2.mono B1.out.size)
            clear b2 B1
            have e3 : (-1074 + (s : Int)) = (twos N : Int) - 1074 := by have := PP.out.2; omega
            rw [e3]
            have lb := LE.out.2
            generalize Lib.itoa ((twos N : Int) - 1074) = tb at *
            clear e3
            go_wp2_with fail
            go_ret
            exact ⟨by rw [hfm.out, S0.out]; simp, B2⟩
          case true =>
            have LE := Lib.hid (And.intro la lb)
            have PP := Lib.hid (And.intro p1 p2)
            have OO := Lib.hid (And.intro o1 (And.intro o2 o3))
            clear la lb p1 p2 o1 o2 o3 hN hr h0
            rw [hs] at b3 S0
            clear hs
            have r1 := fun w => f64bits_run c w
            go_enter Tryd.func8, Tryd.ntmps8
            go_wp2_with (go_at_call 20; refine (finite_c X0.out _).mono ?_; rw [F0.out]; rintro e _ ⟨rfl, n1, rfl⟩)
            refine (TZ.out M hm53 _).mono ?_
            rintro e _ ⟨rfl, rfl⟩
            have hs64 := p3
            generalize Lib.ctz 64 M = s at *
            have hq : wrap64 ((M : Int) / 2 ^ s) = (oddOf N : Int) := by
              have h1 := PP.out.1
              have h2 : ((M / 2 ^ s : Nat) : Int) = (M : Int) / 2 ^ s := by simp
              rw [← h2, h1]
              have h3 := OO.out.1
              unfold wrap64
              omega
            have HQ := Lib.hid hq
            clear hq
            go_wp2_with fail
            rw [HQ.out]
            refine (IT.out _ (by omega) (by have := OO.out.1; omega) _ (below_drewN' (Below.refl _ _) n1)).mono ?_
            rintro e w1 ⟨rfl, b1⟩
            have B1 := Lib.hid ((below_drewN' (Below.refl w.heap.size w) n1).trans b1)
            clear b1
            have la := LE.out.1
            generalize Lib.itoa (oddOf N) = ta at *
            go_wp2_with fail
            refine (IT.out _ (by have := PP.out.2; omega) (by have := PP.out.2; omega) _ B1.out).mono ?_
            rintro e w2 ⟨rfl, b2⟩
            have B2 := B1.out.trans (b2.mono B1.out.size)
            clear b2 B1
            have e3 : (-1074 + (s : Int)) = (twos N : Int) - 1074 := by have := PP.out.2; omega
            rw [e3]
            have lb := LE.out.2
            generalize Lib.itoa ((twos N : Int) - 1074) = tb at *
            clear e3
            go_wp2_with fail
            go_ret
            exact ⟨by rw [hfm.out, S0.out]; simp, B2⟩
        · rw [if_neg hE0, if_neg hE0] at hVb
          have B12 := Lib.hid (And.intro b1 (And.intro b2 b3))
          clear b1 b2 b3 hRe hc64 la lb
          have hor := or_top hM
          obtain ⟨mm, hmm⟩ : ∃ mm, mm = M + 2 ^ 52 := ⟨_, rfl⟩
          rw [← hmm] at hor hVb
          have HV := Lib.hid hVb
          clear hVb
          have hm0 : 0 < mm := by omega
          have hm53 : mm < 2 ^ 53 := by omega
          have hE1 : 1 ≤ E := by omega
          clear hmm
          obtain ⟨p1, p2, p3⟩ := impl_parts hm0 hm53 hE1 hN HV.out
          clear HV
          have hmp : ¬ ((mm : Int) = 0) := by omega
          have m0 : ((mm : Int) == 0) = false := by simpa using hmp
          have eEp : ¬ ((E : Int) = 0) := by omega
          have eE : ((E : Int) == 0) = false := by simpa using eEp
          clear hmp eEp
          have la := itoa_length (n := (oddOf N : Int)) (by omega) (by omega)
          have lb := itoa_length (n := (twos N : Int) - 1074) (by omega) (by omega)
          obtain ⟨b1, b2, b3⟩ := B12.out
          cases hs : sg D64 c
          case false =>
            have LE := Lib.hid (And.intro la lb)
            have PP := Lib.hid (And.intro p1 p2)
            have OO := Lib.hid (And.intro o1 (And.intro o2 o3))
            clear la lb p1 p2 o1 o2 o3 hN hr h0
            rw [hs] at b3 S0
            clear hs
            have r1 := fun w => f64bits_run c w
            go_enter Tryd.func8, Tryd.ntmps8
            go_wp2_with (go_at_call 20; refine (finite_c X0.out _).mono ?_; rw [F0.out]; rintro e _ ⟨rfl, n1, rfl⟩)
            refine (TZ.out mm hm53 _).mono ?_
            rintro e _ ⟨rfl, rfl⟩
            have hs64 := p3
            generalize Lib.ctz 64 mm = s at *
            have hq : wrap64 ((mm : Int) / 2 ^ s) = (oddOf N : Int) := by
              have h1 := PP.out.1
              have h2 : ((mm / 2 ^ s : Nat) : Int) = (mm : Int) / 2 ^ s := by simp
              rw [← h2, h1]
              have h3 := OO.out.1
              unfold wrap64
              omega
            have HQ := Lib.hid hq
            clear hq
            go_wp2_with fail
            rw [HQ.out]
            refine (IT.out _ (by omega) (by have := OO.out.1; omega) _ (below_drewN' (Below.refl _ _) n1)).mono ?_
            rintro e w1 ⟨rfl, b1⟩
            have B1 := Lib.hid ((below_drewN' (Below.refl w.heap.size w) n1).trans b1)
            clear b1
            have la := LE.out.1
            generalize Lib.itoa (oddOf N) = ta at *
            go_wp2_with fail
            refine (IT.out _ (by have := PP.out.2; omega) (by have := PP.out.2; omega) _ B1.out).mono ?_
            rintro e w2 ⟨rfl, b2⟩
            have B2 := B1.out.trans (b2.mono B1.out.size)
            clear b2 B1
            have e3 : ((E : Int) - 1075 + (s : Int)) = (twos N : Int) - 1074 := by have := PP.out.2; omega
            rw [e3]
            have lb := LE.out.2
            generalize Lib.itoa ((twos N : Int) - 1074) = tb at *
            clear e3
            go_wp2_with fail
            go_ret
            exact ⟨by rw [hfm.out, S0.out]; simp, B2⟩
          case true =>
            have LE := Lib.hid (And.intro la lb)
            have PP := Lib.hid (And.intro p1 p2)
            have OO := Lib.hid (And.intro o1 (And.intro o2 o3))
            clear la lb p1 p2 o1 o2 o3 hN hr h0
            rw [hs] at b3 S0
            clear hs
            have r1 := fun w => f64bits_run c w
            go_enter Tryd.func8, Tryd.ntmps8
            go_wp2_with (go_at_call 20; refine (finite_c X0.out _).mono ?_; rw [F0.out]; rintro e _ ⟨rfl, n1, rfl⟩)
            refine (TZ.out mm hm53 _).mono ?_
            rintro e _ ⟨rfl, rfl⟩
            have hs64 := p3
            generalize Lib.ctz 64 mm = s at *
            have hq : wrap64 ((mm : Int) / 2 ^ s) = (oddOf N : Int) := by
              have h1 := PP.out.1
              have h2 : ((mm / 2 ^ s : Nat) : Int) = (mm : Int) / 2 ^ s := by simp
              rw [← h2, h1]
              have h3 := OO.out.1
              unfold wrap64
              omega
            have HQ := Lib.hid hq
            clear hq
            go_wp2_with fail
            rw [HQ.out]
            refine (IT.out _ (by omega) (by have := OO.out.1; omega) _ (below_drewN' (Below.refl _ _) n1)).mono ?_
            rintro e w1 ⟨rfl, b1⟩
            have B1 := Lib.hid ((below_drewN' (Below.refl w.heap.size w) n1).trans b1)
            clear b1
            have la := LE.out.1
            generalize Lib.itoa (oddOf N) = ta at *
            go_wp2_with fail
            refine (IT.out _ (by have := PP.out.2; omega) (by have := PP.out.2; omega) _ B1.out).mono ?_
            rintro e w2 ⟨rfl, b2⟩
            have B2 := B1.out.trans (b2.mono B1.out.size)
            clear b2 B1
            have e3 : ((E : Int) - 1075 + (s : Int)) = (twos N : Int) - 1074 := by have := PP.out.2; omega
            rw [e3]
            have lb := LE.out.2
            generalize Lib.itoa ((twos N : Int) - 1074) = tb at *
            clear e3
            go_wp2_with fail
            go_ret
            exact ⟨by rw [hfm.out, S0.out]; simp, B2⟩
end Go.Proofs.YtjamceoofgfokaaDoor
