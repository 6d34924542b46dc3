import Derived.Test.YtfhaopdaakjghaaDraw
namespace Go.Proofs.Ytfhaopdaakjghaa
open Go.RowKit Go.Fl

theorem DrawsF.mk {b : Nat} {a : Option Addr} {len cap : Nat} {w w1 w2 : World} {r : Nat} {p : Option Nat} (h : FV .f64 p r) (d1 : Drawn b a len cap w w1) (d2 : Drawn b a len cap w1 w2) : DrawsF b a len cap w (.returned (.float .f64 r)) w2 := ⟨r, p, rfl, h, d1.trans d2⟩


set_option maxRecDepth 100000 in
set_option maxHeartbeats 2000000 in
theorem l1Some_c {b : Nat} {a : Option Addr} {len cap : Nat} (w : World) (h : CurP w b a len cap) :
    Calls Try.prog 50 #[.pointer (some ⟨b, 0, none⟩)] w (DrawsF b a len cap w) := by
  have H := Lib.hid h
  clear h
  have u1 := under3
  have u2 := under23
  go_enter Try.func50, Try.ntmps50
  go_wp2_with fail
  refine (l01Below_c 4 (by decide) (by decide) _ H.out).mono ?_
  rintro e w1 ⟨r, rfl, r0, r1, d1⟩
  have D1 := Lib.hid d1
  clear d1
  go_wp2_with fail
  · refine (l01Below_c 65 (by decide) (by decide) _ D1.out.1).mono ?_
    rintro e w2 ⟨s, rfl, s0, s1, d2⟩
    have D2 := Lib.hid d2
    clear d2
    go_wp2_with (refine upon_flop _ (by decide) (int_FV _ _) (FV.of_lt (k := .f64) (b := 4625196817309499392) (by decide)) ?_; intro x m hx)
    go_ret
    exact DrawsF.mk hx D1.out (D2.out.drewN _)
  · refine (l01Below_c 2000001 (by decide) (by decide) _ D1.out.1).mono ?_
    rintro e w2 ⟨s, rfl, s0, s1, d2⟩
    have D2 := Lib.hid d2
    clear d2
    go_wp2_with (refine upon_flop _ (by decide) (int_FV _ _) (FV.of_lt (k := .f64) (b := 4697254411347427328) (by decide)) ?_; intro x m hx)
    go_ret
    exact DrawsF.mk hx D1.out (D2.out.drewN _)
  · refine (l01Below_c 2000001 (by decide) (by decide) _ D1.out.1).mono ?_
    rintro e w2 ⟨s, rfl, s0, s1, d2⟩
    have D2 := Lib.hid d2
    clear d2
    go_wp2_with (refine upon_flop _ (by decide) (int_FV _ _) (FV.of_lt (k := .f64) (b := 4613937818241073152) (by decide)) ?_; intro x m hx)
    go_ret
    exact DrawsF.mk hx D1.out (D2.out.drewN _)
  · refine (l01Below_c 5 (by decide) (by decide) _ D1.out.1).mono ?_
    rintro e w2 ⟨s, rfl, s0, s1, d2⟩
    have D2 := Lib.hid d2
    clear d2
    go_wp2_with fail
    go_ret
    exact DrawsF.mk (int_FV _ _) D1.out D2.out

set_option maxHeartbeats 4000000 in
theorem l1Any_c {b : Nat} {a : Option Addr} {len cap : Nat} (w : World) (h : CurP w b a len cap) :
    Calls Try.prog 41 #[.pointer (some ⟨b, 0, none⟩)] w (DrawsF b a len cap w) := by
  have H := Lib.hid h
  clear h
  go_enter Try.func41, Try.ntmps41
  go_wp2_with fail
  refine (l01Once_c 9 (by decide) (by decide) _ H.out).mono ?_
  rintro e w1 ⟨t, rfl, d1⟩
  have D1 := Lib.hid d1
  clear d1
  cases t
  · go_wp2_with fail
    refine (l1Some_c _ D1.out.1).mono ?_
    rintro e w2 ⟨r, p, rfl, hr, d2⟩
    have D2 := Lib.hid (D1.out.trans d2)
    clear d2
    go_wp2_with fail
    refine (l01Once_c 9 (by decide) (by decide) _ D2.out.1).mono ?_
    rintro e w3 ⟨t3, rfl, d3⟩
    have D3 := Lib.hid (D2.out.trans d3)
    clear d3 D2
    cases t3
    · have D2 := D3
      clear D3
      go_wp2_with fail
      refine (l01Once_c 9 (by decide) (by decide) _ D2.out.1).mono ?_
      rintro e w6 ⟨t6, rfl, d6⟩
      have D6 := Lib.hid (D2.out.trans d6)
      clear d6
      cases t6
      · go_wp2_with fail
        go_ret
        exact ⟨_, _, rfl, hr, D6.out⟩
      · go_wp2_with fail
        refine (l01Below_c 250 (by decide) (by decide) _ D6.out.1).mono ?_
        rintro e w5 ⟨k, rfl, k0, k1, d5⟩
        have D5 := Lib.hid (D6.out.trans d5)
        clear d5
        go_wp2_with fail
        go_loopw [3, 5] (fun x i wr => ∃ (j : Int) (q : Nat) (pq : Option Nat) (n : Nat), 0 ≤ j ∧ j < 250 ∧ i = .int .i64 j ∧ x = .float .f64 q ∧ FV .f64 pq q ∧ wr = w5.drewN n) (fun _ i _ => (intOf i).toNat)
        case atStart => exact ⟨k, _, _, 0, k0, k1, rfl, rfl, hr, rfl⟩
        case round =>
          clear hr
          obtain ⟨j, q, pq, n, j0, j1, rfl, rfl, hq, rfl⟩ := hrel
          by_cases hj : 0 < j
          · have hj0 := hj
            go_wp2_with (refine upon_flop _ (by decide) hq (FV.of_lt (k := .f64) (b := 4625196817309499392) (by decide)) ?_; intro x m hx)
            exact ⟨⟨j - 1, _, _, _, by omega, by omega, rfl, rfl, hx, rfl⟩, by simp [intOf]; omega⟩
          · have hr := hq
            clear hq
            have D2 := Lib.hid (D5.out.drewN n)
            clear D5
            go_wp2_with fail
            go_ret
            exact ⟨_, _, rfl, hr, D2.out⟩
      
    · go_wp2_with fail
      refine (l01Below_c 250 (by decide) (by decide) _ D3.out.1).mono ?_
      rintro e w5 ⟨k, rfl, k0, k1, d5⟩
      have D5 := Lib.hid (D3.out.trans d5)
      clear d5
      go_wp2_with fail
      go_loopw [3, 4] (fun x i wr => ∃ (j : Int) (q : Nat) (pq : Option Nat) (n : Nat), 0 ≤ j ∧ j < 250 ∧ i = .int .i64 j ∧ x = .float .f64 q ∧ FV .f64 pq q ∧ wr = w5.drewN n) (fun _ i _ => (intOf i).toNat)
      case atStart => exact ⟨k, _, _, 0, k0, k1, rfl, rfl, hr, rfl⟩
      case round =>
        clear hr
        obtain ⟨j, q, pq, n, j0, j1, rfl, rfl, hq, rfl⟩ := hrel
        by_cases hj : 0 < j
        · have hj0 := hj
          go_wp2_with (refine upon_flop _ (by decide) hq (FV.of_lt (k := .f64) (b := 4625196817309499392) (by decide)) ?_; intro x m hx)
          exact ⟨⟨j - 1, _, _, _, by omega, by omega, rfl, rfl, hx, rfl⟩, by simp [intOf]; omega⟩
        · have hr := hq
          clear hq
          have D2 := Lib.hid (D5.out.drewN n)
          clear D5
          go_wp2_with fail
          refine (l01Once_c 9 (by decide) (by decide) _ D2.out.1).mono ?_
          rintro e w6 ⟨t6, rfl, d6⟩
          have D6 := Lib.hid (D2.out.trans d6)
          clear d6
          cases t6
          · go_wp2_with fail
            go_ret
            exact ⟨_, _, rfl, hr, D6.out⟩
          · go_wp2_with fail
            refine (l01Below_c 250 (by decide) (by decide) _ D6.out.1).mono ?_
            rintro e w5 ⟨k, rfl, k0, k1, d5⟩
            have D5 := Lib.hid (D6.out.trans d5)
            clear d5
            go_wp2_with fail
            go_loopw [3, 5] (fun x i wr => ∃ (j : Int) (q : Nat) (pq : Option Nat) (n : Nat), 0 ≤ j ∧ j < 250 ∧ i = .int .i64 j ∧ x = .float .f64 q ∧ FV .f64 pq q ∧ wr = w5.drewN n) (fun _ i _ => (intOf i).toNat)
            case atStart => exact ⟨k, _, _, 0, k0, k1, rfl, rfl, hr, rfl⟩
            case round =>
              clear hr
              obtain ⟨j, q, pq, n, j0, j1, rfl, rfl, hq, rfl⟩ := hrel
              by_cases hj : 0 < j
              · have hj0 := hj
                go_wp2_with (refine upon_flop _ (by decide) hq (FV.of_lt (k := .f64) (b := 4625196817309499392) (by decide)) ?_; intro x m hx)
                exact ⟨⟨j - 1, _, _, _, by omega, by omega, rfl, rfl, hx, rfl⟩, by simp [intOf]; omega⟩
              · have hr := hq
                clear hq
                have D2 := Lib.hid (D5.out.drewN n)
                clear D5
                go_wp2_with fail
                go_ret
                exact ⟨_, _, rfl, hr, D2.out⟩
          
  · go_wp2_with fail
    refine (l1Odd_c _ D1.out.1).mono ?_
    rintro e w2 ⟨r, p, rfl, hr, d2⟩
    have D2 := Lib.hid d2
    clear d2
    go_wp2_with fail
    go_ret
    exact DrawsF.mk hr D1.out D2.out

/-- A call that draws a complex128. -/
def DrawsC (b : Nat) (a : Option Addr) (len cap : Nat) (w : World) (e : Ending) (w' : World) : Prop := ∃ r s p q, e = .returned (.complex .f64 r s) ∧ FV .f64 p r ∧ FV .f64 q s ∧ Drawn b a len cap w w'

end Go.Proofs.Ytfhaopdaakjghaa
