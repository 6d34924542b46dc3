import Derived.Test.YtjamceoofgfokaaDoorParN
namespace Go.Proofs.YtjamceoofgfokaaDoor
open Go.RowKit Go.Fl

set_option maxHeartbeats 400000 in
theorem l1Minus_c (w : World) : Calls Tryd.prog 24 #[] w fun e w' => e = .returned (.float .f64 9223372036854775808) ∧ w' = w := by
  have hu : ∀ w : World, (Op.unary .neg (.float .f64 0)).run Tryd.prog w = .ok (.float .f64 9223372036854775808) w := fun _ => by kernel_rfl
  go_enter Tryd.func24, Tryd.ntmps24
  go_wp2
  go_ret
  exact ⟨rfl, rfl⟩

set_option maxRecDepth 10000 in
set_option maxHeartbeats 4000000 in
theorem parseSpec_c {l : List UInt8} (hl : l.length ≤ 1048576) (w : World) :
    Calls Tryd.prog 11 #[.string ⟨l.toArray⟩] w (RetP l w) := by
  have rej : ∀ w', Below w.heap.size w w' → ¬ IsFmt l → RetP l w (.returned (.tuple #[.float .f64 0, .bool false])) w' := fun w' hb hn => ⟨0, false, rfl, fun h => (by cases h), fun _ => ⟨rfl, hn⟩, hb⟩
  have acc : ∀ x w', Below w.heap.size w w' → Fmt x l → RetP l w (.returned (.tuple #[.float .f64 x, .bool true])) w' := fun x w' hb hn => ⟨x, true, rfl, fun _ => hn, fun h => (by cases h), hb⟩
  have REJ := Lib.hid rej
  have ACC := Lib.hid acc
  clear rej acc
  by_cases hA : l = [48]
  · subst hA
    have fm : Fmt 0 [48] := ⟨by decide, by decide +kernel, fmtD_zero (b := 0) rfl⟩
    have FM := Lib.hid fm
    clear fm
    go_enter Tryd.func11, Tryd.ntmps11
    go_wp2_with fail
    go_ret2
    exact ACC.out 0 _ (Below.refl _ _) FM.out
  · by_cases hB : l = [45, 48]
    · subst hB
      have fm : Fmt 9223372036854775808 [45, 48] := ⟨by decide, by decide +kernel, fmtD_zero (b := 9223372036854775808) rfl⟩
      have FM := Lib.hid fm
      clear fm
      go_enter Tryd.func11, Tryd.ntmps11
      go_wp2_with fail
      refine (l1Minus_c _).mono ?_
      rintro e w1 ⟨rfl, hw⟩
      rw [hw]
      clear hw
      go_wp2_with fail
      go_ret2
      exact ACC.out _ _ (Below.refl _ _) FM.out
    · have t1 : (l == [48]) = false := by simpa using hA
      have t2 : (l == [45, 48]) = false := by simpa using hB
      have G0 := Lib.hid (fun c (hf : Fmt c l) => fmt_split hf hA hB)
      have SP := Lib.hid (fun w => l1Split_c l hl w)
      clear hA hB
      go_enter Tryd.func11, Tryd.ntmps11
      go_wp2_with fail
      refine (SP.out _).mono ?_
      rintro e w1 ⟨g, n, cap, rfl, hn, hlen, hcell, b1⟩
      have HC := Lib.hid (And.intro hn (And.intro hlen hcell))
      have B1 := Lib.hid b1
      clear hn hlen hcell b1
      by_cases h2 : n = 2
      · subst h2
        obtain ⟨A, B, hAB⟩ : ∃ A B, splitL l = [A, B] := by
          have := HC.out.1
          match hs : splitL l, this with
          | [a, b], _ => exact ⟨a, b, rfl⟩
          | [], h => simp at h
          | [_], h => simp at h
          | _ :: _ :: _ :: _, h => simp at h
        have hne : l ≠ [] := by
          rintro rfl
          have : splitL [] = [[]] := rfl
          rw [this] at hAB
          cases hAB
        have c0 : w1.cell? ⟨g, 0, none⟩ = some (.string ⟨A.toArray⟩) := by
          have := HC.out.2.2 0 (by rw [hAB]; simp)
          simpa [hAB] using this
        have c1 : w1.cell? ⟨g, 1, none⟩ = some (.string ⟨B.toArray⟩) := by
          have := HC.out.2.2 1 (by rw [hAB]; simp)
          simpa [hAB] using this
        have lA : A.length ≤ 1048576 := by
          have := HC.out.2.1 A (by rw [hAB]; simp)
          omega
        have lB : B.length ≤ 1048576 := by
          have := HC.out.2.1 B (by rw [hAB]; simp)
          omega
        have AB := Lib.hid hAB
        have NE := Lib.hid hne
        clear hAB hne HC
        go_wp2_with fail
        refine (l1Read_c lA _).mono ?_
        rintro e _ ⟨m, ta, rfl, m1, m2, hta, n1, rfl⟩
        have TA := Lib.hid hta
        clear hta
        go_wp2_with fail
        refine (l1Read_c lB _).mono ?_
        rintro e _ ⟨ex, tb, rfl, e1, e2, htb, n2, rfl⟩
        have TB := Lib.hid htb
        clear htb c0 c1 lA lB
        have G : ∀ c, Fmt c l → ta = true ∧ tb = true ∧ m = numOf c ∧ ex = expOf c ∧ -1074 ≤ ex ∧ ex < 1024 ∧ Scal c (floatOfInt .f64 m) ex := fun c hf => by
          obtain ⟨p1, p2⟩ := G0.out c hf
          rw [AB.out] at p1
          injection p1 with p3 p4
          injection p4 with p4 _
          obtain ⟨o1, o2, o3⟩ := odd_bound (r := rg D64 c) (by have := hf.2.1; omega) hf.2.1
          have tw := twos_lt p2 hf.2.1
          have hnum : -(10 ^ 17) < numOf c ∧ numOf c < 10 ^ 17 := by unfold numOf; split <;> omega
          have hexp : -(10 ^ 17) < expOf c ∧ expOf c < 10 ^ 17 ∧ -1074 ≤ expOf c ∧ expOf c < 1024 := by unfold expOf; omega
          obtain ⟨q1, q2⟩ := TA.out _ hnum.1 hnum.2 p3
          obtain ⟨q3, q4⟩ := TB.out _ hexp.1 hexp.2.1 p4
          refine ⟨q2, q4, q1, q3, by omega, by omega, ?_⟩
          rw [q1, q3]
          exact Scal.start hf.2.1 p2
        have GG := Lib.hid G
        clear G G0 TA TB
        cases ta
        case false =>
          go_wp2_with fail
          go_ret2
          exact REJ.out _ (below_drewN' B1.out _) (fun ⟨c, hf⟩ => by have := (GG.out c hf).1; cases this)
        case true =>
          cases tb
          case false =>
            go_wp2_with fail
            go_ret2
            exact REJ.out _ (below_drewN' B1.out _) (fun ⟨c, hf⟩ => by have := (GG.out c hf).2.1; cases this)
          case true =>
            by_cases k1 : -1100 ≤ ex
            · by_cases k2 : ex ≤ 1100
              · have d1 : decide (-1100 ≤ ex) = true := by simpa using k1
                have d2 : decide (ex ≤ 1100) = true := by simpa using k2
                go_wp2_with (go_at_call 27; go_in)
                go_loopw [9, 7] (fun x e wr => ∃ (X : Nat) (k : Int) (nn : Nat), x = .float .f64 X ∧ e = .int .i64 k ∧ X < 2 ^ 64 ∧ -1100 ≤ k ∧ k ≤ 1100 ∧ Hid (∀ c, Fmt c l → Scal c X k) ∧ wr = w1.drewN nn) (fun _ e _ => (intOf e).toNat)
                case atStart => exact ⟨_, ex, _, rfl, rfl, (int_FV .f64 m).2, k1, k2, Lib.hid (fun c hf => (GG.out c hf).2.2.2.2.2.2), rfl⟩
                case round =>
                  obtain ⟨X, k, nn, rfl, rfl, hX, hk1, hk2, hS, rfl⟩ := hrel
                  by_cases hk : 0 < k
                  · have q1 : decide (0 < k) = true := by simpa using hk
                    have fX := FV.of_lt (k := .f64) hX
                    have fT : FV .f64 (some 4611686018427387904) 4611686018427387904 := FV.mk (by decide +kernel) (by decide)
                    go_wp2_with (refine upon_flop _ (by decide) fX fT ?_; intro X' nx hX')
                    refine ⟨⟨_, _, _, _, _, _, _, _, ⟨X', k - 1, _, rfl, rfl, hX'.2, by omega, by omega, Lib.hid (fun c hf => ?_), rfl⟩, rfl⟩, by simp [intOf]; omega⟩
                    have hs := hS.out c hf
                    have hn : cl .f64 X = some X := by
                      obtain ⟨r, rfl, r0, r1, -⟩ := hs
                      have : (FloatKind.f64.decode (D64.word (sg D64 c) r)).isNaN = false := read_word_nan D64 _ (Nat.le_of_lt r1)
                      unfold cl
                      rw [this]; rfl
                    rw [hn] at hX'
                    cases hv : floatBits .mul .f64 X 4611686018427387904 with
                    | none =>
                      exfalso
                      obtain ⟨r, rfl, r0, r1, -⟩ := hs
                      obtain ⟨m', e', h1, -⟩ := read_word (sg D64 c) r1
                      have hv' : ((D64.read (D64.word (sg D64 c) r)).product (D64.read 4611686018427387904)).map D64.write = none := hv
                      rw [h1, read_two] at hv'
                      cases hv'
                    | some Y =>
                      have e1 : fop .mul .f64 (some X) (some 4611686018427387904) = some Y := hv
                      rw [e1] at hX'
                      obtain rfl : Y = X' := hX'.some_eq
                      exact hs.up hf.2.1 hk hv
                  · have q1 : decide (0 < k) = false := by simpa using hk
                    go_wp2_with fail
                    go_loopw [9, 7] (fun x e wr => ∃ (X : Nat) (k : Int) (nn : Nat), x = .float .f64 X ∧ e = .int .i64 k ∧ X < 2 ^ 64 ∧ -1100 ≤ k ∧ k ≤ 0 ∧ Hid (∀ c, Fmt c l → Scal c X k) ∧ wr = w1.drewN nn) (fun _ e _ => (-(intOf e)).toNat)
                    case atStart => exact ⟨X, k, nn, rfl, rfl, hX, hk1, by omega, hS, rfl⟩
                    case round =>
                      obtain ⟨X, k, nn, rfl, rfl, hX, hk1, hk2, hS, rfl⟩ := hrel
                      by_cases hk : k < 0
                      · have q1 : decide (k < 0) = true := by simpa using hk
                        have fX := FV.of_lt (k := .f64) hX
                        have fT : FV .f64 (some 4611686018427387904) 4611686018427387904 := FV.mk (by decide +kernel) (by decide)
                        go_wp2_with (refine upon_flop _ (by decide) fX fT ?_; intro X' nx hX')
                        refine ⟨⟨X', k + 1, _, rfl, by go_num, hX'.2, by omega, by omega, Lib.hid (fun c hf => ?_), rfl⟩, by simp [intOf]; omega⟩
                        have hs := hS.out c hf
                        have hn : cl .f64 X = some X := by
                          obtain ⟨r, rfl, r0, r1, -⟩ := hs
                          have : (FloatKind.f64.decode (D64.word (sg D64 c) r)).isNaN = false := read_word_nan D64 _ (Nat.le_of_lt r1)
                          unfold cl
                          rw [this]; rfl
                        rw [hn] at hX'
                        cases hv : floatBits .quo .f64 X 4611686018427387904 with
                        | none =>
                          exfalso
                          obtain ⟨r, rfl, r0, r1, -⟩ := hs
                          obtain ⟨m', e', h1, -⟩ := read_word (sg D64 c) r1
                          have hv' : ((D64.read (D64.word (sg D64 c) r)).quotient (D64.fractionBits + 2) (D64.read 4611686018427387904)).map D64.write = none := hv
                          rw [h1, read_two] at hv'
                          cases hv'
                        | some Y =>
                          have e1 : fop .quo .f64 (some X) (some 4611686018427387904) = some Y := hv
                          rw [e1] at hX'
                          obtain rfl : Y = X' := hX'.some_eq
                          exact hs.down hk hv
                      · have q1 : decide (k < 0) = false := by simpa using hk
                        obtain rfl : k = 0 := by omega
                        have CC := Lib.hid (fun c hf => (hS.out c hf).done hf.1)
                        have FA := Lib.hid (fun hq => fmt_acc (y := X) (l := l) hX hq NE.out)
                        have FD := Lib.hid (fun w' => formatSpec_c (FV.of_lt (k := .f64) hX) w')
                        generalize hz : fmtD (cl .f64 X) = z at *
                        have ZZ := Lib.hid hz
                        clear hz
                        go_wp2_with fail
                        refine (FD.out _).mono ?_
                        rintro e w5 ⟨rfl, b5⟩
                        have B5 := (below_drewN' B1.out nn).trans (b5.mono (below_drewN' B1.out nn).size)
                        clear b5
                        by_cases hq : z = l
                        · have q1 : (z == l) = true := by simpa using hq
                          have FM := Lib.hid (FA.out hq)
                          clear hq
                          go_wp2_with fail
                          go_ret2
                          exact ACC.out _ _ B5 FM.out
                        · have q1 : (z == l) = false := by simpa using hq
                          have HQ := Lib.hid hq
                          clear hq
                          go_wp2_with fail
                          go_ret2
                          exact REJ.out _ B5 (fun ⟨c, hf⟩ => HQ.out (by
                            rw [← ZZ.out, CC.out c hf]
                            exact fmt_cl hf))
              · have d1 : decide (-1100 ≤ ex) = true := by simpa using k1
                have d2 : decide (ex ≤ 1100) = false := by simpa using k2
                go_wp2_with (go_at_call 27; go_in)
                go_ret2
                exact REJ.out _ (below_drewN' B1.out _) (fun ⟨c, hf⟩ => by have := (GG.out c hf).2.2.2.2.2.1; omega)
            · have d1 : decide (-1100 ≤ ex) = false := by simpa using k1
              go_wp2_with (go_at_call 27; go_in)
              go_ret2
              exact REJ.out _ (below_drewN' B1.out _) (fun ⟨c, hf⟩ => by have := (GG.out c hf).2.2.2.2.1; omega)
      · have t3 : ((n : Int) == 2) = false := by simp; omega
        have t3' : ((n : Int) != 2) = true := by show (!_) = true; rw [t3]; rfl
        go_wp2_with fail
        go_ret2
        exact REJ.out _ B1.out (fun ⟨c, hf⟩ => h2 (by have := HC.out.1; rw [(G0.out c hf).1] at this; exact this))
end Go.Proofs.YtjamceoofgfokaaDoor
