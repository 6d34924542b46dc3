import Derived.Test.YtjamceoofgfokaaDoorSplit
namespace Go.Fl
open Go Go.Proofs.YtjamceoofgfokaaDoor

/-- The value of digits. -/
def dval (l : List UInt8) : Nat := l.foldl (fun a c => a * 10 + (c.toNat - 48)) 0
theorem dval_snoc (l : List UInt8) (c : UInt8) : dval (l ++ [c]) = dval l * 10 + (c.toNat - 48) := by unfold dval; rw [List.foldl_append]; rfl

theorem dval_lt (l : List UInt8) : (∀ c ∈ l, isDig c) → dval l < 10 ^ l.length := by
  intro h
  have key : ∀ (r : List UInt8), (∀ c ∈ r.reverse, isDig c) → dval r.reverse < 10 ^ r.reverse.length := by
    intro r
    induction r with
    | nil => intro _; decide
    | cons c r ih =>
      intro h
      rw [List.reverse_cons] at h ⊢
      rw [dval_snoc, List.length_append, List.length_singleton, Nat.pow_succ]
      have h1 := ih (fun d hd => h d (by simp [List.mem_append] at hd ⊢; exact Or.inl hd))
      have h2 : isDig c := h c (by simp)
      unfold isDig at h2
      omega
  have := key l.reverse
  rw [List.reverse_reverse] at this
  exact this h

theorem dval_dec (k : Nat) : dval (Lib.decDigits k) = k := by
  refine dec_ind (p := fun k => dval (Lib.decDigits k) = k) ?_ ?_ k
  · intro k h
    rw [dec_small h]
    show 0 * 10 + ((digitOf k).toNat - 48) = k
    rw [digit_nat]
    omega
  · intro k h ih
    rw [dec_big h, dval_snoc, ih, digit_nat]
    omega

theorem dec_len {N : Nat} (h : N < 10 ^ 17) : 1 ≤ (Lib.decDigits N).length ∧ (Lib.decDigits N).length ≤ 17 := by
  rw [Lib.decDigits_length]
  exact ⟨Lib.nDigits_pos N, nDigits_le 16 N h⟩

/-- The first digit of a number of several digits is not 0. -/
theorem dec_first (k : Nat) : 10 ≤ k → ∃ c r, Lib.decDigits k = c :: r ∧ c ≠ 48 := by
  refine dec_ind (p := fun k => 10 ≤ k → ∃ c r, Lib.decDigits k = c :: r ∧ c ≠ 48) ?_ ?_ k
  · intro k h1 h2; omega
  · intro k h ih _
    by_cases h9 : k / 10 < 10
    · rw [dec_big h, dec_small h9]
      refine ⟨_, _, rfl, fun h48 => ?_⟩
      have := digit_nat (k / 10)
      rw [h48] at this
      have h3 : (48 : UInt8).toNat = 48 := rfl
      omega
    · obtain ⟨c, r, hc, hne⟩ := ih (by omega)
      rw [dec_big h, hc]
      exact ⟨c, _, rfl, hne⟩

theorem read_next {l : List UInt8} {I : Nat} (hlt : I < l.length) (h : ∀ c ∈ l.take I, isDig c) (hd : isDig l[I]) : (∀ c ∈ l.take (I + 1), isDig c) ∧ dval (l.take (I + 1)) = dval (l.take I) * 10 + (l[I].toNat - 48) := by
  have e : l.take (I + 1) = l.take I ++ [l[I]] := by rw [List.take_add_one, List.getElem?_eq_getElem hlt]; rfl
  rw [e]
  refine ⟨fun c hc => ?_, dval_snoc _ _⟩
  rcases List.mem_append.1 hc with hc | hc
  · exact h c hc
  · rw [List.mem_singleton.1 hc]; exact hd

theorem byte_eq {l : List UInt8} {i : Nat} (h : i < l.length) (n : Nat) (hn : n < 256) (hc : l[i] = UInt8.ofNat n) : ((((⟨l.toArray⟩ : ByteArray)[i]'h).toNat : Int) == (n : Int)) = true := by
  show ((l[i].toNat : Int) == (n : Int)) = true
  rw [hc, UInt8.toNat_ofNat', Nat.mod_eq_of_lt hn]
  simp
theorem byte_ne {l : List UInt8} {i : Nat} (h : i < l.length) (n : Nat) (hn : n < 256) (hc : l[i] ≠ UInt8.ofNat n) : ((((⟨l.toArray⟩ : ByteArray)[i]'h).toNat : Int) == (n : Int)) = false := by
  show ((l[i].toNat : Int) == (n : Int)) = false
  have h1 : l[i].toNat ≠ n := fun he => hc (by
    apply UInt8.toNat_inj.1
    rw [he, UInt8.toNat_ofNat', Nat.mod_eq_of_lt hn])
  simp; omega
end Go.Fl
namespace Go.Proofs.YtjamceoofgfokaaDoor
open Go.RowKit Go.Fl

/-- A call that reads a natural number. -/
def RetRd0 (l : List UInt8) (w : World) (e : Ending) (w' : World) : Prop :=
  ∃ (n : Nat) (t : Bool), e = .returned (.tuple #[.int .i64 n, .bool t]) ∧ n < 10 ^ 17 ∧ (∀ N, N < 10 ^ 17 → l = Lib.decDigits N → n = N ∧ t = true) ∧ ∃ k, w' = w.drewN k

set_option maxRecDepth 10000 in
set_option maxHeartbeats 4000000 in
theorem l1Read_pos {l : List UInt8} (hl : l.length ≤ 1048576) (hns : ∀ (h : 1 < l.length), l[0] = 45 → l[1] = 45) (w : World) :
    Calls Tryd.prog 26 #[.string ⟨l.toArray⟩] w (RetRd0 l w) := by
  have rej : (∀ N, N < 10 ^ 17 → l ≠ Lib.decDigits N) → RetRd0 l w (.returned (.tuple #[.int .i64 0, .bool false])) w := fun h => ⟨0, false, rfl, by decide, fun N hN hh => absurd hh (h N hN), 0, rfl⟩
  have RJ := Lib.hid rej
  clear rej
  by_cases hA : l.length = 0
  · have l0 : l = [] := List.length_eq_zero_iff.1 hA
    have RR := Lib.hid (RJ.out (fun N hN h => by have := (dec_len hN).1; rw [← h] at this; omega))
    have g0 : decide (1 < (l.length : Int)) = false := by simp; omega
    have k1 : decide ((l.length : Int) < 1) = true := by simp; omega
    subst l0
    clear hns
    go_enter Tryd.func26, Tryd.ntmps26
    go_wp2_with fail
    go_ret2
    exact RR.out
  · by_cases hB : 17 < l.length
    · have RR := Lib.hid (RJ.out (fun N hN h => by have := (dec_len hN).2; rw [← h] at this; omega))
      have k1 : decide ((l.length : Int) < 1) = false := by simp; omega
      have k2 : decide (17 < (l.length : Int)) = true := by simp; omega
      by_cases hc0 : l[0] = UInt8.ofNat 45
      · have hc1 : l[1] = UInt8.ofNat 45 := hns (by omega) hc0
        have g0 : decide (1 < (l.length : Int)) = true := by simp; omega
        have g1 : ((((⟨l.toArray⟩ : ByteArray)[0]'(by show 0 < l.length; omega)).toNat : Int) == 45) = true := byte_eq (by omega) 45 (by decide) hc0
        have g2 : ((((⟨l.toArray⟩ : ByteArray)[1]'(by show 1 < l.length; omega)).toNat : Int) == 45) = true := byte_eq (by omega) 45 (by decide) hc1
        have g2' : ((((⟨l.toArray⟩ : ByteArray)[1]'(by show 1 < l.length; omega)).toNat : Int) != 45) = false := by show (!_) = false; rw [g2]; rfl
        clear hns hc0 hc1
        go_enter Tryd.func26, Tryd.ntmps26
        go_wp2_with fail
        go_ret2
        exact RR.out
      · have g0 : decide (1 < (l.length : Int)) = true := by simp; omega
        have g1 : ((((⟨l.toArray⟩ : ByteArray)[0]'(by show 0 < l.length; omega)).toNat : Int) == 45) = false := byte_ne (by omega) 45 (by decide) hc0
        clear hns hc0
        go_enter Tryd.func26, Tryd.ntmps26
        go_wp2_with fail
        go_ret2
        exact RR.out
    · by_cases h1 : l.length = 1
      · by_cases hz : l[0] = UInt8.ofNat 48
        · have z0 : ((((⟨l.toArray⟩ : ByteArray)[0]'(by show 0 < l.length; omega)).toNat : Int) == 48) = true := byte_eq (by omega) 48 (by decide) hz
          have g0 : decide (1 < (l.length : Int)) = false := by simp; omega
          clear hns RJ hz
          have z1 : (1 : Nat) = 1 := rfl
          have k1 : decide ((l.length : Int) < 1) = false := by simp; omega
          have k2 : decide (17 < (l.length : Int)) = false := by simp; omega
          go_enter Tryd.func26, Tryd.ntmps26
          go_wp2_with fail
          go_loopw [6, 7] (fun n i wr => ∃ I : Nat, n = .int .i64 (dval (l.take I) : Nat) ∧ i = .int .i64 I ∧ Hid (I ≤ l.length ∧ (∀ c ∈ l.take I, isDig c)) ∧ wr = w) (fun _ i _ => l.length - (intOf i).toNat)
          case atStart => exact ⟨0, rfl, rfl, Lib.hid ⟨Nat.zero_le _, by simp⟩, rfl⟩
          case round =>
            obtain ⟨I, rfl, rfl, hst, rfl⟩ := hrel
            have hI := hst.out.1
            have hv := dval_lt (l.take I) hst.out.2
            have hv2 : dval (l.take I) < 10 ^ 17 := Nat.lt_of_lt_of_le hv (Nat.pow_le_pow_right (by decide) (by simp; omega))
            rcases Nat.lt_or_eq_of_le hI with hlt | heq
            · have d1 : decide ((I : Int) < (l.length : Int)) = true := by simpa using hlt
              by_cases hd : isDig l[I]
              · have ST := Lib.hid (read_next hlt hst.out.2 hd)
                have hv3 := dval_lt (l.take (I + 1)) ST.out.1
                have hv4 : dval (l.take (I + 1)) < 10 ^ 17 := Nat.lt_of_lt_of_le hv3 (Nat.pow_le_pow_right (by decide) (by simp; omega))
                obtain ⟨b, hb⟩ : ∃ b : Nat, l[I].toNat = b := ⟨_, rfl⟩
                have hb0 : 48 ≤ b := by rw [← hb]; exact hd.1
                have hb1 : b ≤ 57 := by rw [← hb]; exact hd.2
                have q : (((⟨l.toArray⟩ : ByteArray)[I]'hlt).toNat : Nat) = b := hb
                have q1 : decide ((b : Int) < 48) = false := by simp; omega
                have q2 : decide (57 < (b : Int)) = false := by simp; omega
                have e10 : dval (l.take (I + 1)) = dval (l.take I) * 10 + (b - 48) := by rw [← hb]; exact ST.out.2
                have E10 := Lib.hid e10
                have HH := Lib.hid hst.out
                generalize hX : dval (l.take I) = X at *
                clear hv hv3 hb hd e10 hst
                go_wp2_with fail
                exact ⟨⟨I + 1, by rw [E10.out]; go_num, by go_num, Lib.hid ⟨hlt, ST.out.1⟩, trivial⟩, by simp [intOf]; omega⟩
              · obtain ⟨b, hb⟩ : ∃ b : Nat, l[I].toNat = b := ⟨_, rfl⟩
                have q : (((⟨l.toArray⟩ : ByteArray)[I]'hlt).toNat : Nat) = b := hb
                have HD := Lib.hid hd
                have hbr : b < 48 ∨ 57 < b := by unfold isDig at hd; omega
                clear hd hb
                have FIN : RetRd0 l wr (.returned (.tuple #[.int .i64 0, .bool false])) wr := ⟨0, false, rfl, by decide, fun N _ h => absurd (by have := dec_digits N l[I]; rw [← h] at this; exact this (List.getElem_mem hlt)) HD.out, 0, rfl⟩
                have FF := Lib.hid FIN
                clear FIN
                rcases hbr with hbr | hbr
                · have q1 : decide ((b : Int) < 48) = true := by simp; omega
                  go_wp2_with fail
                  go_ret2
                  exact FF.out
                · have q1 : decide ((b : Int) < 48) = false := by simp; omega
                  have q2 : decide (57 < (b : Int)) = true := by simp; omega
                  go_wp2_with fail
                  go_ret2
                  exact FF.out
            · subst heq
              have d1 : decide ((l.length : Int) < (l.length : Int)) = false := by simp
              rw [List.take_of_length_le (Nat.le_refl _)] at hv2
              have HV := Lib.hid hv2
              have e1 : dval (l.take l.length) = dval l := by rw [List.take_of_length_le (Nat.le_refl _)]
              have E1 := Lib.hid e1
              clear hv hv2 e1
              go_wp2_with fail
              go_ret2
              refine ⟨dval l, true, by rw [← E1.out]; rfl, HV.out, fun N hN h => ⟨by rw [h]; exact dval_dec N, rfl⟩, 0, rfl⟩
        · have z0 : ((((⟨l.toArray⟩ : ByteArray)[0]'(by show 0 < l.length; omega)).toNat : Int) == 48) = false := byte_ne (by omega) 48 (by decide) hz
          have g0 : decide (1 < (l.length : Int)) = false := by simp; omega
          clear hns RJ hz
          have z1 : (1 : Nat) = 1 := rfl
          have k1 : decide ((l.length : Int) < 1) = false := by simp; omega
          have k2 : decide (17 < (l.length : Int)) = false := by simp; omega
          go_enter Tryd.func26, Tryd.ntmps26
          go_wp2_with fail
          go_loopw [6, 7] (fun n i wr => ∃ I : Nat, n = .int .i64 (dval (l.take I) : Nat) ∧ i = .int .i64 I ∧ Hid (I ≤ l.length ∧ (∀ c ∈ l.take I, isDig c)) ∧ wr = w) (fun _ i _ => l.length - (intOf i).toNat)
          case atStart => exact ⟨0, rfl, rfl, Lib.hid ⟨Nat.zero_le _, by simp⟩, rfl⟩
          case round =>
            obtain ⟨I, rfl, rfl, hst, rfl⟩ := hrel
            have hI := hst.out.1
            have hv := dval_lt (l.take I) hst.out.2
            have hv2 : dval (l.take I) < 10 ^ 17 := Nat.lt_of_lt_of_le hv (Nat.pow_le_pow_right (by decide) (by simp; omega))
            rcases Nat.lt_or_eq_of_le hI with hlt | heq
            · have d1 : decide ((I : Int) < (l.length : Int)) = true := by simpa using hlt
              by_cases hd : isDig l[I]
              · have ST := Lib.hid (read_next hlt hst.out.2 hd)
                have hv3 := dval_lt (l.take (I + 1)) ST.out.1
                have hv4 : dval (l.take (I + 1)) < 10 ^ 17 := Nat.lt_of_lt_of_le hv3 (Nat.pow_le_pow_right (by decide) (by simp; omega))
                obtain ⟨b, hb⟩ : ∃ b : Nat, l[I].toNat = b := ⟨_, rfl⟩
                have hb0 : 48 ≤ b := by rw [← hb]; exact hd.1
                have hb1 : b ≤ 57 := by rw [← hb]; exact hd.2
                have q : (((⟨l.toArray⟩ : ByteArray)[I]'hlt).toNat : Nat) = b := hb
                have q1 : decide ((b : Int) < 48) = false := by simp; omega
                have q2 : decide (57 < (b : Int)) = false := by simp; omega
                have e10 : dval (l.take (I + 1)) = dval (l.take I) * 10 + (b - 48) := by rw [← hb]; exact ST.out.2
                have E10 := Lib.hid e10
                have HH := Lib.hid hst.out
                generalize hX : dval (l.take I) = X at *
                clear hv hv3 hb hd e10 hst
                go_wp2_with fail
                exact ⟨⟨I + 1, by rw [E10.out]; go_num, by go_num, Lib.hid ⟨hlt, ST.out.1⟩, trivial⟩, by simp [intOf]; omega⟩
              · obtain ⟨b, hb⟩ : ∃ b : Nat, l[I].toNat = b := ⟨_, rfl⟩
                have q : (((⟨l.toArray⟩ : ByteArray)[I]'hlt).toNat : Nat) = b := hb
                have HD := Lib.hid hd
                have hbr : b < 48 ∨ 57 < b := by unfold isDig at hd; omega
                clear hd hb
                have FIN : RetRd0 l wr (.returned (.tuple #[.int .i64 0, .bool false])) wr := ⟨0, false, rfl, by decide, fun N _ h => absurd (by have := dec_digits N l[I]; rw [← h] at this; exact this (List.getElem_mem hlt)) HD.out, 0, rfl⟩
                have FF := Lib.hid FIN
                clear FIN
                rcases hbr with hbr | hbr
                · have q1 : decide ((b : Int) < 48) = true := by simp; omega
                  go_wp2_with fail
                  go_ret2
                  exact FF.out
                · have q1 : decide ((b : Int) < 48) = false := by simp; omega
                  have q2 : decide (57 < (b : Int)) = true := by simp; omega
                  go_wp2_with fail
                  go_ret2
                  exact FF.out
            · subst heq
              have d1 : decide ((l.length : Int) < (l.length : Int)) = false := by simp
              rw [List.take_of_length_le (Nat.le_refl _)] at hv2
              have HV := Lib.hid hv2
              have e1 : dval (l.take l.length) = dval l := by rw [List.take_of_length_le (Nat.le_refl _)]
              have E1 := Lib.hid e1
              clear hv hv2 e1
              go_wp2_with fail
              go_ret2
              refine ⟨dval l, true, by rw [← E1.out]; rfl, HV.out, fun N hN h => ⟨by rw [h]; exact dval_dec N, rfl⟩, 0, rfl⟩
      · by_cases hz : l[0] = UInt8.ofNat 48
        · have hc0 : l[0] ≠ UInt8.ofNat 45 := by rw [hz]; decide
          have RR := Lib.hid (RJ.out (fun N hN h => by
            have h10 : 10 ≤ N := by
              refine Nat.not_lt.1 fun h9 => ?_
              rw [dec_small h9] at h
              rw [h] at h1
              exact h1 rfl
            obtain ⟨c, r, hc, hne⟩ := dec_first N h10
            rw [hc] at h
            subst h
            exact hne hz))
          have k1 : decide ((l.length : Int) < 1) = false := by simp; omega
          have k2 : decide (17 < (l.length : Int)) = false := by simp; omega
          have z0 : ((((⟨l.toArray⟩ : ByteArray)[0]'(by show 0 < l.length; omega)).toNat : Int) == 48) = true := byte_eq (by omega) 48 (by decide) hz
          have g0 : decide (1 < (l.length : Int)) = true := by simp; omega
          have g1 : ((((⟨l.toArray⟩ : ByteArray)[0]'(by show 0 < l.length; omega)).toNat : Int) == 45) = false := byte_ne (by omega) 45 (by decide) hc0
          clear hns hc0 hz
          go_enter Tryd.func26, Tryd.ntmps26
          go_wp2_with fail
          go_ret2
          exact RR.out
        · have z0 : ((((⟨l.toArray⟩ : ByteArray)[0]'(by show 0 < l.length; omega)).toNat : Int) == 48) = false := byte_ne (by omega) 48 (by decide) hz
          by_cases hc0 : l[0] = UInt8.ofNat 45
          · have hc1 : l[1] = UInt8.ofNat 45 := hns (by omega) hc0
            have g0 : decide (1 < (l.length : Int)) = true := by simp; omega
            have g1 : ((((⟨l.toArray⟩ : ByteArray)[0]'(by show 0 < l.length; omega)).toNat : Int) == 45) = true := byte_eq (by omega) 45 (by decide) hc0
            have g2 : ((((⟨l.toArray⟩ : ByteArray)[1]'(by show 1 < l.length; omega)).toNat : Int) == 45) = true := byte_eq (by omega) 45 (by decide) hc1
            have g2' : ((((⟨l.toArray⟩ : ByteArray)[1]'(by show 1 < l.length; omega)).toNat : Int) != 45) = false := by show (!_) = false; rw [g2]; rfl
            clear hns hc0 hc1 hz RJ
            have z1 : (1 : Nat) = 1 := rfl
            have k1 : decide ((l.length : Int) < 1) = false := by simp; omega
            have k2 : decide (17 < (l.length : Int)) = false := by simp; omega
            go_enter Tryd.func26, Tryd.ntmps26
            go_wp2_with fail
            go_loopw [6, 7] (fun n i wr => ∃ I : Nat, n = .int .i64 (dval (l.take I) : Nat) ∧ i = .int .i64 I ∧ Hid (I ≤ l.length ∧ (∀ c ∈ l.take I, isDig c)) ∧ wr = w) (fun _ i _ => l.length - (intOf i).toNat)
            case atStart => exact ⟨0, rfl, rfl, Lib.hid ⟨Nat.zero_le _, by simp⟩, rfl⟩
            case round =>
              obtain ⟨I, rfl, rfl, hst, rfl⟩ := hrel
              have hI := hst.out.1
              have hv := dval_lt (l.take I) hst.out.2
              have hv2 : dval (l.take I) < 10 ^ 17 := Nat.lt_of_lt_of_le hv (Nat.pow_le_pow_right (by decide) (by simp; omega))
              rcases Nat.lt_or_eq_of_le hI with hlt | heq
              · have d1 : decide ((I : Int) < (l.length : Int)) = true := by simpa using hlt
                by_cases hd : isDig l[I]
                · have ST := Lib.hid (read_next hlt hst.out.2 hd)
                  have hv3 := dval_lt (l.take (I + 1)) ST.out.1
                  have hv4 : dval (l.take (I + 1)) < 10 ^ 17 := Nat.lt_of_lt_of_le hv3 (Nat.pow_le_pow_right (by decide) (by simp; omega))
                  obtain ⟨b, hb⟩ : ∃ b : Nat, l[I].toNat = b := ⟨_, rfl⟩
                  have hb0 : 48 ≤ b := by rw [← hb]; exact hd.1
                  have hb1 : b ≤ 57 := by rw [← hb]; exact hd.2
                  have q : (((⟨l.toArray⟩ : ByteArray)[I]'hlt).toNat : Nat) = b := hb
                  have q1 : decide ((b : Int) < 48) = false := by simp; omega
                  have q2 : decide (57 < (b : Int)) = false := by simp; omega
                  have e10 : dval (l.take (I + 1)) = dval (l.take I) * 10 + (b - 48) := by rw [← hb]; exact ST.out.2
                  have E10 := Lib.hid e10
                  have HH := Lib.hid hst.out
                  generalize hX : dval (l.take I) = X at *
                  clear hv hv3 hb hd e10 hst
                  go_wp2_with fail
                  exact ⟨⟨I + 1, by rw [E10.out]; go_num, by go_num, Lib.hid ⟨hlt, ST.out.1⟩, trivial⟩, by simp [intOf]; omega⟩
                · obtain ⟨b, hb⟩ : ∃ b : Nat, l[I].toNat = b := ⟨_, rfl⟩
                  have q : (((⟨l.toArray⟩ : ByteArray)[I]'hlt).toNat : Nat) = b := hb
                  have HD := Lib.hid hd
                  have hbr : b < 48 ∨ 57 < b := by unfold isDig at hd; omega
                  clear hd hb
                  have FIN : RetRd0 l wr (.returned (.tuple #[.int .i64 0, .bool false])) wr := ⟨0, false, rfl, by decide, fun N _ h => absurd (by have := dec_digits N l[I]; rw [← h] at this; exact this (List.getElem_mem hlt)) HD.out, 0, rfl⟩
                  have FF := Lib.hid FIN
                  clear FIN
                  rcases hbr with hbr | hbr
                  · have q1 : decide ((b : Int) < 48) = true := by simp; omega
                    go_wp2_with fail
                    go_ret2
                    exact FF.out
                  · have q1 : decide ((b : Int) < 48) = false := by simp; omega
                    have q2 : decide (57 < (b : Int)) = true := by simp; omega
                    go_wp2_with fail
                    go_ret2
                    exact FF.out
              · subst heq
                have d1 : decide ((l.length : Int) < (l.length : Int)) = false := by simp
                rw [List.take_of_length_le (Nat.le_refl _)] at hv2
                have HV := Lib.hid hv2
                have e1 : dval (l.take l.length) = dval l := by rw [List.take_of_length_le (Nat.le_refl _)]
                have E1 := Lib.hid e1
                clear hv hv2 e1
                go_wp2_with fail
                go_ret2
                refine ⟨dval l, true, by rw [← E1.out]; rfl, HV.out, fun N hN h => ⟨by rw [h]; exact dval_dec N, rfl⟩, 0, rfl⟩
          · have g0 : decide (1 < (l.length : Int)) = true := by simp; omega
            have g1 : ((((⟨l.toArray⟩ : ByteArray)[0]'(by show 0 < l.length; omega)).toNat : Int) == 45) = false := byte_ne (by omega) 45 (by decide) hc0
            clear hns hc0 hz RJ
            have z1 : (1 : Nat) = 1 := rfl
            have k1 : decide ((l.length : Int) < 1) = false := by simp; omega
            have k2 : decide (17 < (l.length : Int)) = false := by simp; omega
            go_enter Tryd.func26, Tryd.ntmps26
            go_wp2_with fail
            go_loopw [6, 7] (fun n i wr => ∃ I : Nat, n = .int .i64 (dval (l.take I) : Nat) ∧ i = .int .i64 I ∧ Hid (I ≤ l.length ∧ (∀ c ∈ l.take I, isDig c)) ∧ wr = w) (fun _ i _ => l.length - (intOf i).toNat)
            case atStart => exact ⟨0, rfl, rfl, Lib.hid ⟨Nat.zero_le _, by simp⟩, rfl⟩
            case round =>
              obtain ⟨I, rfl, rfl, hst, rfl⟩ := hrel
              have hI := hst.out.1
              have hv := dval_lt (l.take I) hst.out.2
              have hv2 : dval (l.take I) < 10 ^ 17 := Nat.lt_of_lt_of_le hv (Nat.pow_le_pow_right (by decide) (by simp; omega))
              rcases Nat.lt_or_eq_of_le hI with hlt | heq
              · have d1 : decide ((I : Int) < (l.length : Int)) = true := by simpa using hlt
                by_cases hd : isDig l[I]
                · have ST := Lib.hid (read_next hlt hst.out.2 hd)
                  have hv3 := dval_lt (l.take (I + 1)) ST.out.1
                  have hv4 : dval (l.take (I + 1)) < 10 ^ 17 := Nat.lt_of_lt_of_le hv3 (Nat.pow_le_pow_right (by decide) (by simp; omega))
                  obtain ⟨b, hb⟩ : ∃ b : Nat, l[I].toNat = b := ⟨_, rfl⟩
                  have hb0 : 48 ≤ b := by rw [← hb]; exact hd.1
                  have hb1 : b ≤ 57 := by rw [← hb]; exact hd.2
                  have q : (((⟨l.toArray⟩ : ByteArray)[I]'hlt).toNat : Nat) = b := hb
                  have q1 : decide ((b : Int) < 48) = false := by simp; omega
                  have q2 : decide (57 < (b : Int)) = false := by simp; omega
                  have e10 : dval (l.take (I + 1)) = dval (l.take I) * 10 + (b - 48) := by rw [← hb]; exact ST.out.2
                  have E10 := Lib.hid e10
                  have HH := Lib.hid hst.out
                  generalize hX : dval (l.take I) = X at *
                  clear hv hv3 hb hd e10 hst
                  go_wp2_with fail
                  exact ⟨⟨I + 1, by rw [E10.out]; go_num, by go_num, Lib.hid ⟨hlt, ST.out.1⟩, trivial⟩, by simp [intOf]; omega⟩
                · obtain ⟨b, hb⟩ : ∃ b : Nat, l[I].toNat = b := ⟨_, rfl⟩
                  have q : (((⟨l.toArray⟩ : ByteArray)[I]'hlt).toNat : Nat) = b := hb
                  have HD := Lib.hid hd
                  have hbr : b < 48 ∨ 57 < b := by unfold isDig at hd; omega
                  clear hd hb
                  have FIN : RetRd0 l wr (.returned (.tuple #[.int .i64 0, .bool false])) wr := ⟨0, false, rfl, by decide, fun N _ h => absurd (by have := dec_digits N l[I]; rw [← h] at this; exact this (List.getElem_mem hlt)) HD.out, 0, rfl⟩
                  have FF := Lib.hid FIN
                  clear FIN
                  rcases hbr with hbr | hbr
                  · have q1 : decide ((b : Int) < 48) = true := by simp; omega
                    go_wp2_with fail
                    go_ret2
                    exact FF.out
                  · have q1 : decide ((b : Int) < 48) = false := by simp; omega
                    have q2 : decide (57 < (b : Int)) = true := by simp; omega
                    go_wp2_with fail
                    go_ret2
                    exact FF.out
              · subst heq
                have d1 : decide ((l.length : Int) < (l.length : Int)) = false := by simp
                rw [List.take_of_length_le (Nat.le_refl _)] at hv2
                have HV := Lib.hid hv2
                have e1 : dval (l.take l.length) = dval l := by rw [List.take_of_length_le (Nat.le_refl _)]
                have E1 := Lib.hid e1
                clear hv hv2 e1
                go_wp2_with fail
                go_ret2
                refine ⟨dval l, true, by rw [← E1.out]; rfl, HV.out, fun N hN h => ⟨by rw [h]; exact dval_dec N, rfl⟩, 0, rfl⟩
end Go.Proofs.YtjamceoofgfokaaDoor
