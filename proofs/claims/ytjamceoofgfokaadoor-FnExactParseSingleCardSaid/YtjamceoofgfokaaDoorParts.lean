import Derived.Test.YtjamceoofgfokaaDoorL1Num
namespace Go.Fl
open Go
theorem U_zero : U 0 = 1 := rfl
theorem U_succ (n : Nat) : U (n + 1) = 2 * U n := by show 2 ^ (n + 1) = 2 * 2 ^ n; rw [Nat.pow_succ, Nat.mul_comm]
theorem U_lt {m n : Nat} (h : U m < U n) : m < n := (Nat.pow_lt_pow_iff_right (a := 2) (by decide)).1 h
theorem V_C53' : V D64 C53 = U 53 * U 1074 := by decide +kernel
theorem U_mul3 (a b j : Nat) : U (a + b + j) = U a * U b * U j := by rw [U_add, U_add]
theorem V_lt_U {r : Nat} (h : r < D64.infRung) : V D64 r < U 2200 := Nat.lt_of_lt_of_le (V_lt D64 h) (by decide +kernel)

theorem big_whole {s : Nat} (h : s < D64.infRung) (hb : 2 ^ 52 * U 1074 ≤ V D64 s) : V D64 s % U 1074 = 0 := by
  obtain ⟨m, e, -, h2, -, h4⟩ := read_pos h
  have he : 1074 ≤ e := by
    refine Nat.le_of_lt_succ (U_lt ?_)
    have k1 : 2 ^ 52 * U 1074 < 2 ^ 53 * U e := by
      have : m * 2 ^ e < 2 ^ 53 * U e := Nat.mul_lt_mul_of_pos_right (by omega) (U_pos e)
      rw [h2] at this
      omega
    show U 1074 < U (e + 1)
    rw [U_succ e]
    omega
  obtain ⟨d, rfl⟩ : ∃ d, e = d + 1074 := ⟨e - 1074, by omega⟩
  rw [← h2]
  show m * U (d + 1074) % U 1074 = 0
  rw [U_add, ← Nat.mul_assoc]
  exact Nat.mul_mod_left _ _

/-- What the loops of l1Parts keep. -/
def Parts1 (N s j : Nat) : Prop := 0 < s ∧ s < D64.infRung ∧ V D64 s * U j = N ∧ j ≤ 2200
def Parts2 (N j s i : Nat) : Prop := 0 < s ∧ s < C53 ∧ V D64 s * U j = N * U i ∧ i ≤ 4000
def Parts3 (N j i k t : Nat) : Prop := 0 < k ∧ k < 2 ^ 53 ∧ k * U (1074 + j + t) = N * U i ∧ t ≤ 8000

theorem Parts1.bound {s j N : Nat} (hN : N < U 2200) (hs : 0 < s) (h : V D64 s * U j = N) : j ≤ 2200 := by
  refine Nat.le_of_lt (U_lt (Nat.lt_of_le_of_lt ?_ hN))
  rw [← h]
  exact Nat.le_mul_of_pos_left _ (V_pos hs)

theorem Parts1.next {N s j : Nat} (hN : N < U 2200) (h : Parts1 N s j) (hc : C53 ≤ s) : floatBits .quo .f64 s 4611686018427387904 = some (s - D64.binade) ∧ Parts1 N (s - D64.binade) (j + 1) := by
  obtain ⟨h0, h1, h2, h3⟩ := h
  have hB := C53_B
  have hB2 := D_B
  obtain ⟨a, b⟩ := halve_word (r := s) (by omega) h1
  have e : V D64 (s - D64.binade) * U (j + 1) = N := by rw [U_succ, ← h2, b, Nat.mul_comm 2 (U j), ← Nat.mul_assoc, Nat.mul_comm _ 2, ← Nat.mul_assoc]
  have hp : 0 < s - D64.binade := by omega
  exact ⟨a, hp, by omega, e, Parts1.bound hN hp e⟩

theorem Parts1.stop {N s j : Nat} (h : Parts1 N s j) (hc : s < C53) : Parts2 N j s 0 := ⟨h.1, hc, by rw [h.2.2.1, U_zero, Nat.mul_one], by omega⟩

theorem Parts2.next {N s j i : Nat} (hN : 0 < N) (hj : j ≤ 2200) (h : Parts2 N j s i) (hc : ¬ V D64 s % U 1074 = 0) : ∃ s', floatBits .mul .f64 s 4611686018427387904 = some s' ∧ s < s' ∧ s' < C53 ∧ Parts2 N j s' (i + 1) := by
  obtain ⟨h0, h1, h2, h3⟩ := h
  have hC : C53 + D64.binade < D64.infRung := by decide +kernel
  obtain ⟨s', a, b, c, d⟩ := double_word (r := s) h0 (by omega)
  have hlt : s' < C53 := by
    refine (V_lt_iff D64).1 ?_
    rw [b, V_C53]
    refine Nat.lt_of_not_le fun hb => hc (big_whole (by omega) ?_)
    omega
  have e : V D64 s' * U j = N * U (i + 1) := by rw [b, U_succ, Nat.mul_assoc, h2]; ac_rfl
  refine ⟨s', a, c, hlt, by omega, hlt, e, ?_⟩
  have k1 := V_lt D64 hlt
  rw [V_C53'] at k1
  have k2 : U (i + 1) < U (53 + 1074 + j) := by
    refine Nat.lt_of_le_of_lt (Nat.le_mul_of_pos_left _ hN) ?_
    rw [← e]
    exact Nat.lt_of_lt_of_eq (Nat.mul_lt_mul_of_pos_right k1 (U_pos j)) (U_mul3 53 1074 j).symm
  have := U_lt k2
  omega

theorem Parts2.stop {N s j i : Nat} (h : Parts2 N j s i) (hc : V D64 s % U 1074 = 0) : Parts3 N j i (V D64 s / U 1074) 0 := by
  obtain ⟨h0, h1, h2, h3⟩ := h
  have hd := Nat.div_add_mod (V D64 s) (U 1074)
  rw [hc, Nat.add_zero] at hd
  have hV := V_pos h0
  refine ⟨?_, (int_word h1).2, ?_, by omega⟩
  · rcases Nat.eq_zero_or_pos (V D64 s / U 1074) with h | h
    · rw [h, Nat.mul_zero] at hd; omega
    · exact h
  · rw [Nat.add_zero, U_add, ← h2, ← Nat.mul_assoc, Nat.mul_comm _ (U 1074), hd]

theorem Parts3.next {N j i k t : Nat} (hN : N < U 2200) (hi : i ≤ 4000) (h : Parts3 N j i k t) (hc : k % 2 = 0) : Parts3 N j i (k / 2) (t + 1) := by
  obtain ⟨h0, h1, h2, h3⟩ := h
  have hk : 0 < k / 2 := by omega
  have e : k / 2 * U (1074 + j + (t + 1)) = N * U i := by
    rw [← h2, ← Nat.add_assoc, U_succ, ← Nat.mul_assoc]
    congr 1
    omega
  refine ⟨hk, by omega, e, ?_⟩
  have k1 : U (1074 + j + (t + 1)) < U (2200 + i) := by
    refine Nat.lt_of_le_of_lt (Nat.le_mul_of_pos_left _ hk) ?_
    rw [e, U_add]
    exact Nat.mul_lt_mul_of_pos_right hN (U_pos i)
  have := U_lt k1
  omega

theorem Parts3.stop {N j i k t : Nat} (hN0 : 0 < N) (hN : N < U 2200) (h : Parts3 N j i k t) (hc : k % 2 = 1) : k = oddOf N ∧ (j : Int) - i + t = (twos N : Int) - 1074 := by
  obtain ⟨h0, h1, h2, h3⟩ := h
  obtain ⟨e1, e2⟩ := odd_is hN0 hN hc h2
  exact ⟨e1, by omega⟩
end Go.Fl
namespace Go.Proofs.YtjamceoofgfokaaDoor
open Go.RowKit Go.Fl

def RetParts (N : Nat) (w : World) (e : Ending) (w' : World) : Prop := e = .returned (.tuple #[.int .i64 (oddOf N), .int .i64 ((twos N : Int) - 1074)]) ∧ ∃ n, w' = w.drewN n

theorem under64i : (Tryd.prog.underlying 22).isSome = true := by kernel_rfl
theorem underInt : Tryd.prog.underlying 3 = some (.int .i64) := by kernel_rfl

set_option maxRecDepth 10000 in
set_option maxHeartbeats 4000000 in
theorem l1Parts_c {r : Nat} (h0 : 0 < r) (hr : r < D64.infRung) (w : World) :
    Calls Tryd.prog 17 #[.float .f64 r] w (RetParts (V D64 r) w) := by
  have hN := V_lt_U hr
  have hN0 := V_pos h0
  have P0 : Parts1 (V D64 r) r 0 := ⟨h0, hr, by rw [U_zero, Nat.mul_one], by omega⟩
  generalize V D64 r = N at *
  have HN := Lib.hid hN
  have HN0 := Lib.hid hN0
  have HP0 := Lib.hid P0
  clear hN hN0 h0 hr P0
  have u3 := under3
  go_enter Tryd.func17, Tryd.ntmps17
  go_wp2
  go_loopw [0, 4] (fun x e wr => ∃ s j : Nat, x = .float .f64 s ∧ e = .int .i64 j ∧ Hid (Parts1 N s j) ∧ j ≤ 2200 ∧ wr = w) (fun x _ _ => match x with | .float _ s => s | _ => 0)
  case atStart => exact ⟨r, 0, rfl, rfl, HP0, by omega, rfl⟩
  case round =>
    obtain ⟨s, j, rfl, rfl, hp, hj, rfl⟩ := hrel
    have hC : C53 < D64.infRung := by decide +kernel
    have hord : FloatKind.f64.format.order s 4845873199050653696 = some (compare s C53) := order_pos hp.out.2.1 hC
    by_cases hc : C53 ≤ s
    · have hge : (FloatKind.f64.format.order s 4845873199050653696 == some .gt || FloatKind.f64.format.order s 4845873199050653696 == some .eq) = true := by
        rw [hord]
        rcases Nat.lt_or_eq_of_le hc with h | h
        · rw [Nat.compare_eq_gt.2 h]; rfl
        · rw [Nat.compare_eq_eq.2 h.symm]; rfl
      obtain ⟨hq, hn⟩ := Parts1.next HN.out hp.out hc
      have hq' := fun w => run_float_arith (P := Tryd.prog) w .quo 22 .f64 s 4611686018427387904 _ hq
      have hn' := Lib.hid hn
      have hB := D_B
      have hB2 := C53_B
      have hj2 := hn.2.2.2
      clear hord hC hq hn
      go_wp2
      exact ⟨⟨s - D64.binade, j + 1, rfl, by go_num, hn', hj2, trivial⟩, by show s - D64.binade < s; have := hp.out.1; omega⟩
    · have hlt : s < C53 := by omega
      have hge : (FloatKind.f64.format.order s 4845873199050653696 == some .gt || FloatKind.f64.format.order s 4845873199050653696 == some .eq) = false := by
        rw [hord, Nat.compare_eq_lt.2 hlt]; rfl
      have hp2 := Lib.hid (Parts1.stop hp.out hlt)
      clear hord hC hp hc hlt HP0
      go_wp2
      go_loopw [0, 4] (fun x e wz => ∃ s i : Nat, x = .float .f64 s ∧ e = .int .i64 ((j : Int) - i) ∧ Hid (Parts2 N j s i) ∧ i ≤ 4000 ∧ wz = wr) (fun x _ _ => match x with | .float _ s => C53 - s | _ => 0)
      case atStart => exact ⟨s, 0, rfl, by go_num, hp2, by omega, rfl⟩
      case round =>
        obtain ⟨s, i, rfl, rfl, hp, hi, rfl⟩ := hrel
        have hC : C53 < D64.infRung := by decide +kernel
        have hs0 : 0 < s := hp.out.1
        have hsC : s < C53 := hp.out.2.1
        obtain ⟨hiv, hlt⟩ := int_word hsC
        obtain ⟨t, ht1, ht2, ht3⟩ := whole_word hs0 hsC
        have hint := fun w => run_convert_float_int (P := Tryd.prog) w 22 3 .f64 .i64 s _ under64i underInt hiv
        by_cases hc : V D64 s % U 1074 = 0
        · have hp3 := Lib.hid (Parts2.stop hp.out hc)
          have hk0 := hp3.out.2.1
          generalize V D64 s / U 1074 = k at *
          have heq : (FloatKind.f64.format.order s t != some .eq) = false := by
            show (!(D64.order s t == some .eq)) = false
            rw [ht3]; simpa using hc
          clear hC hs0 hsC hiv hlt ht2 ht3 hc hp hp2 hge
          go_wp2
          go_loopw [5, 4] (fun m e wz => ∃ k t : Nat, m = .int .i64 k ∧ e = .int .i64 ((j : Int) - i + t) ∧ Hid (Parts3 N j i k t) ∧ k < 2 ^ 53 ∧ t ≤ 8000 ∧ wz = wr) (fun m _ _ => (intOf m).toNat)
          case atStart => exact ⟨k, 0, rfl, by go_num, hp3, hk0, by omega, rfl⟩
          case round =>
            obtain ⟨k, t, rfl, rfl, hp, hk, ht, rfl⟩ := hrel
            have hkp : 0 < k := hp.out.1
            rcases Nat.mod_two_eq_zero_or_one k with hc | hc
            · have hn := Parts3.next HN.out hi hp.out hc
              have hn' := Lib.hid hn
              have ht2 := hn.2.2.2
              have hev : (((k : Int) % 2) == 0) = true := by simp; omega
              clear hn hp hp3
              go_wp2
              exact ⟨⟨k / 2, t + 1, by go_num, by go_num, hn', by omega, ht2, trivial⟩, by show ((k : Int) / 2).toNat < (k : Int).toNat; omega⟩
            · obtain ⟨e1, e2⟩ := Parts3.stop HN0.out HN.out hp.out hc
              have E := Lib.hid (And.intro e1 e2)
              have hev : (((k : Int) % 2) == 0) = false := by simp; omega
              clear e1 e2 hp hp3
              go_wp2
              go_ret2
              refine ⟨?_, 0, rfl⟩
              rw [← E.out.1, ← E.out.2]
              rfl
        · obtain ⟨s', hm, hlt', hlt2, hn⟩ := Parts2.next HN0.out hj hp.out hc
          have hm' := fun w => run_float_arith (P := Tryd.prog) w .mul 22 .f64 s 4611686018427387904 _ hm
          have hn' := Lib.hid hn
          have hi2 := hn.2.2.2
          have heq : (FloatKind.f64.format.order s t != some .eq) = true := by
            show (!(D64.order s t == some .eq)) = true
            rw [ht3]; simpa using hc
          generalize V D64 s / U 1074 = k at *
          clear hC hs0 hiv hlt ht2 ht3 hc hp hp2 hge hn hm
          go_wp2
          exact ⟨⟨s', i + 1, rfl, by go_num, hn', hi2, trivial⟩, by show C53 - s' < C53 - s; omega⟩
end Go.Proofs.YtjamceoofgfokaaDoor
