import Derived.Test.YtjamceoofgfokaaDoorReadN
namespace Go.Fl
open Go Go.Proofs.YtjamceoofgfokaaDoor

theorem read_word (s : Bool) {r : Nat} (h : r < D64.infRung) : ∃ m e : Nat, D64.read (D64.word s r) = .number s m (-1074 + e) ∧ m * 2 ^ e = V D64 r ∧ m < 2 * 2 ^ 52 := by
  have hs : r < D64.signWeight := Nat.lt_trans h (by decide +kernel)
  obtain ⟨m, e, h1, h2, -, h4⟩ := read_fin D64 (b := D64.word s r) (by rw [rg_word D64 hs]; exact h)
  rw [rg_word D64 hs] at h2
  rw [sg_word D64 hs, D_L] at h1
  exact ⟨m, e, h1, h2, h4⟩

theorem double_sign (s : Bool) {r r' : Nat} (h : r < D64.infRung) (h0 : 0 < r') (h' : r' < D64.infRung) (hV : V D64 r' = 2 * V D64 r) : floatBits .mul .f64 (D64.word s r) 4611686018427387904 = some (D64.word s r') := by
  obtain ⟨m, e, h1, h2, h4⟩ := read_word s h
  show ((D64.read (D64.word s r)).product (D64.read 4611686018427387904)).map D64.write = _
  rw [h1, read_two]
  show some (D64.nearest (s ^^ false) (m * 2 ^ 52) (-1074 + (e : Int) + -51)) = _
  rw [nearest_exact (s ^^ false) h0 h' ⟨e, 51, by
    show m * 2 ^ 52 * 2 ^ e = V D64 r' * 2 ^ 51
    rw [hV, ← h2, Nat.mul_assoc, Nat.mul_comm (2 ^ 52), ← Nat.mul_assoc]; generalize m * 2 ^ e = y; omega, by omega⟩, Bool.xor_false]

theorem halve_sign (s : Bool) {r r' : Nat} (hr0 : 0 < r) (h : r < D64.infRung) (h0 : 0 < r') (h' : r' < D64.infRung) (hV : V D64 r = 2 * V D64 r') : floatBits .quo .f64 (D64.word s r) 4611686018427387904 = some (D64.word s r') := by
  obtain ⟨m, e, h1, h2, h4⟩ := read_word s h
  have hm0 : m ≠ 0 := by
    rintro rfl
    have := V_pos hr0
    rw [Nat.zero_mul] at h2
    omega
  have hlog : m.log2 ≤ 52 := by have := (Nat.log2_lt hm0).2 (show m < 2 ^ 53 by omega); omega
  obtain ⟨k, hk⟩ : ∃ k, D64.fractionBits + 2 + (2 ^ 52 : Nat).log2 - m.log2 = k + 52 ∧ 2 ≤ k := ⟨D64.fractionBits + 2 + (2 ^ 52 : Nat).log2 - m.log2 - 52, by
    have e1 : D64.fractionBits + 2 + (2 ^ 52 : Nat).log2 = 106 := by decide +kernel
    omega⟩
  show ((D64.read (D64.word s r)).quotient (D64.fractionBits + 2) (D64.read 4611686018427387904)).map D64.write = _
  rw [h1, read_two]
  unfold Ieee.Datum.quotient
  dsimp only
  rw [if_neg (by decide), hk.1, Nat.shiftLeft_eq]
  have d0 : m * 2 ^ (k + 52) = m * 2 ^ k * 2 ^ 52 := by rw [Nat.pow_add, Nat.mul_assoc]
  have d1 : m * 2 ^ (k + 52) / 2 ^ 52 = m * 2 ^ k := by rw [d0]; exact Nat.mul_div_cancel _ (by decide)
  have d2 : m * 2 ^ (k + 52) % 2 ^ 52 = 0 := by rw [d0]; exact Nat.mul_mod_left _ _
  rw [d1, d2]
  show some (D64.nearest (s ^^ false) (2 * (m * 2 ^ k) + 0) (-1074 + (e : Int) - -51 - ((k + 52 : Nat) : Int) - 1)) = _
  rw [nearest_exact (s ^^ false) h0 h' ⟨e, k + 2, by
    show (2 * (m * 2 ^ k) + 0) * 2 ^ e = V D64 r' * 2 ^ (k + 2)
    have e3 : (2 * (m * 2 ^ k) + 0) * 2 ^ e = (m * 2 ^ e) * (2 * 2 ^ k) := by rw [Nat.add_zero]; generalize 2 ^ e = a; generalize 2 ^ k = b; ac_rfl
    rw [e3, h2, hV, Nat.pow_add]
    generalize 2 ^ k = b
    rw [show (2 : Nat) ^ 2 = 2 * 2 by decide]
    ac_rfl, by omega⟩, Bool.xor_false]

theorem half_ex {r : Nat} (hr : 0 < r) (h : r < D64.infRung) (he : V D64 r % 2 = 0) : ∃ r', 0 < r' ∧ r' < D64.infRung ∧ V D64 r = 2 * V D64 r' := by
  have hB := D_B
  by_cases h2 : 2 * D64.binade ≤ r
  · exact ⟨r - D64.binade, by omega, by omega, (halve_word h2 h).2⟩
  · have hV : V D64 r = r := by
      have := V_ek D64 (e := 0) (k := r) (Or.inl rfl) (by omega)
      rw [Nat.zero_mul, Nat.zero_add, Nat.pow_zero, Nat.mul_one] at this
      exact this
    have hV2 : V D64 (r / 2) = r / 2 := by unfold V; rw [if_pos (by omega)]
    exact ⟨r / 2, by omega, by omega, by rw [hV, hV2]; omega⟩

/-- What the loops of ParseDouble keep: X times 2^k is c. -/
def Scal (c X : Nat) (k : Int) : Prop := ∃ r, X = D64.word (sg D64 c) r ∧ 0 < r ∧ r < D64.infRung ∧ V D64 r * U k.toNat = V D64 (rg D64 c) * U (-k).toNat

theorem Scal.up {c X X' : Nat} {k : Int} (hc : rg D64 c < D64.infRung) (h : Scal c X k) (hk : 0 < k) (hx : floatBits .mul .f64 X 4611686018427387904 = some X') : Scal c X' (k - 1) := by
  obtain ⟨r, rfl, h0, h1, h2⟩ := h
  have e1 : (-k).toNat = 0 := by omega
  have e2 : k.toNat = (k - 1).toNat + 1 := by omega
  rw [e1, U_zero, Nat.mul_one, e2, U_succ] at h2
  have hle : 2 * V D64 r ≤ V D64 (rg D64 c) := by
    rw [← h2, Nat.mul_comm 2 (U _), ← Nat.mul_assoc, Nat.mul_comm _ 2]
    exact Nat.mul_le_mul_left 2 (Nat.le_mul_of_pos_right _ (U_pos _))
  have hlt : r + D64.binade < D64.infRung := by
    by_cases hb : D64.binade ≤ r
    · rw [← V_add hb] at hle
      refine Nat.lt_of_le_of_lt (Nat.not_lt.1 fun hh => ?_) hc
      have := V_lt D64 hh
      omega
    · rw [D_I]; rw [D_B] at hb ⊢; omega
  obtain ⟨r', -, b, c1, d⟩ := double_word h0 hlt
  rw [double_sign (sg D64 c) h1 (by omega) d b] at hx
  injection hx with hx
  refine ⟨r', hx.symm, by omega, d, ?_⟩
  rw [b, show (-(k - 1)).toNat = 0 by omega, U_zero, Nat.mul_one, ← h2]
  generalize U (k - 1).toNat = u
  ac_rfl

theorem Scal.down {c X X' : Nat} {k : Int} (h : Scal c X k) (hk : k < 0) (hx : floatBits .quo .f64 X 4611686018427387904 = some X') : Scal c X' (k + 1) := by
  obtain ⟨r, rfl, h0, h1, h2⟩ := h
  have e1 : k.toNat = 0 := by omega
  have e2 : (-k).toNat = (-(k + 1)).toNat + 1 := by omega
  rw [e1, U_zero, Nat.mul_one, e2, U_succ] at h2
  have hev : V D64 r % 2 = 0 := by
    rw [h2, ← Nat.mul_assoc, Nat.mul_right_comm, Nat.mul_comm _ 2]
    exact Nat.mul_mod_right _ _
  obtain ⟨r', a, b, d⟩ := half_ex h0 h1 hev
  rw [halve_sign (sg D64 c) h0 h1 a b d] at hx
  injection hx with hx
  refine ⟨r', hx.symm, a, b, ?_⟩
  rw [show (k + 1).toNat = 0 by omega, U_zero, Nat.mul_one]
  have e3 : 2 * V D64 r' = 2 * (V D64 (rg D64 c) * U (-(k + 1)).toNat) := by
    rw [← d, h2]
    generalize U (-(k + 1)).toNat = u
    ac_rfl
  omega

theorem Scal.done {c X : Nat} (hc : c < 2 ^ 64) (h : Scal c X 0) : X = c := by
  obtain ⟨r, rfl, h0, h1, h2⟩ := h
  have e : V D64 r = V D64 (rg D64 c) := Nat.eq_of_mul_eq_mul_right (U_pos 0) h2
  rw [V_inj D64 e]
  exact word_sg_rg D64 hc

/-- The odd part with its sign. -/
def numOf (c : Nat) : Int := if sg D64 c then -(oddOf (V D64 (rg D64 c)) : Int) else (oddOf (V D64 (rg D64 c)) : Int)
def expOf (c : Nat) : Int := (twos (V D64 (rg D64 c)) : Int) - 1074

theorem twos_lt {c : Nat} (h0 : ¬ rg D64 c = 0) (h : rg D64 c < D64.infRung) : twos (V D64 (rg D64 c)) < 2098 := by
  have sp := odd_spec (V_pos (show 0 < rg D64 c by omega)) (V_lt_U h)
  have hlt : V D64 (rg D64 c) < U 2098 := Nat.lt_of_lt_of_le (V_lt D64 h) (by decide +kernel)
  refine U_lt (Nat.lt_of_le_of_lt ?_ hlt)
  conv => rhs; rw [sp.1]
  exact Nat.le_mul_of_pos_right _ (by omega)

theorem fmt_split {c : Nat} {l : List UInt8} (hf : Fmt c l) (h1 : l ≠ [48]) (h2 : l ≠ [45, 48]) : splitL l = [Lib.itoa (numOf c), Lib.itoa (expOf c)] ∧ ¬ rg D64 c = 0 := by
  obtain ⟨f1, f2, f3⟩ := hf
  have h0 : ¬ rg D64 c = 0 := fun h0 => by
    rw [fmtD_zero h0] at f3
    unfold sgn at f3
    cases hs : sg D64 c <;> rw [hs] at f3
    · exact h1 f3.symm
    · exact h2 f3.symm
  refine ⟨?_, h0⟩
  have ho := (odd_bound (r := rg D64 c) (by omega) f2).2.2
  have e : sgn c ++ Lib.itoa (oddOf (V D64 (rg D64 c)) : Int) = Lib.itoa (numOf c) := by
    unfold sgn numOf
    cases hs : sg D64 c
    · rfl
    · rw [if_pos rfl, if_pos rfl, itoa_neg ho, itoa_nat]; rfl
  rw [fmtD_body f2 h0, body_split, ← List.append_assoc, e] at f3
  rw [← f3, splitL_cons _ _ (itoa_no_p _)]
  show Lib.itoa (numOf c) :: splitL (Lib.itoa (expOf c)) = _
  rw [splitL_none _ (itoa_no_p _)]

/-- The number that the loops begin with. -/
theorem Scal.start {c : Nat} (h : rg D64 c < D64.infRung) (h0 : ¬ rg D64 c = 0) : Scal c (floatOfInt .f64 (numOf c)) (expOf c) := by
  obtain ⟨o1, o2, o3⟩ := odd_bound (r := rg D64 c) (by omega) h
  have sp := (odd_spec (V_pos (show 0 < rg D64 c by omega)) (V_lt_U h)).1
  obtain ⟨r, r1, r2, r3, r4⟩ := nat_word o3 o1
  unfold Scal expOf numOf
  generalize V D64 (rg D64 c) = N at *
  refine ⟨r, ?_, r2, r1, ?_⟩
  · cases hs : sg D64 c
    · rw [if_neg (by decide), r4, word_pos]
    · rw [if_pos rfl]
      show D64.nearest (decide (-(oddOf N : Int) < 0)) (-(oddOf N : Int)).natAbs 0 = _
      have e1 : decide (-(oddOf N : Int) < 0) = true := by simp; omega
      rw [e1, Int.natAbs_neg, Int.natAbs_natCast, nearest_exact true r2 r1 ⟨1074, 0, by rw [r3]; exact (Nat.mul_one _).symm, by omega⟩]
  · have e5 : N = oddOf N * U (twos N) := by
      conv => lhs; rw [sp]
      exact Nat.mul_comm _ _
    have e6 : ∀ x, N * U x = oddOf N * U (twos N) * U x := fun x => by rw [← e5]
    rw [r3, e6, Nat.mul_assoc, Nat.mul_assoc, ← U_add, ← U_add]
    congr 2
    omega
end Go.Fl
