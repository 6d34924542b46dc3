import Derived.Test.YtjamceoofgfokaaDoorFmtI
import Derived.Lib.AtoiAll
import Derived.Lib.IndexMore
namespace Go.Fl
open Go Go.Proofs.YtjamceoofgfokaaDoor

/-! ### Numerals -/
theorem digit_nat (k : Nat) : (digitOf k).toNat = 48 + k % 10 := by
  unfold digitOf
  rw [UInt8.toNat_ofNat']
  omega

theorem dec_ind {p : Nat → Prop} (h0 : ∀ k, k < 10 → p k) (h1 : ∀ k, 10 ≤ k → p (k / 10) → p k) (k : Nat) : p k := by
  induction k using Nat.strongRecOn with
  | _ k ih =>
    by_cases h : k < 10
    · exact h0 k h
    · exact h1 k (by omega) (ih _ (by omega))

theorem dec_small {k : Nat} (h : k < 10) : Lib.decDigits k = [digitOf k] := by rw [decDigits_step, if_pos (by omega)]
theorem dec_big {k : Nat} (h : 10 ≤ k) : Lib.decDigits k = Lib.decDigits (k / 10) ++ [digitOf k] := by rw [decDigits_step, if_neg (by omega)]

/-- Is it a decimal digit? -/
def isDig (c : UInt8) : Prop := 48 ≤ c.toNat ∧ c.toNat ≤ 57
theorem dig_digit (k : Nat) : isDig (digitOf k) := by unfold isDig; rw [digit_nat]; omega

theorem dec_digits (k : Nat) : ∀ c ∈ Lib.decDigits k, isDig c := by
  refine dec_ind (p := fun k => ∀ c ∈ Lib.decDigits k, isDig c) ?_ ?_ k
  · intro k h c hc
    rw [dec_small h] at hc
    rw [List.mem_singleton.1 hc]
    exact dig_digit k
  · intro k h ih c hc
    rw [dec_big h] at hc
    rcases List.mem_append.1 hc with hc | hc
    · exact ih c hc
    · rw [List.mem_singleton.1 hc]
      exact dig_digit k

theorem dec_cons (k : Nat) : ∃ c r, Lib.decDigits k = c :: r ∧ isDig c := by
  have h := dec_digits k
  cases hl : Lib.decDigits k with
  | nil =>
    exfalso
    rw [decDigits_step] at hl
    split at hl <;> simp at hl
  | cons c r => exact ⟨c, r, rfl, h c (by rw [hl]; simp)⟩

theorem parse_snoc : ∀ (l : List UInt8) (acc v : Nat) (c : UInt8), Lib.parseUint10 acc l = .ok v → isDig c → v * 10 + (c.toNat - 48) < 18446744073709551616 → Lib.parseUint10 acc (l ++ [c]) = .ok (v * 10 + (c.toNat - 48))
  | [], acc, v, c, h, hd, hb => by
    have h' : (Lib.NumEnd.ok acc : Lib.NumEnd Nat) = .ok v := h
    injection h' with h'
    subst h'
    show Lib.parseUint10 acc [c] = _
    unfold Lib.parseUint10
    rw [if_pos (show 48 ≤ c.toNat ∧ c.toNat ≤ 57 from hd), if_neg (by omega), if_neg (by omega)]
    rfl
  | d :: l, acc, v, c, h, hd, hb => by
    rw [List.cons_append]
    unfold Lib.parseUint10 at h ⊢
    by_cases h1 : 48 ≤ d.toNat ∧ d.toNat ≤ 57
    · rw [if_pos h1] at h ⊢
      by_cases h2 : 1844674407370955162 ≤ acc
      · rw [if_pos h2] at h; cases h
      · rw [if_neg h2] at h ⊢
        by_cases h3 : 18446744073709551616 ≤ acc * 10 + (d.toNat - 48)
        · rw [if_pos h3] at h; cases h
        · rw [if_neg h3] at h ⊢
          exact parse_snoc l _ v c h hd hb
    · rw [if_neg h1] at h; cases h

theorem parse_dec (k : Nat) : k < 18446744073709551616 → Lib.parseUint10 0 (Lib.decDigits k) = .ok k := by
  refine dec_ind (p := fun k => k < 18446744073709551616 → Lib.parseUint10 0 (Lib.decDigits k) = .ok k) ?_ ?_ k
  · intro k h _
    rw [dec_small h]
    have := parse_snoc [] 0 0 (digitOf k) rfl (dig_digit k) (by rw [digit_nat]; omega)
    rw [List.nil_append] at this
    rw [this, digit_nat]
    congr 1
    omega
  · intro k h ih hk
    rw [dec_big h]
    rw [parse_snoc _ 0 (k / 10) (digitOf k) (ih (by omega)) (dig_digit k) (by rw [digit_nat]; omega), digit_nat]
    congr 1
    omega

theorem itoa_neg {N : Nat} (h : 0 < N) : Lib.itoa (-(N : Int)) = 45 :: Lib.decDigits N := by
  unfold Lib.itoa
  rw [if_pos (by omega), Int.natAbs_neg, Int.natAbs_natCast]
theorem itoa_nat (N : Nat) : Lib.itoa (N : Int) = Lib.decDigits N := by
  unfold Lib.itoa
  rw [if_neg (by omega), Int.toNat_natCast]

theorem atoi_itoa {n : Int} (h1 : -9223372036854775808 ≤ n) (h2 : n ≤ 9223372036854775807) : Lib.atoiAll (Lib.itoa n) = .ok n := by
  rcases Int.lt_or_le n 0 with hn | hn
  · obtain ⟨N, rfl⟩ : ∃ N : Nat, n = -(N : Int) := ⟨n.natAbs, by omega⟩
    rw [itoa_neg (by omega)]
    obtain ⟨c, r, hc, -⟩ := dec_cons N
    have hp : Lib.parseMag (Lib.decDigits N) = .ok N := by
      unfold Lib.parseMag
      rw [if_neg (by rw [hc]; simp)]
      exact parse_dec N (by omega)
    unfold Lib.atoiAll
    have h45 : (45 : UInt8).toNat = 45 := rfl
    simp only [h45]
    rw [if_pos (Or.inr trivial), hp]
    simp
    omega
  · obtain ⟨N, rfl⟩ : ∃ N : Nat, n = (N : Int) := ⟨n.toNat, by omega⟩
    rw [itoa_nat]
    obtain ⟨c, r, hc, hd⟩ := dec_cons N
    have hp : Lib.parseMag (Lib.decDigits N) = .ok N := by
      unfold Lib.parseMag
      rw [if_neg (by rw [hc]; simp)]
      exact parse_dec N (by omega)
    rw [hc] at hp ⊢
    unfold isDig at hd
    have n1 : ¬ c.toNat = 43 := by omega
    have n2 : ¬ c.toNat = 45 := by omega
    unfold Lib.atoiAll
    simp only [n1, n2, or_self, if_false, hp]
    simp
    omega

theorem itoa_inj {m n : Int} (a1 : -9223372036854775808 ≤ m) (a2 : m ≤ 9223372036854775807) (b1 : -9223372036854775808 ≤ n) (b2 : n ≤ 9223372036854775807) (h : Lib.itoa m = Lib.itoa n) : m = n := by
  have k1 := atoi_itoa a1 a2
  have k2 := atoi_itoa b1 b2
  rw [h, k2] at k1
  injection k1 with k
  exact k.symm

theorem itoa_no_p (n : Int) : ∀ c ∈ Lib.itoa n, c ≠ 112 := by
  intro c hc
  unfold Lib.itoa at hc
  have key : isDig c → c ≠ 112 := by
    rintro ⟨-, h⟩ rfl
    exact absurd h (by decide)
  split at hc
  · rcases List.mem_cons.1 hc with rfl | hc
    · decide
    · exact key (dec_digits _ c hc)
  · exact key (dec_digits _ c hc)

/-! ### Cutting a text at its first 'p' -/
theorem index_p : ∀ (A B : List UInt8), (∀ c ∈ A, c ≠ 112) → Lib.index (A ++ 112 :: B) [112] = A.length
  | [], B, _ => by
    show (if [112].isPrefixOf (112 :: B) then (0 : Int) else _) = 0
    rw [if_pos (by simp)]
  | a :: A, B, h => by
    have ih := index_p A B (fun c hc => h c (by simp [hc]))
    have ha : a ≠ 112 := h a (by simp)
    show (if [112].isPrefixOf (a :: (A ++ 112 :: B)) then (0 : Int) else if Lib.index (A ++ 112 :: B) [112] == -1 then -1 else Lib.index (A ++ 112 :: B) [112] + 1) = _
    rw [if_neg (by simp [Ne.symm ha]), ih, if_neg (by simp)]
    simp

theorem cut_p {A B : List UInt8} (h : ∀ c ∈ A, c ≠ 112) : Lib.cut (A ++ 112 :: B) [112] = (A, B, true) := by
  unfold Lib.cut
  rw [index_p A B h, if_pos (by omega)]
  simp

/-! ### The texts of numbers -/
def body (c : Nat) : List UInt8 := Lib.itoa (oddOf (V D64 (rg D64 c)) : Int) ++ 112 :: Lib.itoa ((twos (V D64 (rg D64 c)) : Int) - 1074)

theorem fmtD_body {c : Nat} (h : rg D64 c < D64.infRung) (h0 : ¬ rg D64 c = 0) : fmtD (some c) = sgn c ++ body c := by
  rw [fmtD_fin h h0]
  unfold body
  simp

/-- The text is that of the finite word c. -/
def Fmt (c : Nat) (l : List UInt8) : Prop := c < 2 ^ 64 ∧ rg D64 c < D64.infRung ∧ fmtD (some c) = l
def IsFmt (l : List UInt8) : Prop := ∃ c, Fmt c l

theorem body_cons (c : Nat) : ∃ d r, body c = d :: r ∧ isDig d := by
  obtain ⟨d, r, hd, hdig⟩ := dec_cons (oddOf (V D64 (rg D64 c)))
  refine ⟨d, r ++ 112 :: Lib.itoa ((twos (V D64 (rg D64 c)) : Int) - 1074), ?_, hdig⟩
  unfold body
  rw [itoa_nat, hd, List.cons_append]

theorem body_inj {c d : Nat} (hc : rg D64 c < D64.infRung) (hc0 : ¬ rg D64 c = 0) (hd : rg D64 d < D64.infRung) (hd0 : ¬ rg D64 d = 0) (h : body c = body d) : rg D64 c = rg D64 d := by
  obtain ⟨a1, a2, a3⟩ := odd_bound (r := rg D64 c) (by omega) hc
  obtain ⟨b1, b2, b3⟩ := odd_bound (r := rg D64 d) (by omega) hd
  have s1 := odd_spec (V_pos (by omega)) (V_lt_U hc)
  have s2 := odd_spec (V_pos (by omega)) (V_lt_U hd)
  unfold body at h
  have k := congrArg (fun l => Lib.cut l [112]) h
  simp only [cut_p (itoa_no_p _)] at k
  have k1 := congrArg (·.1) k
  have k2 := congrArg (·.2.1) k
  have e1 := itoa_inj (m := (oddOf (V D64 (rg D64 c)) : Int)) (n := (oddOf (V D64 (rg D64 d)) : Int)) (by omega) (by omega) (by omega) (by omega) k1
  have e2 := itoa_inj (m := (twos (V D64 (rg D64 c)) : Int) - 1074) (n := (twos (V D64 (rg D64 d)) : Int) - 1074) (by omega) (by omega) (by omega) (by omega) k2
  refine V_inj D64 ?_
  rw [s1.1, s2.1]
  have e3 : oddOf (V D64 (rg D64 c)) = oddOf (V D64 (rg D64 d)) := by omega
  have e4 : twos (V D64 (rg D64 c)) = twos (V D64 (rg D64 d)) := by omega
  rw [e3, e4]

theorem word_of {c d : Nat} (hc : c < 2 ^ 64) (hd : d < 2 ^ 64) (h1 : sg D64 c = sg D64 d) (h2 : rg D64 c = rg D64 d) : c = d := by
  rw [← word_sg_rg D64 (b := c) hc, ← word_sg_rg D64 (b := d) hd, h1, h2]

/-- What stands behind the sign. -/
def tailOf (c : Nat) : List UInt8 := if rg D64 c = 0 then [48] else body c
theorem fmt_tail {c : Nat} (h : rg D64 c < D64.infRung) : fmtD (some c) = sgn c ++ tailOf c := by
  unfold tailOf
  by_cases h0 : rg D64 c = 0
  · rw [if_pos h0, fmtD_zero h0]
  · rw [if_neg h0, fmtD_body h h0]
theorem tail_cons (c : Nat) : ∃ d r, tailOf c = d :: r ∧ isDig d := by
  unfold tailOf
  by_cases h0 : rg D64 c = 0
  · rw [if_pos h0]; exact ⟨48, [], rfl, by unfold isDig; decide⟩
  · rw [if_neg h0]; exact body_cons c

theorem Fmt.inj {c d : Nat} {l : List UInt8} (h : Fmt c l) (k : Fmt d l) : c = d := by
  obtain ⟨h1, h2, h3⟩ := h
  obtain ⟨k1, k2, k3⟩ := k
  rw [fmt_tail h2] at h3
  rw [fmt_tail k2] at k3
  obtain ⟨a, r, ha, da⟩ := tail_cons c
  obtain ⟨b, s, hb, db⟩ := tail_cons d
  have key : ∀ d : UInt8, isDig d → d ≠ 45 := by rintro d ⟨h, -⟩ rfl; exact absurd h (by decide)
  have hs : sg D64 c = sg D64 d ∧ tailOf c = tailOf d := by
    have e : sgn c ++ tailOf c = sgn d ++ tailOf d := h3.trans k3.symm
    unfold sgn at e
    cases hc : sg D64 c <;> cases hd : sg D64 d <;> rw [hc, hd] at e <;> simp at e
    · exact ⟨rfl, e⟩
    · rw [ha] at e; simp at e; exact absurd e.1 (key a da)
    · rw [hb] at e; simp at e; exact absurd e.1.symm (key b db)
    · exact ⟨rfl, e⟩
  refine word_of h1 k1 hs.1 ?_
  have e := hs.2
  unfold tailOf at e
  by_cases c0 : rg D64 c = 0 <;> by_cases d0 : rg D64 d = 0
  · rw [c0, d0]
  · rw [if_pos c0, if_neg d0] at e
    have : (112 : UInt8) ∈ [48] := by rw [e]; unfold body; simp
    simp at this
  · rw [if_neg c0, if_pos d0] at e
    have : (112 : UInt8) ∈ [48] := by rw [← e]; unfold body; simp
    simp at this
  · rw [if_neg c0, if_neg d0] at e
    exact body_inj h2 c0 k2 d0 e

theorem not_fmt_nil : ¬ IsFmt [] := by
  rintro ⟨c, -, h2, h3⟩
  obtain ⟨a, r, ha, -⟩ := tail_cons c
  rw [fmt_tail h2, ha] at h3
  simp at h3
end Go.Fl
