import Derived.Test.YtfhaopdaakjghaaBound
namespace Go.Proofs.Ytfhaopdaakjghaa
open Go.RowKit Go.Fl

/-- The states and the last output behind some steps of bowing in which the bow sticks, in words. -/
def bwS (xs : List MW) (bow : Nat) : Nat → List ZW × Nat
  | 0 => (List.replicate xs.length (0, 0), 0)
  | I + 1 => (stepsW xs (bwS xs bow I).1 (fo .sub .f32 bow (bwS xs bow I).2), outW (stepsW xs (bwS xs bow I).1 (fo .sub .f32 bow (bwS xs bow I).2)))

theorem bwS_length (xs : List MW) (bow I : Nat) : (bwS xs bow I).1.length = xs.length := by
  induction I with
  | zero => simp [bwS]
  | succ I ih => exact stepsW_length ih

/-- All that a step of a mode reckons with is a number. -/
structure SReady (m : MW) (z : ZW) (x : Nat) : Prop where
  mul : CMul (wd z.1) (wd z.2) (wd m.a) (wd m.b) (reW z m) (imW z m)
  zf : fin .f32 z.1 ∧ fin .f32 z.2 ∧ fin .f32 m.a ∧ fin .f32 m.b
  dbl : fin .f64 (reW z m) ∧ fin .f64 (imW z m)
  sgl : fin .f32 (nw (reW z m)) ∧ fin .f32 (nw (imW z m))
  gain : floatBits .mul .f32 m.c x = some (fo .mul .f32 m.c x) ∧ floatBits .mul .f32 m.d x = some (fo .mul .f32 m.d x)
  sum : floatBits .add .f32 (nw (reW z m)) (fo .mul .f32 m.c x) = some (stepW m z x).1 ∧ floatBits .add .f32 (nw (imW z m)) (fo .mul .f32 m.d x) = some (stepW m z x).2
  lt : (stepW m z x).1 < 2 ^ 32 ∧ (stepW m z x).2 < 2 ^ 32

theorem pole_words {m : MW} {z : ZW} {n : Nat} (hm : MLim m) (hz : ZLim n z) (hn : n ≤ 122) :
    CMul (wd z.1) (wd z.2) (wd m.a) (wd m.b) (reW z m) (imW z m) ∧ fin .f64 (reW z m) ∧ fin .f64 (imW z m) ∧ Lim .f32 (n + 1) (nw (reW z m)) ∧ Lim .f32 (n + 1) (nw (imW z m)) := by
  have a := lim_wd hz.re (by omega)
  have b := lim_wd hz.im (by omega)
  have c := lim_wd hm.a (by omega)
  have d := lim_wd hm.b (by omega)
  obtain ⟨p1, p2⟩ := lim_mul a c (by omega)
  obtain ⟨q1, q2⟩ := lim_mul b d (by omega)
  obtain ⟨r1, r2⟩ := lim_mul a d (by omega)
  obtain ⟨s1, s2⟩ := lim_mul b c (by omega)
  obtain ⟨u1, u2⟩ := lim_sub p2 q2 (by omega)
  obtain ⟨v1, v2⟩ := lim_add r2 s2 (by omega)
  exact ⟨⟨_, _, _, _, p1, q1, r1, s1, u1, v1⟩, u2.fin (by omega), v2.fin (by omega), lim_nw u2 (by omega), lim_nw v2 (by omega)⟩

theorem pw_add (T a b : Nat) : T * 2 ^ (a + b) = T * 2 ^ a * 2 ^ b := by rw [Nat.pow_add, Nat.mul_assoc]

/-- A step among the first ten. -/
theorem step_small {m : MW} {z : ZW} {x c : Nat} (hm : MLim m) (hz : ZLim (c + 2) z) (hx : Bd 13 c x) (hc : c ≤ 108) : SReady m z x ∧ ZLim (c + 14) (stepW m z x) := by
  obtain ⟨C, l1, l2, n1, n2⟩ := pole_words hm hz (by omega)
  have fx := hx.fin (rep13 (by omega))
  have key : ∀ {g p : Nat}, Lim .f32 10 g → Lim .f32 (c + 2 + 1) p → floatBits .mul .f32 g x = some (fo .mul .f32 g x) ∧ floatBits .add .f32 p (fo .mul .f32 g x) = some (fo .add .f32 p (fo .mul .f32 g x)) ∧ Lim .f32 (c + 14) (fo .add .f32 p (fo .mul .f32 g x)) := fun {g p} hg hp => by
    obtain ⟨k1, k2⟩ := bd_mul (m := 13) (n := c + 10) (Bd.of_lim hg) hx (hg.fin (by omega)) fx (by rw [Nat.one_mul, Nat.add_comm 10 c]; exact Nat.le_refl _) (rep13 (by omega))
    obtain ⟨t1, t2⟩ := bd_add (m := 1) (n := c + 14) (Bd.of_lim hp) k2 (hp.fin (by omega)) (k2.fin (rep13 (by omega))) (by
      rw [show 149 + (c + 2 + 1) = 149 + c + 3 by omega, show 149 + (c + 10) = 149 + c + 10 by omega, show 149 + (c + 14) = 149 + c + 14 by omega, pw_add 1 (149 + c) 3, pw_add 13 (149 + c) 10, pw_add 1 (149 + c) 14]
      generalize 2 ^ (149 + c) = Q
      omega) (rep1 (by omega))
    exact ⟨k1, t1, t2.lim⟩
  obtain ⟨k1, t1, w1⟩ := key hm.c n1
  obtain ⟨k2, t2, w2⟩ := key hm.d n2
  exact ⟨⟨C, ⟨hz.re.fin (by omega), hz.im.fin (by omega), hm.a.fin (by omega), hm.b.fin (by omega)⟩, ⟨l1, l2⟩, ⟨n1.fin (by omega), n2.fin (by omega)⟩, ⟨k1, k2⟩, ⟨t1, t2⟩, w1.1, w2.1⟩, w1, w2⟩

/-- The eleventh step. -/
theorem step_last {m : MW} {z : ZW} {x : Nat} (hm : MLim m) (hz : ZLim 122 z) (hx : fin .f32 x) : SReady m z x := by
  obtain ⟨C, l1, l2, n1, n2⟩ := pole_words hm hz (by omega)
  have key : ∀ {g p : Nat}, Lim .f32 10 g → Lim .f32 123 p → floatBits .mul .f32 g x = some (fo .mul .f32 g x) ∧ floatBits .add .f32 p (fo .mul .f32 g x) = some (fo .add .f32 p (fo .mul .f32 g x)) ∧ fo .add .f32 p (fo .mul .f32 g x) < 2 ^ 32 := fun {g p} hg hp => by
    obtain ⟨r, h1, h2, _, h4⟩ := mul_word (hg.fin (by omega)) hx
    have e1 := fo_of h1
    rw [e1]
    have hn : Num r := ⟨h2, by show rg FloatKind.f32.format r ≤ _; rw [h4]; exact Rc_le_inf _ _ _⟩
    obtain ⟨s, g1, g2⟩ := add_num2 (hp.fin (by omega)) hn
    rw [fo_of g1]
    exact ⟨h1, g1, g2.1⟩
  obtain ⟨k1, t1, w1⟩ := key hm.c n1
  obtain ⟨k2, t2, w2⟩ := key hm.d n2
  exact ⟨C, ⟨hz.re.fin (by omega), hz.im.fin (by omega), hm.a.fin (by omega), hm.b.fin (by omega)⟩, ⟨l1, l2⟩, ⟨n1.fin (by omega), n2.fin (by omega)⟩, ⟨k1, k2⟩, ⟨t1, t2⟩, w1, w2⟩

/-- The sum of at most three outputs. -/
theorem outW_bd {n : Nat} {zs : List ZW} (h : ZsLim n zs) (hl : zs.length ≤ 3) (hn : n ≤ 122) : ∀ i, i ≤ zs.length → Bd i n (outW (zs.take i)) ∧ (∀ hi : i < zs.length, floatBits .add .f32 (outW (zs.take i)) zs[i].1 = some (outW (zs.take (i + 1)))) := by
  have rep : ∀ i, i < 3 → Rep (i + 1) n := fun i hi => by
    rcases (show i = 0 ∨ i = 1 ∨ i = 2 by omega) with rfl | rfl | rfl
    · exact rep1 (by omega)
    · exact rep2 (by omega)
    · exact rep3 (by omega)
  have z0 : Bd 0 n 0 := ⟨by decide, by rw [show rg Ieee.single 0 = 0 by decide, V_zero]; omega⟩
  have f0 : fin .f32 0 := by unfold fin; decide
  have fi : ∀ i, i ≤ 3 → ∀ x, Bd i n x → fin .f32 x := fun i hi x hx => by
    rcases Nat.eq_zero_or_pos i with rfl | h0
    · have := hx.2
      rw [Nat.zero_mul] at this
      have hr : rg Ieee.single x = 0 := by
        rcases Nat.eq_zero_or_pos (rg Ieee.single x) with h | h
        · exact h
        · have := V_lt Ieee.single h; omega
      show rg Ieee.single x < _
      rw [hr]; decide
    · exact hx.fin (by have := rep (i - 1) (by omega); rw [show i - 1 + 1 = i by omega] at this; exact this)
  have stp : ∀ i (hi : i < zs.length), Bd i n (outW (zs.take i)) → floatBits .add .f32 (outW (zs.take i)) zs[i].1 = some (fo .add .f32 (outW (zs.take i)) zs[i].1) ∧ Bd (i + 1) n (fo .add .f32 (outW (zs.take i)) zs[i].1) := fun i hi hb => by
    have hz := Bd.of_lim (h _ (List.getElem_mem hi)).re
    exact bd_add hb hz (fi i (by omega) _ hb) (hz.fin (rep1 (by omega))) (by rw [Nat.add_mul]; exact Nat.le_refl _) (rep i (by omega))
  intro i
  induction i with
  | zero =>
    intro _
    refine ⟨z0, fun hi => ?_⟩
    rw [outW_succ (List.getElem?_eq_getElem hi)]
    exact (stp 0 hi z0).1
  | succ i ih =>
    intro hi
    obtain ⟨a, b⟩ := ih (by omega)
    have h1 : Bd (i + 1) n (outW (zs.take (i + 1))) := by
      rw [outW_succ (List.getElem?_eq_getElem (show i < zs.length by omega))]
      exact (stp i (by omega) a).2
    refine ⟨h1, fun hi => ?_⟩
    rw [outW_succ (List.getElem?_eq_getElem hi)]
    exact (stp _ hi h1).1

/-- The first ten steps: all is small. -/
theorem bw_small {xs : List MW} {bow : Nat} (hm : ∀ m ∈ xs, MLim m) (hl : xs.length ≤ 3) (hb : Bd 1 3 bow) (I : Nat) (hI : I ≤ 10) :
    ZsLim (12 * I + 2) (bwS xs bow I).1 ∧ Bd 3 (12 * I + 2) (bwS xs bow I).2 ∧ floatBits .sub .f32 bow (bwS xs bow I).2 = some (fo .sub .f32 bow (bwS xs bow I).2) ∧ Bd 13 (12 * I) (fo .sub .f32 bow (bwS xs bow I).2) := by
  have force : ∀ I, I ≤ 10 → ∀ v, Bd 3 (12 * I + 2) v → (I = 0 → v = 0) → floatBits .sub .f32 bow v = some (fo .sub .f32 bow v) ∧ Bd 13 (12 * I) (fo .sub .f32 bow v) := fun I hI v hv h0 => by
    rcases Nat.eq_zero_or_pos I with rfl | hp
    · rw [h0 rfl]
      have z0 : Bd 0 0 0 := ⟨by decide, by rw [show rg Ieee.single 0 = 0 by decide, V_zero]; omega⟩
      exact bd_sub hb z0 (hb.fin (rep1 (by omega))) (by unfold fin; decide) (by
        rw [Nat.zero_mul, pw_add]
        generalize 2 ^ 149 = Q
        omega) (rep13 (by omega))
    · exact bd_sub hb hv (hb.fin (rep1 (by omega))) (hv.fin (rep3 (by omega))) (by
        rw [show 149 + (12 * I + 2) = 149 + 12 * I + 2 by omega, pw_add, pw_add, pw_add 13 149 (12 * I), pw_add 3 149 (12 * I)]
        have h8 : 8 ≤ 2 ^ (12 * I) := by
          have := Nat.pow_le_pow_right (show 0 < 2 by decide) (show 3 ≤ 12 * I by omega)
          exact this
        have hq := Nat.mul_le_mul_left (2 ^ 149) h8
        rw [show 3 * 2 ^ 149 * 2 ^ (12 * I) = 3 * (2 ^ 149 * 2 ^ (12 * I)) by rw [Nat.mul_assoc], show 13 * 2 ^ 149 * 2 ^ (12 * I) = 13 * (2 ^ 149 * 2 ^ (12 * I)) by rw [Nat.mul_assoc]]
        generalize 2 ^ 149 * 2 ^ (12 * I) = P at *
        generalize 2 ^ 149 = Q at *
        omega) (rep13 (by omega))
  induction I with
  | zero =>
    have hv : Bd 3 (12 * 0 + 2) (bwS xs bow 0).2 := ⟨by show (0 : Nat) < _; decide, by rw [show rg Ieee.single (bwS xs bow 0).2 = 0 from (show rg Ieee.single 0 = 0 by decide), V_zero]; omega⟩
    obtain ⟨f1, f2⟩ := force 0 (by omega) _ hv (fun _ => rfl)
    refine ⟨fun z hz => ?_, hv, f1, f2⟩
    rw [List.eq_of_mem_replicate hz]
    exact ⟨Lim.zero _ _, Lim.zero _ _⟩
  | succ I ih =>
    obtain ⟨a, b, c, d⟩ := ih (by omega)
    have hz : ZsLim (12 * (I + 1) + 2) (bwS xs bow (I + 1)).1 := by
      intro z h
      unfold bwS stepsW at h
      obtain ⟨i, hi, rfl⟩ := List.getElem_of_mem h
      rw [List.length_zipWith] at hi
      rw [List.getElem_zipWith]
      have := (step_small (c := 12 * I) (hm _ (List.getElem_mem (show i < xs.length by omega))) (a _ (List.getElem_mem (show i < (bwS xs bow I).1.length by omega))) d (by omega)).2
      rw [show 12 * (I + 1) + 2 = 12 * I + 14 by omega]
      exact this
    have hlen := bwS_length xs bow (I + 1)
    have hv : Bd 3 (12 * (I + 1) + 2) (bwS xs bow (I + 1)).2 := by
      have h1 := (outW_bd hz (by omega) (by omega) _ (Nat.le_refl _)).1
      rw [List.take_length] at h1
      have h2 : (bwS xs bow (I + 1)).2 = outW (bwS xs bow (I + 1)).1 := rfl
      rw [h2]
      exact h1.mono (Nat.mul_le_mul_right _ (by omega))
    obtain ⟨f1, f2⟩ := force (I + 1) hI _ hv (fun h => by omega)
    exact ⟨hz, hv, f1, f2⟩

theorem bw_ready {xs : List MW} {bow : Nat} (hm : ∀ m ∈ xs, MLim m) (hl : xs.length ≤ 3) (hb : Bd 1 3 bow) (I : Nat) (hI : I ≤ 10) :
    ∀ i (h1 : i < xs.length) (h2 : i < (bwS xs bow I).1.length), SReady xs[i] (bwS xs bow I).1[i] (fo .sub .f32 bow (bwS xs bow I).2) := by
  obtain ⟨a, _, _, d⟩ := bw_small hm hl hb I hI
  intro i h1 h2
  rcases Nat.lt_or_eq_of_le hI with hlt | rfl
  · exact (step_small (c := 12 * I) (hm _ (List.getElem_mem h1)) (a _ (List.getElem_mem h2)) d (by omega)).1
  · exact step_last (hm _ (List.getElem_mem h1)) (a _ (List.getElem_mem h2)) (d.fin (rep13 (by omega)))
end Go.Proofs.Ytfhaopdaakjghaa
