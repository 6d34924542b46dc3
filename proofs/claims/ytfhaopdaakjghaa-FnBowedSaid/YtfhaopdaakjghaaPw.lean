import Derived.Test.YtfhaopdaakjghaaTune
import Derived.Test.YtfhaopdaakjghaaMrg
namespace Go.Proofs.Ytfhaopdaakjghaa
open Go.RowKit Go.Fl

/-- The rung of 2^n. -/
def pwr (k : FloatKind) (n : Nat) : Nat := n * k.format.binade + oneW k

/-- The places below one. -/
theorem dep_ex (k : FloatKind) : ∃ d : Nat, V k.format (oneW k) = 2 ^ d ∧ 2 * k.format.leastPlace = k.format.leastPlace - d ∧ ∀ n, V k.format (pwr k n) = 2 ^ (d + n) := by
  cases k
  · refine ⟨149, by decide +kernel, by decide, fun n => ?_⟩
    obtain ⟨E, hE⟩ : ∃ E : Nat, E = 126 := ⟨_, rfl⟩
    have h := V_ek Ieee.single (e := n + E) (k := Ieee.single.binade) (Or.inr (Nat.le_refl _)) (by omega)
    have he : (n + E) * Ieee.single.binade + Ieee.single.binade = pwr .f32 n := by
      subst hE
      unfold pwr
      show (n + 126) * Ieee.single.binade + Ieee.single.binade = n * Ieee.single.binade + oneW .f32
      rw [Nat.add_mul, show oneW .f32 = 126 * Ieee.single.binade + Ieee.single.binade by decide]
      omega
    rw [he] at h
    refine h.trans ?_
    rw [show Ieee.single.binade = 2 ^ 23 from rfl, ← Nat.pow_add, show 23 + (n + E) = 149 + n by omega]
  · obtain ⟨E, hE⟩ : ∃ E : Nat, E = 1022 := ⟨_, rfl⟩
    have key : ∀ n, V Ieee.double (pwr .f64 n) = 2 ^ (52 + E + n) := fun n => by
      have h := V_ek Ieee.double (e := n + E) (k := Ieee.double.binade) (Or.inr (Nat.le_refl _)) (by omega)
      have he : (n + E) * Ieee.double.binade + Ieee.double.binade = pwr .f64 n := by
        subst hE
        unfold pwr
        show (n + 1022) * Ieee.double.binade + Ieee.double.binade = n * Ieee.double.binade + oneW .f64
        rw [Nat.add_mul, show oneW .f64 = 1022 * Ieee.double.binade + Ieee.double.binade by decide]
        omega
      rw [he] at h
      refine h.trans ?_
      rw [show Ieee.double.binade = 2 ^ 52 from rfl, ← Nat.pow_add, show 52 + (n + E) = 52 + E + n by omega]
    refine ⟨52 + E, ?_, by subst hE; decide, key⟩
    have := key 0
    rw [Nat.add_zero] at this
    rw [← this]
    unfold pwr
    rw [Nat.zero_mul, Nat.zero_add]
    rfl

theorem pwr_fin {k : FloatKind} {n : Nat} (h : n ≤ 126) : pwr k n < k.format.infRung := by
  have h1 : pwr k n ≤ pwr k 126 := Nat.add_le_add_right (Nat.mul_le_mul_right _ h) _
  refine Nat.lt_of_le_of_lt h1 ?_
  cases k <;> decide

theorem pwr_le {k : FloatKind} {m n : Nat} (h : m ≤ n) : pwr k m ≤ pwr k n := Nat.add_le_add_right (Nat.mul_le_mul_right _ h) _

/-- A word whose number is at most 2^n. -/
def Lim (k : FloatKind) (n x : Nat) : Prop := x < 2 ^ k.format.width ∧ rg k.format x ≤ pwr k n

theorem Lim.fin {k : FloatKind} {n x : Nat} (h : Lim k n x) (hn : n ≤ 126) : fin k x := Nat.lt_of_le_of_lt h.2 (pwr_fin hn)
theorem Lim.mono {k : FloatKind} {m n x : Nat} (h : Lim k m x) (hn : m ≤ n) : Lim k n x := ⟨h.1, Nat.le_trans h.2 (pwr_le hn)⟩
theorem Lim.zero (k : FloatKind) (n : Nat) : Lim k n 0 := ⟨Nat.two_pow_pos _, by rw [show rg k.format 0 = 0 by cases k <;> decide]; exact Nat.zero_le _⟩

/-- A binary operation on words, where it gives a number. -/
def fo (op : BinOp) (k : FloatKind) (x y : Nat) : Nat := (floatBits op k x y).getD 0
theorem fo_of {op : BinOp} {k : FloatKind} {x y r : Nat} (h : floatBits op k x y = some r) : fo op k x y = r := by unfold fo; rw [h]; rfl

theorem lim_mul {k : FloatKind} {m n x y : Nat} (hx : Lim k m x) (hy : Lim k n y) (h : m + n ≤ 126) : floatBits .mul k x y = some (fo .mul k x y) ∧ Lim k (m + n) (fo .mul k x y) := by
  obtain ⟨r, h1, h2, _, h4⟩ := mul_word (hx.fin (by omega)) (hy.fin (by omega))
  rw [fo_of h1]
  refine ⟨h1, h2, ?_⟩
  obtain ⟨d, hd1, hd2, hd3⟩ := dep_ex k
  rw [h4]
  have hle := Nat.mul_le_mul (V_le k.format hx.2) (V_le k.format hy.2)
  rw [hd3, hd3, ← Nat.pow_add, show d + m + (d + n) = d + (m + n) + d by omega, Nat.pow_add 2 (d + (m + n)) d, ← hd3] at hle
  have h5 := Rc_mono k.format hle (c := 2 * k.format.leastPlace) (by have := least_le k; omega)
  rw [hd2] at h5 ⊢
  rw [Rc_exact k.format (pwr_fin h)] at h5
  exact h5

theorem lim_sum {k : FloatKind} {n x y r : Nat} {T : Int} (hx : Lim k n x) (hy : Lim k n y) (h : n + 1 ≤ 126) (hT : T.natAbs ≤ V k.format (rg k.format x) + V k.format (rg k.format y)) (hr : rg k.format r = Rc k.format k.format.leastPlace T.natAbs) : rg k.format r ≤ pwr k (n + 1) := by
  obtain ⟨d, hd1, hd2, hd3⟩ := dep_ex k
  have h1 := V_le k.format hx.2
  have h2 := V_le k.format hy.2
  have h3 : V k.format (pwr k (n + 1)) = V k.format (pwr k n) + V k.format (pwr k n) := by
    rw [hd3, hd3, ← Nat.add_assoc, Nat.pow_succ]; omega
  have h5 := Rc_mono k.format (show T.natAbs ≤ V k.format (pwr k (n + 1)) by omega) (c := k.format.leastPlace) (Int.le_refl _)
  rw [Rc_same (pwr_fin h)] at h5
  rw [hr]
  exact h5

theorem lim_add {k : FloatKind} {n x y : Nat} (hx : Lim k n x) (hy : Lim k n y) (h : n + 1 ≤ 126) : floatBits .add k x y = some (fo .add k x y) ∧ Lim k (n + 1) (fo .add k x y) := by
  obtain ⟨r, h1, h2, _, _, h4⟩ := add_word (hx.fin (by omega)) (hy.fin (by omega))
  rw [fo_of h1]
  refine ⟨h1, h2, lim_sum hx hy h ?_ h4⟩
  rw [← iv_abs, ← iv_abs]
  omega

theorem lim_sub {k : FloatKind} {n x y : Nat} (hx : Lim k n x) (hy : Lim k n y) (h : n + 1 ≤ 126) : floatBits .sub k x y = some (fo .sub k x y) ∧ Lim k (n + 1) (fo .sub k x y) := by
  obtain ⟨r, h1, h2, _, h4⟩ := sub_word (hx.fin (by omega)) (hy.fin (by omega))
  rw [fo_of h1]
  refine ⟨h1, h2, lim_sum hx hy h ?_ h4⟩
  rw [← iv_abs, ← iv_abs]
  omega

/-- The powers of two in both formats. -/
theorem pwr_gap (n : Nat) : V Ieee.double (pwr .f64 n) = V Ieee.single (pwr .f32 n) * 2 ^ gap := by
  obtain ⟨E, hE⟩ : ∃ E : Nat, E = 1022 := ⟨_, rfl⟩
  obtain ⟨F, hF⟩ : ∃ F : Nat, F = 126 := ⟨_, rfl⟩
  have h1 := V_ek Ieee.double (e := n + E) (k := Ieee.double.binade) (Or.inr (Nat.le_refl _)) (by omega)
  have h2 := V_ek Ieee.single (e := n + F) (k := Ieee.single.binade) (Or.inr (Nat.le_refl _)) (by omega)
  have e1 : (n + E) * Ieee.double.binade + Ieee.double.binade = pwr .f64 n := by
    subst hE
    show (n + 1022) * Ieee.double.binade + Ieee.double.binade = n * Ieee.double.binade + oneW .f64
    rw [Nat.add_mul, show oneW .f64 = 1022 * Ieee.double.binade + Ieee.double.binade by decide]
    omega
  have e2 : (n + F) * Ieee.single.binade + Ieee.single.binade = pwr .f32 n := by
    subst hF
    show (n + 126) * Ieee.single.binade + Ieee.single.binade = n * Ieee.single.binade + oneW .f32
    rw [Nat.add_mul, show oneW .f32 = 126 * Ieee.single.binade + Ieee.single.binade by decide]
    omega
  rw [e1] at h1
  rw [e2] at h2
  rw [h1, h2, show Ieee.single.binade = 2 ^ 23 from rfl, show Ieee.double.binade = 2 ^ 52 from rfl, ← Nat.pow_add, ← Nat.pow_add, ← Nat.pow_add]
  generalize hG : gap = G
  have : G = 925 := hG.symm
  rw [show 52 + (n + E) = 23 + (n + F) + G by omega]

theorem lim_wd {n x : Nat} (h : Lim .f32 n x) (hn : n ≤ 126) : Lim .f64 n (wd x) := by
  obtain ⟨_, _, h1, h2, _⟩ := wd_facts (h.fin hn)
  refine ⟨h2, ?_⟩
  rcases Nat.lt_or_ge (pwr .f64 n) (rg FloatKind.f64.format (wd x)) with hlt | hge
  · have h3 := V_lt Ieee.double hlt
    have h4 := Nat.mul_le_mul_right (2 ^ gap) (V_le Ieee.single h.2)
    rw [pwr_gap] at h3
    have h5 : V Ieee.double (rg Ieee.double (wd x)) = V Ieee.single (rg Ieee.single x) * 2 ^ gap := h1
    have h6 : V Ieee.single (pwr .f32 n) * 2 ^ gap < V Ieee.double (rg Ieee.double (wd x)) := h3
    have h7 : V Ieee.single (rg Ieee.single x) * 2 ^ gap ≤ V Ieee.single (pwr .f32 n) * 2 ^ gap := h4
    rw [h5] at h6
    exact absurd (Nat.lt_of_lt_of_le h6 h7) (Nat.lt_irrefl _)
  · exact hge

theorem lim_nw {n x : Nat} (h : Lim .f64 n x) (hn : n ≤ 126) : Lim .f32 n (nw x) := by
  obtain ⟨m, e, h1, h2, _⟩ := read_fin Ieee.double (h.fin hn)
  have hd : FloatKind.f64.decode x = .number (sg Ieee.double x) m (Ieee.double.leastPlace + e) := h1
  have hw : nw x = Ieee.single.nearest (sg Ieee.double x) m (Ieee.double.leastPlace + e) := by unfold nw; rw [hd]; rfl
  rw [nearest_Rc Ieee.single _ _ (by decide), h2] at hw
  obtain ⟨g1, g2, g3⟩ := word_facts .f32 (sg Ieee.double x) (Rc_le_inf Ieee.single Ieee.double.leastPlace (V Ieee.double (rg Ieee.double x)))
  have hw' : nw x = FloatKind.f32.format.word (sg Ieee.double x) (Rc FloatKind.f32.format Ieee.double.leastPlace (V Ieee.double (rg Ieee.double x))) := hw
  rw [hw']
  refine ⟨g3, Nat.le_trans (Nat.le_of_eq g2) ?_⟩
  have hle := V_le Ieee.double h.2
  have h3 : V Ieee.double (rg Ieee.double x) ≤ V Ieee.single (pwr .f32 n) * 2 ^ gap := by rw [← pwr_gap]; exact hle
  have h5 := Rc_mono Ieee.single h3 (c := Ieee.double.leastPlace) (by decide)
  rw [show Ieee.double.leastPlace = Ieee.single.leastPlace - (gap : Nat) by decide] at h5 ⊢
  rw [Rc_exact Ieee.single (pwr_fin hn)] at h5
  exact h5
end Go.Proofs.Ytfhaopdaakjghaa
