import Derived.Test.YtfhaopdaakjghaaRnd3
import Derived.Test.YtfhaopdaakjghaaEqS
namespace Go.Proofs.Ytfhaopdaakjghaa
open Go.RowKit Go.Fl

theorem okB_iff (x : MW) (h : wfX x) : okB x = true ↔ fin .f32 x.a ∧ fin .f32 x.b ∧ pok x.a x.b = true ∧ (cfin (wide (cl .f32 x.c, cl .f32 x.d)) && ple (fabs .f64 (wide (cl .f32 x.c, cl .f32 x.d)).1) gain64 && ple (fabs .f64 (wide (cl .f32 x.c, cl .f32 x.d)).2) gain64) = true := by
  have fin_of : ∀ {u : Nat}, u < 2 ^ 32 → isFin .f64 (fconv .f32 .f64 (cl .f32 u)) = true → fin .f32 u := fun {u} hu h => by
    unfold cl at h
    split at h
    · cases h
    · rename_i hn
      have hle := rg_le_of_not_nan (k := .f32) (by simpa using hn)
      rcases Nat.lt_or_eq_of_le hle with h1 | h1
      · exact h1
      · exfalso
        have hr := read_inf Ieee.single (okf .f32) (b := u) h1
        have : fconv .f32 .f64 (some u) = some (Ieee.double.write (Ieee.single.read u)) := rfl
        rw [this, hr] at h
        generalize sg Ieee.single u = s at h
        revert h
        cases s <;> decide
  unfold okB okMode clM
  constructor
  · intro hh
    simp only [Bool.and_eq_true] at hh
    obtain ⟨⟨⟨⟨h1, h2⟩, h3⟩, h4⟩, h5⟩ := hh
    have h1' := h1
    unfold cfin at h1'
    simp only [Bool.and_eq_true] at h1'
    have fa := fin_of h.1 h1'.1
    have fb := fin_of h.2.1 h1'.2
    refine ⟨fa, fb, ?_, by simp [h2, h4, h5]⟩
    unfold wide at h3
    rw [(wd_facts fa).2.2.2.2, (wd_facts fb).2.2.2.2] at h3
    exact h3
  · rintro ⟨fa, fb, hp, hg⟩
    simp only [Bool.and_eq_true] at hg ⊢
    have e : wide (cl .f32 x.a, cl .f32 x.b) = (some (wd x.a), some (wd x.b)) := by
      unfold wide
      rw [(wd_facts fa).2.2.2.2, (wd_facts fb).2.2.2.2]
    rw [e]
    refine ⟨⟨⟨⟨?_, hg.1.1⟩, hp⟩, hg.1.2⟩, hg.2⟩
    unfold cfin isFin
    simp only [Bool.and_eq_true, decide_eq_true_eq]
    exact ⟨(wd_facts fa).1, (wd_facts fb).1⟩

/-- A mode whose pole becomes no greater stays one. -/
theorem okB_mono {x : MW} {p q : Nat} (h : wfX x) (hk : okB x = true) (hp : p < 2 ^ 32) (hq : q < 2 ^ 32) (h1 : rg Ieee.single p ≤ rg Ieee.single x.a) (h2 : rg Ieee.single q ≤ rg Ieee.single x.b) :
    wfX ⟨p, q, x.c, x.d⟩ ∧ okB ⟨p, q, x.c, x.d⟩ = true := by
  obtain ⟨fa, fb, hpk, hg⟩ := (okB_iff x h).1 hk
  have hw : wfX ⟨p, q, x.c, x.d⟩ := ⟨hp, hq, h.2.2.1, h.2.2.2⟩
  have fp : fin .f32 p := Nat.lt_of_le_of_lt h1 fa
  have fq : fin .f32 q := Nat.lt_of_le_of_lt h2 fb
  exact ⟨hw, (okB_iff _ hw).2 ⟨fp, fq, pok_mono fa fb fp fq h1 h2 hpk, hg⟩⟩

/-- Numbers of the same worth are equal. -/
theorem weq_of {x y : Nat} (hx : fin .f32 x) (hr : rg Ieee.single y = rg Ieee.single x) (hs : rg Ieee.single x ≠ 0 → sg Ieee.single y = sg Ieee.single x) : weq y x = true := by
  unfold weq
  rw [order_le (k := .f32) (x := y) (y := x) (by show rg Ieee.single y ≤ _; rw [hr]; exact Nat.le_of_lt hx) (Nat.le_of_lt hx)]
  have : iv Ieee.single y = iv Ieee.single x := by
    by_cases h0 : rg Ieee.single x = 0
    · rw [iv_zero h0, iv_zero (hr.trans h0)]
    · unfold iv; rw [hr, hs h0]
  show (some (compare (iv Ieee.single y) (iv Ieee.single x)) == some .eq) = true
  rw [this]
  simp

/-- Are two numbers equal, then also the other way round. -/
theorem weq_comm {x y : Nat} (hx : fin .f32 x) (hy : fin .f32 y) : weq x y = weq y x := by
  unfold weq
  rw [order_le (k := .f32) (Nat.le_of_lt hx) (Nat.le_of_lt hy), order_le (k := .f32) (Nat.le_of_lt hy) (Nat.le_of_lt hx)]
  generalize iv FloatKind.f32.format x = a
  generalize iv FloatKind.f32.format y = b
  rw [Bool.eq_iff_iff]
  simp only [beq_iff_eq, Option.some.injEq, Int.compare_eq_eq]
  omega
end Go.Proofs.Ytfhaopdaakjghaa
