import Derived.Test.YtfhaopdaakjghaaTune
import Derived.StillTailTactics
namespace Go.Proofs.Ytfhaopdaakjghaa
open Go.RowKit Go.Fl

theorem flat_set0 {xs : List MW} {i : Nat} (hi : i < xs.length) (p q : Nat) : (flat xs).set (i * 2) (.complex .f32 p q) = flat (xs.set i ⟨p, q, xs[i].c, xs[i].d⟩) := by
  induction xs generalizing i with
  | nil => simp at hi
  | cons x xs ih =>
    have e : flat (x :: xs) = .complex .f32 x.a x.b :: .complex .f32 x.c x.d :: flat xs := rfl
    rw [e]
    cases i with
    | zero => rfl
    | succ i =>
      rw [show (i + 1) * 2 = i * 2 + 1 + 1 by omega]
      simp only [List.set_cons_succ, List.getElem_cons_succ]
      rw [ih (by simpa using hi)]
      rfl

theorem flat_set1 {xs : List MW} {i : Nat} (hi : i < xs.length) (p q : Nat) : (flat xs).set (i * 2 + 1) (.complex .f32 p q) = flat (xs.set i ⟨xs[i].a, xs[i].b, p, q⟩) := by
  induction xs generalizing i with
  | nil => simp at hi
  | cons x xs ih =>
    have e : flat (x :: xs) = .complex .f32 x.a x.b :: .complex .f32 x.c x.d :: flat xs := rfl
    rw [e]
    cases i with
    | zero => rfl
    | succ i =>
      rw [show (i + 1) * 2 + 1 = i * 2 + 1 + 1 + 1 by omega]
      simp only [List.set_cons_succ, List.getElem_cons_succ]
      rw [ih (by simpa using hi)]
      rfl

/-- The first k of ys stand in a relation to those of xs, the others are the same. -/
def UpTo (D : MW → MW → Prop) (k : Nat) (ys xs : List MW) : Prop := ys.length = xs.length ∧ ∀ i (hy : i < ys.length) (hx : i < xs.length), (i < k → D ys[i] xs[i]) ∧ (k ≤ i → ys[i] = xs[i])

theorem UpTo.start (D : MW → MW → Prop) (xs : List MW) : UpTo D 0 xs xs := ⟨rfl, fun i _ _ => ⟨fun h => by omega, fun _ => rfl⟩⟩

theorem UpTo.step {D : MW → MW → Prop} {k : Nat} {ys xs : List MW} (h : UpTo D k ys xs) (hk : k < xs.length) {y : MW} (hy : D y xs[k]) : UpTo D (k + 1) (ys.set k y) xs := by
  refine ⟨by rw [List.length_set]; exact h.1, fun i hi hx => ?_⟩
  rw [List.length_set] at hi
  rw [List.getElem_set]
  split
  · rename_i e
    subst e
    exact ⟨fun _ => hy, fun h => by omega⟩
  · have := h.2 i hi hx
    exact ⟨fun h2 => this.1 (by omega), fun h2 => this.2 (by omega)⟩

theorem UpTo.at {D : MW → MW → Prop} {k : Nat} {ys xs : List MW} (h : UpTo D k ys xs) (hk : k < xs.length) : ∃ hy : k < ys.length, ys[k] = xs[k] := ⟨by rw [h.1]; exact hk, (h.2 k (by rw [h.1]; exact hk) hk).2 (Nat.le_refl _)⟩

/-- A mode whose pole is no greater. -/
def Damped (y x : MW) : Prop := wfX y ∧ rg Ieee.single y.a ≤ rg Ieee.single x.a ∧ rg Ieee.single y.b ≤ rg Ieee.single x.b ∧ y.c = x.c ∧ y.d = x.d

/-- A factor from 0 to 1. -/
structure Factor (F : Nat) : Prop where
  pos : sg Ieee.single F = false
  le : rg Ieee.single F ≤ 1065353216
  lt : F < 2 ^ 32

theorem Factor.fin {F : Nat} (h : Factor F) : fin .f32 F := Nat.lt_of_le_of_lt h.le (by decide)

theorem Factor.ge {F : Nat} (h : Factor F) : (FloatKind.f32.format.order F 0 == some .gt || FloatKind.f32.format.order F 0 == some .eq) = true := by
  rw [order_le (k := .f32) (Nat.le_of_lt h.fin) (by decide), show iv FloatKind.f32.format 0 = 0 by decide, iv_pos (f := FloatKind.f32.format) h.pos]
  generalize V FloatKind.f32.format (rg FloatKind.f32.format F) = m
  cases hc : compare ((m : Nat) : Int) 0 with
  | lt => rw [Int.compare_eq_lt] at hc; omega
  | eq => rfl
  | gt => rfl

theorem Factor.leq {F : Nat} (h : Factor F) : (FloatKind.f32.format.order F 1065353216 == some .lt || FloatKind.f32.format.order F 1065353216 == some .eq) = true := by
  rw [order_le (k := .f32) (Nat.le_of_lt h.fin) (by decide), iv_pos (f := FloatKind.f32.format) h.pos, iv_pos (f := FloatKind.f32.format) (x := 1065353216) (by decide)]
  have := V_le Ieee.single h.le
  have e : rg FloatKind.f32.format 1065353216 = 1065353216 := by decide
  rw [e]
  have h2 : V FloatKind.f32.format (rg FloatKind.f32.format F) ≤ V FloatKind.f32.format 1065353216 := this
  generalize V FloatKind.f32.format (rg FloatKind.f32.format F) = m at *
  generalize V FloatKind.f32.format 1065353216 = n at *
  cases hc : compare ((m : Nat) : Int) ((n : Nat) : Int) with
  | gt => rw [Int.compare_eq_gt] at hc; omega
  | eq => rfl
  | lt => rfl

theorem damp_words {x : MW} {F : Nat} (hw : wfX x) (fa : fin .f32 x.a) (fb : fin .f32 x.b) (h : Factor F) : ∃ p q, floatBits .mul .f32 x.a F = some p ∧ floatBits .mul .f32 x.b F = some q ∧ Damped ⟨p, q, x.c, x.d⟩ x := by
  obtain ⟨p, p1, p2, _, p4⟩ := mul_word fa h.fin
  obtain ⟨q, q1, q2, _, q4⟩ := mul_word fb h.fin
  exact ⟨p, q, p1, q1, ⟨p2, q2, hw.2.2.1, hw.2.2.2⟩, mul_small fa h.le p4, mul_small fb h.le q4, rfl, rfl⟩

end Go.Proofs.Ytfhaopdaakjghaa
