import Derived.Test.YtfhaopdaakjghaaBodyD
import Derived.Lib.BufferMore
namespace Go.Proofs.Ytfhaopdaakjghaa
open Go.RowKit Go.Fl

theorem flat_get {xs : List MW} {i : Nat} (hi : i < xs.length) : (flat xs)[i * 2]? = some (.complex .f32 xs[i].a xs[i].b) ∧ (flat xs)[i * 2 + 1]? = some (.complex .f32 xs[i].c xs[i].d) := by
  induction xs generalizing i with
  | nil => simp at hi
  | cons x xs ih =>
    have e : flat (x :: xs) = .complex .f32 x.a x.b :: .complex .f32 x.c x.d :: flat xs := rfl
    rw [e]
    cases i with
    | zero => exact ⟨rfl, rfl⟩
    | succ i =>
      rw [show (i + 1) * 2 = i * 2 + 2 by omega, show i * 2 + 2 + 1 = i * 2 + 1 + 2 by omega]
      simp only [List.getElem?_cons_succ, List.getElem_cons_succ]
      exact ih (by simpa using hi)

theorem flat_one (xs : List MW) : ∀ u ∈ flat xs, u.oneCell' = true := fun u hu => by
  unfold flat at hu
  obtain ⟨x, _, hx⟩ := List.mem_flatMap.1 hu
  exact two_ok rfl rfl u hx

/-- What a slice of modes shows, cell by cell. -/
theorem MsP.cells {w : World} {ad : Addr} {xs : List MW} (h : MsP w (some ad) xs) : ∀ j u, (flat xs)[j]? = some u → w.cell? (ad.add j) = some u := by
  intro j u hu
  have hlt : j < xs.length * 2 := by
    rcases Nat.lt_or_ge j (flat xs).length with hh | hh
    · rwa [flat_length] at hh
    · rw [List.getElem?_eq_none hh] at hu; cases hu
  have hi : j / 2 < xs.length := by omega
  obtain ⟨g, off, e, h1, h2, _⟩ := h (j / 2) hi
  cases e
  obtain ⟨f1, f2⟩ := flat_get hi
  have ha : (⟨g, off, none⟩ : Addr).add j = ⟨g, off + j, none⟩ := by unfold Addr.add; split <;> simp_all
  rw [ha]
  rcases Nat.mod_two_eq_zero_or_one j with hm | hm
  · have e : j / 2 * 2 = j := by omega
    rw [e] at f1 h1
    rw [f1] at hu; cases hu; exact h1
  · have e : j / 2 * 2 + 1 = j := by omega
    rw [e] at f2
    rw [Nat.add_assoc, e] at h2
    rw [f2] at hu; cases hu; exact h2

/-- What is owned lies as a slice of modes. -/
theorem MsP.of_owns {w : World} {base n : Nat} {a : Option Addr} {cap : Nat} {xs : List MW} (hn : n = xs.length) (h : w.ownsRow base 55 2 (.slice a n cap) n (flat xs)) : MsP w a xs := by
  subst hn
  intro i hi
  rcases h.2 with ⟨e, h0⟩ | ⟨g, c, cur, e, _⟩
  · omega
  · have ea : a = some ⟨g, 0, none⟩ := by injection e
    subst ea
    have hadd : ∀ j, (⟨g, 0, none⟩ : Addr).add j = ⟨g, 0 + j, none⟩ := fun j => by unfold Addr.add; split <;> simp_all
    refine ⟨g, 0, rfl, ?_, ?_, (h.lt g rfl).2⟩
    · rw [← hadd]; exact h.cells rfl _ _ (flat_get hi).1
    · rw [Nat.add_assoc, ← hadd]; exact h.cells rfl _ _ (flat_get hi).2

/-- A call that gives a new slice of modes. -/
def RetMs (xs : List MW) (w : World) (e : Ending) (w' : World) : Prop :=
  ∃ v, e = .returned v ∧ w'.ownsRow w.heap.size 55 2 v xs.length (flat xs) ∧ Below w.heap.size w w'

end Go.Proofs.Ytfhaopdaakjghaa
