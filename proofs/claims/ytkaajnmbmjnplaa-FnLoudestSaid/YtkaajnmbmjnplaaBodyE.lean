import Derived.Test.YtkaajnmbmjnplaaBodyD
import Derived.Lib.BufferMore
namespace Go.Proofs.Ytkaajnmbmjnplaa
open Go.RowKit Go.Fl

theorem flat_get {xs : List MW} {i : Nat} (hi : i < xs.length) : (flat xs)[i * 2]? = some (.complex .f32 xs[i].a xs[i].b) ∧ (flat xs)[i * 2 + 1]? = some (.complex .f32 xs[i].c xs[i].d) := by
  induction xs generalizing i with
  | nil => simp at hi
  | cons x xs ih =>
    have e : flat (x :: xs) = .complex .f32 x.a x.b :: .complex .f32 x.c x.d :: flat xs := rfl
    rw [e]
    cases i with
    | zero => exact ⟨rfl, rfl⟩
    | succ i =>
      rw [show (i + 1) * 2 = i * 2 + 2 by omega, show i * 2 + 2 + 1 = i * 2 + 1 + 2 by omega]
      simp only [List.getElem?_cons_succ, List.getElem_cons_succ]
      exact ih (by simpa using hi)

theorem flat_one (xs : List MW) : ∀ u ∈ flat xs, u.oneCell' = true := fun u hu => by
  unfold flat at hu
  obtain ⟨x, _, hx⟩ := List.mem_flatMap.1 hu
  exact two_ok rfl rfl u hx

/-- What a slice of modes shows, cell by cell. -/
theorem MsP.cells {w : World} {ad : Addr} {xs : List MW} (h : MsP w (some ad) xs) : ∀ j u, (flat xs)[j]? = some u → w.cell? (ad.add j) = some u := by
  intro j u hu
  have hlt : j < xs.length * 2 := by
    rcases Nat.lt_or_ge j (flat xs).length with hh | hh
    · rwa [flat_length] at hh
    · rw [List.getElem?_eq_none hh] at hu; cases hu
  have hi : j / 2 < xs.length := by omega
  obtain ⟨g, off, e, h1, h2, _⟩ := h (j / 2) hi
  cases e
  obtain ⟨f1, f2⟩ := flat_get hi
  have ha : (⟨g, off, none⟩ : Addr).add j = ⟨g, off + j, none⟩ := by unfold Addr.add; split <;> simp_all
  rw [ha]
  rcases Nat.mod_two_eq_zero_or_one j with hm | hm
  · have e : j / 2 * 2 = j := by omega
    rw [e] at f1 h1
    rw [f1] at hu; cases hu; exact h1
  · have e : j / 2 * 2 + 1 = j := by omega
    rw [e] at f2
    rw [Nat.add_assoc, e] at h2
    rw [f2] at hu; cases hu; exact h2

/-- What is owned lies as a slice of modes. -/
theorem MsP.of_owns {w : World} {base n : Nat} {a : Option Addr} {cap : Nat} {xs : List MW} (hn : n = xs.length) (h : w.ownsRow base 33 2 (.slice a n cap) n (flat xs)) : MsP w a xs := by
  subst hn
  intro i hi
  rcases h.2 with ⟨e, h0⟩ | ⟨g, c, cur, e, _⟩
  · omega
  · have ea : a = some ⟨g, 0, none⟩ := by injection e
    subst ea
    have hadd : ∀ j, (⟨g, 0, none⟩ : Addr).add j = ⟨g, 0 + j, none⟩ := fun j => by unfold Addr.add; split <;> simp_all
    refine ⟨g, 0, rfl, ?_, ?_, (h.lt g rfl).2⟩
    · rw [← hadd]; exact h.cells rfl _ _ (flat_get hi).1
    · rw [Nat.add_assoc, ← hadd]; exact h.cells rfl _ _ (flat_get hi).2

/-- A call that gives a new slice of modes. -/
def RetMs (xs : List MW) (w : World) (e : Ending) (w' : World) : Prop :=
  ∃ v, e = .returned v ∧ w'.ownsRow w.heap.size 33 2 v xs.length (flat xs) ∧ Below w.heap.size w w'

set_option maxRecDepth 10000 in
set_option maxHeartbeats 1000000 in
theorem clone_c {a : Option Addr} {cap : Nat} {xs : List MW} (w : World) (h : MsP w a xs) (hl : xs.length ≤ 1048576) :
    Calls Try.prog 45 #[.slice a xs.length cap] w (RetMs xs w) := by
  obtain ⟨i0, hi, hz0, hz1, hz2⟩ := info_parts' info33
  cases a with
  | none =>
    have hx : xs = [] := by
      cases xs with
      | nil => rfl
      | cons x xs => obtain ⟨g, off, e, _⟩ := h 0 (by simp); cases e
    subst hx
    have en := fun W => Lib.run_eql_slice_nil_nil (P := Try.prog) W 0 cap sliceM
    go_enter Try.func45, Try.ntmps45
    go_wp2_with fail
    go_ret
    exact ⟨_, rfl, World.ownsRow_nil _ _ _ _, Below.refl _ _⟩
  | some ad =>
    have en := fun W => Lib.run_eql_slice_some_nil (P := Try.prog) W ad xs.length cap sliceM
    go_enter Try.func45, Try.ntmps45
    have hown : (w.alloc (.cells #[] 33)).ownsRow w.heap.size 33 2 (.slice (some ⟨w.heap.size, 0, none⟩) 0 0) 0 [] := World.ownsRow_made _ _ _ (Nat.le_refl _) (by unfold maxLen; omega) (by simp)
    have h1 := h.below (w' := w.alloc (.cells #[] 33)) ((Below.refl _ _).alloc (Nat.le_refl _) _)
    have B0 : Below w.heap.size w (w.alloc (.cells #[] 33)) := (Below.refl _ _).alloc (Nat.le_refl _) _
    go_wp2_with (at_builtin; refine wpList_append_own _ rfl _ _ 23 rfl w.heap.size 33 i0 (.agg #[.complex .f32 0 0, .complex .f32 0 0]) 2 16 sliceM hi hz0 hz1 hz2 rfl (by decide) _ _ _ rfl hown _ xs.length cap (flat xs) rfl (flat_length xs) h1.cells (flat_one xs) (by unfold maxLen; omega) (by omega) (by simp) ?_; intro v' w1 hown1 hgrow1 _)
    go_ret
    refine ⟨v', rfl, ?_, B0.grown hgrow1 (by simp) (fun k hk => ?_)⟩
    · rw [Nat.zero_add] at hown1
      simpa using hown1
    · cases hk; exact Nat.le_refl _
end Go.Proofs.Ytkaajnmbmjnplaa
