import Derived.Test.YtfhaopdaakjghaaBodyA
namespace Go.Proofs.Ytfhaopdaakjghaa
open Go.RowKit Go.Fl

/-- A call that gives a new body; what lay below stays. -/
def RetBody (most : Nat) (w : World) (e : Ending) (w' : World) : Prop :=
  ∃ v xs, e = .returned (.agg #[v]) ∧ w'.ownsRow w.heap.size 55 2 v xs.length (flat xs) ∧ xs.length ≤ most ∧ (∀ x ∈ xs, okX x) ∧ Below w.heap.size w w'

theorem owns_one {w : World} {base size n : Nat} {e : TypeId} {v : Value} {xs : List Value} (h : w.ownsRow base e size v n xs) : v.oneCell' = true := by
  rcases h.2 with ⟨rfl, _⟩ | ⟨g, c', _, rfl, _⟩ <;> rfl

theorem l2Body_zero (most : Nat) {b : Nat} {a : Option Addr} {len cap : Nat} (w : World) (h : CurP w b a len cap) :
    Calls Try.prog 15 #[.pointer (some ⟨b, 0, none⟩), .int .i64 0] w (DrawsB most b a len cap w) :=
  (l2Body_c (most := 0) (by omega) w h).mono fun e w' ⟨v, xs, h1, h2, h3, h4, h5⟩ => ⟨v, xs, h1, h2, by omega, h4, h5⟩

theorem below_set {B K : Nat} {w w' : World} (h : Below B w w') (hK : B ≤ K) (j : Nat) (v : Value) : Below B w (w'.setCell ⟨K, j, none⟩ v) :=
  ⟨h.os, h.tape, h.output, by simpa [World.setCell] using h.size, fun k hk => by rw [Below.heap_setCell _ _ _ _ (show k ≠ K by omega)]; exact h.block k hk⟩

set_option maxRecDepth 10000 in
set_option maxHeartbeats 2000000 in
theorem makeBody_c {most : Nat} (hmost : most ≤ 16) {a : Option Addr} {len cap : Nat} (w : World) (h : BsP w a len) (hl : len ≤ 1048576) :
    Calls Try.prog 7 #[.slice a len cap, .int .i64 most] w (RetBody most w) := by
  have H := Lib.hid h
  clear h
  have m1 : min (most : Int) 16 = most := by omega
  have m2 : max (0 : Int) (most : Int) = most := by omega
  go_enter Try.func7, Try.ntmps7
  go_upto_region 1 with fail
  have C0 := Lib.hid (H.out.alloc (.cells #[.slice none 0 0] 30))
  have R0 := Lib.hid (heap_alloc_new w (.cells #[.slice none 0 0] 30))
  have B0 : Below w.heap.size w (w.alloc (.cells #[.slice none 0 0] 30)) := (Below.refl _ _).alloc (Nat.le_refl _) _
  have hR0 : w.heap.size < (w.alloc (.cells #[.slice none 0 0] 30)).heap.size := by rw [World.size_alloc]; omega
  generalize w.alloc (.cells #[.slice none 0 0] 30) = W0 at *
  generalize hR : w.heap.size = R at *
  have HR := Lib.hid hR
  have hbR := Lib.hid hR0
  go_wp2_with fail
  refine (l01New_c _ C0.out hl).mono ?_
  rintro e W1 ⟨rfl, c1, b1⟩
  have R1 := Lib.hid ((b1.block _ hR0).trans R0.out)
  have B1 := B0.trans (b1.mono (Nat.le_of_lt hR0))
  have C1 := Lib.hid c1
  have hR1 : R < W1.heap.size := Nat.lt_of_lt_of_le hR0 b1.size
  clear c1 b1 R0
  go_wp2_with fail
  case inr =>
    refine (l2Body_zero most _ C1.out).mono ?_
    rintro e W2 ⟨v, xs, rfl, hown, hlen, hok, d2⟩
    have hR2 : W2.heap[R]? = some (.cells #[.slice none 0 0] 30 (0, 0)) := (d2.2.block R hR1 (by have := B0.size; have := hbR.out; simp; omega)).trans R1.out
    have B2 : Below R w W2 := B1.trans ((Below.refl _ _).grown d2.2 (Nat.le_of_lt hR1) (fun k hk => by cases hk; exact Nat.le_of_lt hR0))
    have hst0 := run_store_one (P := Try.prog) (owns_one hown) (show W2.cell? ⟨R, 0, none⟩ = some (.slice none 0 0) by rw [cur_cell hR2]; rfl) (cur_free hR2 0)
    have hst : (storeCells ⟨R, 0, none⟩ [v]).run Try.prog W2 = .ok () (W2.setCell ⟨R, 0, none⟩ v) := by simp [storeCells, Addr.add, hst0]
    have hR5 := Lib.hid (cur_set hR2 0 v)
    have B5 := Lib.hid (below_set B2 (Nat.le_refl _) 0 v)
    have hown5 := Lib.hid (owns_le (base' := R) (ownsRow_setCell_other (a := ⟨R, 0, none⟩) hown (fun e => by have := (hown.lt _ e).1; simp at this; omega) v) (Nat.le_of_lt hR1))
    have OK := Lib.hid hok
    clear hR2 hown d2 hok B2 R1 C1 B1
    go_wp2_with fail
    refine bodyPost_ret_by (v := .agg #[v]) ?_ rfl ⟨v, xs, rfl, ?_, hlen, OK.out, ?_⟩
    · exact results_cell_row rfl _ _ R _ #[v] _ _ rfl hR5.out Try.underlying30 rfl (by kernel_rfl)
    · rw [HR.out]; exact hown5.out
    · rw [HR.out]; exact B5.out
  case inl =>
    refine (l2Body_c hmost _ C1.out).mono ?_
    rintro e W2 ⟨v, xs, rfl, hown, hlen, hok, d2⟩
    have hR2 : W2.heap[R]? = some (.cells #[.slice none 0 0] 30 (0, 0)) := (d2.2.block R hR1 (by have := B0.size; have := hbR.out; simp; omega)).trans R1.out
    have B2 : Below R w W2 := B1.trans ((Below.refl _ _).grown d2.2 (Nat.le_of_lt hR1) (fun k hk => by cases hk; exact Nat.le_of_lt hR0))
    have hst0 := run_store_one (P := Try.prog) (owns_one hown) (show W2.cell? ⟨R, 0, none⟩ = some (.slice none 0 0) by rw [cur_cell hR2]; rfl) (cur_free hR2 0)
    have hst : (storeCells ⟨R, 0, none⟩ [v]).run Try.prog W2 = .ok () (W2.setCell ⟨R, 0, none⟩ v) := by simp [storeCells, Addr.add, hst0]
    have hR5 := Lib.hid (cur_set hR2 0 v)
    have B5 := Lib.hid (below_set B2 (Nat.le_refl _) 0 v)
    have hown5 := Lib.hid (owns_le (base' := R) (ownsRow_setCell_other (a := ⟨R, 0, none⟩) hown (fun e => by have := (hown.lt _ e).1; simp at this; omega) v) (Nat.le_of_lt hR1))
    have OK := Lib.hid hok
    clear hR2 hown d2 hok B2 R1 C1 B1
    go_wp2_with fail
    refine bodyPost_ret_by (v := .agg #[v]) ?_ rfl ⟨v, xs, rfl, ?_, hlen, OK.out, ?_⟩
    · exact results_cell_row rfl _ _ R _ #[v] _ _ rfl hR5.out Try.underlying30 rfl (by kernel_rfl)
    · rw [HR.out]; exact hown5.out
    · rw [HR.out]; exact B5.out
end Go.Proofs.Ytfhaopdaakjghaa
