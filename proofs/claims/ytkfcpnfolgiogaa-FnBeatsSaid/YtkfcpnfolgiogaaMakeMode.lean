import Derived.Test.YtkfcpnfolgiogaaModeG
namespace Go.Proofs.Ytkfcpnfolgiogaa
open Go.RowKit Go.Fl

theorem below_set {B K : Nat} {w w' : World} (h : Below B w w') (hK : B ≤ K) (j : Nat) (v : Value) : Below B w (w'.setCell ⟨K, j, none⟩ v) :=
  ⟨h.os, h.tape, h.output, by simpa [World.setCell] using h.size, fun k hk => by rw [Below.heap_setCell _ _ _ _ (show k ≠ K by omega)]; exact h.block k hk⟩

/-- A call that gives a mode; what lay below stays. -/
def RetMode (w : World) (e : Ending) (w' : World) : Prop := ∃ m x, e = .returned x.val ∧ FM m x ∧ okMode m = true ∧ Below w.heap.size w w'

def constMode : MQ := ((cl .f32 1056964608, cl .f32 1048576000), (cl .f32 1065353216, cl .f32 0))
theorem ok_const : okMode constMode = true := by decide +kernel

set_option maxRecDepth 10000 in
set_option maxHeartbeats 4000000 in
theorem makeMode_c {a : Option Addr} {len cap : Nat} (w : World) (h : BsP w a len) (hl : len ≤ 1048576) :
    Calls Try.prog 24 #[.slice a len cap] w (RetMode w) := by
  have H := Lib.hid h
  clear h
  have t0 := store_new0
  have t1 := store_new1
  go_enter Try.func24, Try.ntmps24
  go_upto_region 1 with fail
  have C0 := Lib.hid (H.out.alloc (.cells #[.complex .f32 0 0, .complex .f32 0 0] 43))
  have R0 := Lib.hid (heap_alloc_new w (.cells #[.complex .f32 0 0, .complex .f32 0 0] 43))
  have B0 : Below w.heap.size w (w.alloc (.cells #[.complex .f32 0 0, .complex .f32 0 0] 43)) := (Below.refl _ _).alloc (Nat.le_refl _) _
  have hR0 : w.heap.size < (w.alloc (.cells #[.complex .f32 0 0, .complex .f32 0 0] 43)).heap.size := by rw [World.size_alloc]; omega
  generalize w.alloc (.cells #[.complex .f32 0 0, .complex .f32 0 0] 43) = W0 at *
  go_wp2_with fail
  refine (l01New_c _ C0.out hl).mono ?_
  rintro e w1 ⟨rfl, c1, b1⟩
  have R1 := Lib.hid ((b1.block _ hR0).trans R0.out)
  have B1 := B0.trans (b1.mono (Nat.le_of_lt hR0))
  have C1 := Lib.hid c1
  have hs1 : w.heap.size < w1.heap.size := Nat.lt_of_lt_of_le hR0 b1.size
  clear c1 b1 R0
  go_wp2_with fail
  refine (l2Mode_c _ C1.out).mono ?_
  rintro e w2 ⟨m, x, rfl, fm, d2⟩
  have R2 := Lib.hid ((d2.2.block w.heap.size hs1 (by simp; omega)).trans R1.out)
  have B2 : Below w.heap.size w w2 := B1.trans ((Below.refl _ _).grown d2.2 (Nat.le_of_lt hs1) (fun k hk => by cases hk; omega))
  have hs2 : w.heap.size < w2.heap.size := Nat.lt_of_lt_of_le hs1 d2.2.size
  clear d2 R1 B1 C1 B0 C0
  obtain ⟨v1, v2, v3, v4⟩ := x
  go_upto_region 2 with fail
  have R3 := Lib.hid ((heap_alloc_old w2 (.cells #[.complex .f32 v1 v2, .complex .f32 v3 v4] 43) hs2).trans R2.out)
  have K3 := Lib.hid (heap_alloc_new w2 (.cells #[.complex .f32 v1 v2, .complex .f32 v3 v4] 43))
  have B3 := B2.alloc (Nat.le_of_lt hs2) (.cells #[.complex .f32 v1 v2, .complex .f32 v3 v4] 43)
  have hs3 : w2.heap.size < (w2.alloc (.cells #[.complex .f32 v1 v2, .complex .f32 v3 v4] 43)).heap.size := by rw [World.size_alloc]; omega
  generalize w2.alloc (.cells #[.complex .f32 v1 v2, .complex .f32 v3 v4] 43) = W3 at *
  generalize w2.heap.size = K at *
  clear R2 B2 t0 t1
  have c0 := cur_cell K3.out 0
  have c1 := cur_cell K3.out 1
  simp at c0 c1
  go_wp2_with fail
  refine (isModeSpec_c (x := ⟨v1, v2, v3, v4⟩) fm _).mono ?_
  rintro e W4 ⟨rfl, b4⟩
  have R4 := (b4.block w.heap.size (Nat.lt_trans hs2 hs3)).trans R3.out
  have K4 := (b4.block K hs3).trans K3.out
  have B4 := Lib.hid (B3.trans (b4.mono (Nat.le_of_lt (Nat.lt_trans hs2 hs3))))
  clear b4 R3 K3 B3 c0 c1
  have c0 := cur_cell K4 0
  have c1 := cur_cell K4 1
  simp at c0 c1
  have key : ∀ u1 u2 u3 u4 : Nat, (store ⟨w.heap.size, 0, none⟩ (.complex .f32 u1 u2)).run Try.prog W4 = .ok () (W4.setCell ⟨w.heap.size, 0, none⟩ (.complex .f32 u1 u2)) ∧
      (store ⟨w.heap.size, 1, none⟩ (.complex .f32 u3 u4)).run Try.prog (W4.setCell ⟨w.heap.size, 0, none⟩ (.complex .f32 u1 u2)) = .ok () ((W4.setCell ⟨w.heap.size, 0, none⟩ (.complex .f32 u1 u2)).setCell ⟨w.heap.size, 1, none⟩ (.complex .f32 u3 u4)) ∧
      Hid (((W4.setCell ⟨w.heap.size, 0, none⟩ (.complex .f32 u1 u2)).setCell ⟨w.heap.size, 1, none⟩ (.complex .f32 u3 u4)).heap[w.heap.size]? = some (.cells #[.complex .f32 u1 u2, .complex .f32 u3 u4] 43 (0, 0))) ∧
      Hid (Below w.heap.size w ((W4.setCell ⟨w.heap.size, 0, none⟩ (.complex .f32 u1 u2)).setCell ⟨w.heap.size, 1, none⟩ (.complex .f32 u3 u4))) := fun u1 u2 u3 u4 => by
    have hR5 := cur_set R4 0 (.complex .f32 u1 u2)
    exact ⟨run_store_one rfl (by rw [cur_cell R4]; rfl) (cur_free R4 0), run_store_one rfl (by rw [cur_cell hR5]; rfl) (cur_free hR5 1), Lib.hid (cur_set hR5 1 (.complex .f32 u3 u4)), Lib.hid (below_set (below_set B4.out (Nat.le_refl _) _ _) (Nat.le_refl _) _ _)⟩
  cases ht : okMode m
  · obtain ⟨s0, s1, HR, HB⟩ := key 1056964608 1048576000 1065353216 0
    clear key R4 K4
    go_wp2_with fail
    refine bodyPost_ret_by (v := .agg #[.complex .f32 1056964608 1048576000, .complex .f32 1065353216 0]) ?_ rfl ⟨constMode, ⟨1056964608, 1048576000, 1065353216, 0⟩, rfl, ⟨FV.of_lt (k := .f32) (by decide), FV.of_lt (k := .f32) (by decide), FV.of_lt (k := .f32) (by decide), FV.of_lt (k := .f32) (by decide)⟩, ok_const, HB.out⟩
    exact results_cell_row rfl _ _ w.heap.size _ #[.complex .f32 1056964608 1048576000, .complex .f32 1065353216 0] _ _ rfl HR.out Try.underlying43 rfl (by kernel_rfl)
  · obtain ⟨s0, s1, HR, HB⟩ := key v1 v2 v3 v4
    clear key R4 K4
    go_wp2_with fail
    refine bodyPost_ret_by (v := .agg #[.complex .f32 v1 v2, .complex .f32 v3 v4]) ?_ rfl ⟨m, ⟨v1, v2, v3, v4⟩, rfl, fm, ht, HB.out⟩
    exact results_cell_row rfl _ _ w.heap.size _ #[.complex .f32 v1 v2, .complex .f32 v3 v4] _ _ rfl HR.out Try.underlying43 rfl (by kernel_rfl)
end Go.Proofs.Ytkfcpnfolgiogaa
