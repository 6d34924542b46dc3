import Derived.Test.YtkaajnmbmjnplaaDamp
namespace Go.Proofs.Ytkaajnmbmjnplaa
open Go.RowKit Go.Fl

/-- A mode whose pole is worth what it was. -/
def Tuned (y x : MW) : Prop := Worth y.a x.a ∧ Worth y.b x.b ∧ y.c = x.c ∧ y.d = x.d

theorem tune_ready {x : MW} (fa : fin .f32 x.a) (fb : fin .f32 x.b) : ∃ p q, (∀ w, Calls Try.prog 31 #[.complex .f32 x.a x.b, .complex .f32 1065353216 0] w fun e w' => e = .returned (.complex .f32 p q) ∧ w' = w) ∧ Tuned ⟨p, q, x.c, x.d⟩ x := by
  obtain ⟨re, im, h, h1, h2, h3, h4⟩ := tune_words fa fb
  have f1 : fin .f32 1065353216 := by unfold fin; decide
  have f0 : fin .f32 0 := by unfold fin; decide
  have g3 : fin .f32 (nw re) := by unfold fin; exact Nat.lt_of_le_of_lt (Nat.le_of_eq h3.2.1) fa
  have g4 : fin .f32 (nw im) := by unfold fin; exact Nat.lt_of_le_of_lt (Nat.le_of_eq h4.2.1) fb
  exact ⟨_, _, fun w => multiplyS_c fa fb f1 f0 h h1 h2 g3 g4 w, h3, h4, rfl, rfl⟩

theorem Tuned.damped {y x : MW} (hw : wfX x) (h : Tuned y x) : Damped y x := by
  obtain ⟨h1, h2, h3, h4⟩ := h
  exact ⟨⟨h1.1, h2.1, by rw [h3]; exact hw.2.2.1, by rw [h4]; exact hw.2.2.2⟩, Nat.le_of_eq h1.2.1, Nat.le_of_eq h2.2.1, h3, h4⟩

theorem Damped.ok {y x : MW} (hw : wfX x) (hk : okB x = true) (h : Damped y x) : wfX y ∧ okB y = true := by
  obtain ⟨h1, h2, h3, h4, h5⟩ := h
  have := okB_mono hw hk h1.1 h1.2.1 h2 h3
  rw [← h4, ← h5] at this
  exact this

theorem UpTo.okL {D : MW → MW → Prop} {ys xs : List MW} (hD : ∀ y x, wfX x → D y x → Damped y x) (hw : ∀ x ∈ xs, wfX x) (hk : okL xs = true) (h : UpTo D xs.length ys xs) : (∀ y ∈ ys, wfX y) ∧ Proofs.Ytkaajnmbmjnplaa.okL ys = true := by
  unfold Proofs.Ytkaajnmbmjnplaa.okL at *
  simp only [Bool.and_eq_true, decide_eq_true_eq] at hk ⊢
  have key : ∀ y ∈ ys, wfX y ∧ okB y = true := fun y hy => by
    obtain ⟨i, hi, rfl⟩ := List.getElem_of_mem hy
    have hx : i < xs.length := by rw [← h.1]; exact hi
    have hm := List.getElem_mem hx
    exact (hD _ _ (hw _ hm) ((h.2 i hi hx).1 hx)).ok (hw _ hm) (List.all_eq_true.1 hk.1 _ hm)
  exact ⟨fun y hy => (key y hy).1, List.all_eq_true.2 fun y hy => (key y hy).2, by rw [h.1]; exact hk.2⟩

set_option maxRecDepth 10000 in
set_option maxHeartbeats 4000000 in
theorem tuneBody_c {a : Option Addr} {cap : Nat} {xs : List MW} (w : World) (h : MsP w a xs) (hw : ∀ x ∈ xs, wfX x) (hk : okL xs = true) :
    Calls Try.prog 12 #[.agg #[.slice a xs.length cap], .complex .f32 1065353216 0] w fun e w' => ∃ v ys, e = .returned (.tuple #[.agg #[v], .bool true]) ∧ w'.ownsRow w.heap.size 33 2 v xs.length (flat ys) ∧ UpTo Tuned xs.length ys xs ∧ Below w.heap.size w w' := by
  have hl : xs.length ≤ 16 := by
    unfold okL at hk
    simp only [Bool.and_eq_true, decide_eq_true_eq] at hk
    exact hk.2
  have FE := Lib.hid (fun (i : Nat) (hi : i < xs.length) => by
    unfold okL at hk
    simp only [Bool.and_eq_true, decide_eq_true_eq] at hk
    have hx := List.all_eq_true.1 hk.1 xs[i] (List.getElem_mem hi)
    have hwx := hw _ (List.getElem_mem hi)
    obtain ⟨fa, fb, _⟩ := (okB_iff _ hwx).1 hx
    exact tune_ready fa fb)
  have HW := Lib.hid hw
  have L0 := Lib.hid (fun w' hb => copyBody_c (cap := cap) w' (h.below hb) (by omega))
  have L1 := Lib.hid (fun w' hb => isBodyImpl_c (cap := cap) w' (h.below hb) hw (by omega))
  rw [hk] at L1
  clear h hw
  go_enter Try.func12, Try.ntmps12
  go_upto_region 1 with fail
  have B0 : Below w.heap.size w ((w.alloc (.cells #[.slice a xs.length cap] 25)).alloc (.cells #[.slice none 0 0] 25)) := ((Below.refl _ _).alloc (Nat.le_refl _) _).alloc (by simp) _
  have hlt : w.heap.size < (w.alloc (.cells #[.slice a xs.length cap] 25)).heap.size := by rw [World.size_alloc]; omega
  have hP := (heap_alloc_old (w.alloc (.cells #[.slice a xs.length cap] 25)) (.cells #[.slice none 0 0] 25) hlt).trans (heap_alloc_new w _)
  have hR := heap_alloc_new (w.alloc (.cells #[.slice a xs.length cap] 25)) (.cells #[.slice none 0 0] 25)
  rw [World.size_alloc] at hR
  have hs : w.heap.size + 2 ≤ ((w.alloc (.cells #[.slice a xs.length cap] 25)).alloc (.cells #[.slice none 0 0] 25)).heap.size := by rw [World.size_alloc, World.size_alloc]; omega
  clear hlt
  generalize ((w.alloc (.cells #[.slice a xs.length cap] 25)).alloc (.cells #[.slice none 0 0] 25)) = W0 at *
  have cP := cur_cell hP 0
  simp at cP
  go_wp2_with fail
  refine (L1.out _ B0).mono ?_
  rintro e W1 ⟨rfl, b0⟩
  have B1 := B0.trans (b0.mono (by omega))
  have R1 := (b0.block _ (by omega)).trans hR
  have P1 := (b0.block _ (by omega)).trans hP
  have hs1 : w.heap.size + 2 ≤ W1.heap.size := Nat.le_trans hs b0.size
  clear B0 hR hP hs b0 cP
  have cP := cur_cell P1 0
  simp at cP
  go_wp2_with fail
  refine (L0.out _ B1).mono ?_
  rintro e W2 ⟨v, rfl, hown, b1⟩
  obtain ⟨va, vc, rfl⟩ := owns_slice hown
  have B2 := B1.trans (b1.mono (by omega))
  have R2 := (b1.block _ (by omega)).trans R1
  have hs2 : w.heap.size + 2 ≤ W2.heap.size := Nat.le_trans hs1 b1.size
  clear B1 R1 P1 b1 cP
  go_upto_region 4 with fail
  have O3 := heap_alloc_new W2 (.cells #[.slice va xs.length vc] 25)
  have B3 := B2.alloc (B2.size) (.cells #[.slice va xs.length vc] 25)
  have R3 := (heap_alloc_old W2 (.cells #[.slice va xs.length vc] 25) (show w.heap.size + 1 < W2.heap.size by omega)).trans R2
  have hown3 := owns_le (base' := w.heap.size + 2) (hown.alloc (.cells #[.slice va xs.length vc] 25)) (by omega)
  have hv : ∀ g, Value.ownBlock (.slice va xs.length vc) = some g → g < W2.heap.size := fun g e => (hown.lt g e).2
  generalize W2.alloc (.cells #[.slice va xs.length vc] 25) = W3 at *
  generalize hO : W2.heap.size = O at *
  clear hown B2 R2 hs1 hO
  have HV := Lib.hid hv
  have B3 := Lib.hid B3
  have R3 := Lib.hid R3
  have O3 := Lib.hid O3
  have hown3 := Lib.hid hown3
  clear hv
  have co := cur_cell O3.out 0
  simp at co
  go_wp2_with fail
  go_loopw [17] (fun i wr => ∃ (I : Nat) (ys : List MW), i = .int .i64 I ∧ I ≤ xs.length ∧ Hid (UpTo Tuned I ys xs) ∧ Hid (wr.ownsRow (w.heap.size + 2) 33 2 (.slice va xs.length vc) xs.length (flat ys)) ∧ Hid (wr.heap[O]? = some (.cells #[.slice va xs.length vc] 25 (0, 0))) ∧ Hid (wr.heap[w.heap.size + 1]? = some (.cells #[.slice none 0 0] 25 (0, 0))) ∧ Hid (Below w.heap.size w wr)) (fun i _ => xs.length - (intOf i).toNat)
  case atStart => exact ⟨0, xs, rfl, Nat.zero_le _, Lib.hid (UpTo.start _ _), hown3, O3, R3, B3⟩
  case round =>
    clear hown3 O3 R3 B3 co
    obtain ⟨I, ys, rfl, hI, hU, hown, hO, hR, hB⟩ := hrel
    have co := cur_cell hO.out 0
    simp at co
    rcases Nat.lt_or_eq_of_le hI with hlt | heq
    · have d1 : decide ((I : Int) < (xs.length : Int)) = true := by simpa using hlt
      obtain ⟨g, hva⟩ : ∃ g, va = some ⟨g, 0, none⟩ := by
        rcases hown.out.2 with ⟨e, h0⟩ | ⟨g, c', cur, e, _⟩
        · omega
        · exact ⟨g, by injection e⟩
      subst hva
      have hgO := HV.out g rfl
      have hgR := (hown.out.lt g rfl).1
      obtain ⟨hy, ey⟩ := hU.out.at hlt
      obtain ⟨p, q, m1, hd⟩ := FE.out I hlt
      have c0 : wr.cell? ⟨g, I * 2, none⟩ = some (.complex .f32 xs[I].a xs[I].b) := by
        rw [hown.out.cellAt _ (by omega), (flat_get hy).1, ey]
      have c0' : wr.cell? ⟨g, I * 2 + 0, none⟩ = some (.complex .f32 xs[I].a xs[I].b) := c0
      have f0 := hown.out.frozenAt (I * 2)
      have HD := Lib.hid hd
      generalize xs[I].a = xa at *
      generalize xs[I].b = xb at *
      go_upto_region 7 with fail
      go_still_tail 13, (by kernel_rfl)
      still_call (m1 _)
      repeat still_step
      refine wpStill_nil ?_
      change wpList _ _ _ _ _ wr.drew
      have c6 : wr.drew.cell? ⟨g, I * 2, none⟩ = some (.complex .f32 xa xb) := c0
      have f6 : wr.drew.frozen? ⟨g, I * 2, none⟩ = false := f0
      have hown6 := Lib.hid (World.ownsRow.drew hown.out)
      have hO6 := Lib.hid (show wr.drew.heap[O]? = _ from hO.out)
      have hR6 := Lib.hid (show wr.drew.heap[w.heap.size + 1]? = _ from hR.out)
      have hB6 := Lib.hid (show Below w.heap.size w wr.drew from below_drewN' hB.out 1)
      clear hown hO hR hB c0 c0' f0 co
      generalize wr.drew = w6 at *
      have hst6 := run_store_one (P := Try.prog) (v := .complex .f32 p q) rfl c6 f6
      have hown7 := (hown6.out.stored (I * 2) (.complex .f32 p q)).1
      rw [flat_set0 hy p q, ey] at hown7
      have hown7 := Lib.hid hown7
      have hU7 := Lib.hid (hU.out.step hlt HD.out)
      have hO7 := Lib.hid ((Below.heap_setCell w6 ⟨g, I * 2, none⟩ (.complex .f32 p q) O (show O ≠ g by omega)).trans hO6.out)
      have hR7 := Lib.hid ((Below.heap_setCell w6 ⟨g, I * 2, none⟩ (.complex .f32 p q) (w.heap.size + 1) (show w.heap.size + 1 ≠ g by omega)).trans hR6.out)
      have hB7 := Lib.hid (below_set hB6.out (show w.heap.size ≤ g by omega) (I * 2) (.complex .f32 p q))
      clear hown6 hO6 hR6 hB6 c6 f6
      go_wp2_with fail
      exact ⟨⟨I + 1, _, by go_num, hlt, hU7, hown7, hO7, hR7, hB7⟩, by simp [intOf]; omega⟩
    · subst heq
      have d1 : decide ((xs.length : Int) < (xs.length : Int)) = false := by simp
      obtain ⟨wy, oky⟩ := hU.out.okL (fun y x hw h => h.damped hw) HW.out hk
      have hyl := hU.out.1
      have C := Lib.hid (checked_c (cap := vc) wr (MsP.of_owns hyl.symm hown.out) wy (by omega))
      clear wy
      rw [hyl] at C
      go_wp2_with fail
      refine C.out.mono ?_
      rintro e w5 ⟨v5, rfl, hown5, b5⟩
      rw [show kept ys = ys by unfold kept; rw [oky]; rfl, hyl] at hown5
      rw [oky]
      obtain ⟨va5, vc5, rfl⟩ := owns_slice hown5
      have R5 := (b5.block _ (Array.getElem?_eq_some_iff.1 hR.out).1).trans hR.out
      have hRlt := (Array.getElem?_eq_some_iff.1 hR.out).1
      have c1 := cur_cell R5 0
      have f1 := cur_free R5 0
      simp at c1
      have hR6 := Lib.hid (cur_set R5 0 (.slice va5 xs.length vc5))
      have hown6 := Lib.hid (owns_le (base' := w.heap.size) (ownsRow_setCell_other (a := ⟨w.heap.size + 1, 0, none⟩) hown5 (fun e => by have := (hown5.lt _ e).1; simp at this <;> omega) (.slice va5 xs.length vc5)) hB.out.size)
      have B6 := Lib.hid (below_set (hB.out.trans (b5.mono hB.out.size)) (show w.heap.size ≤ w.heap.size + 1 by omega) 0 (.slice va5 xs.length vc5))
      clear hown hO hR hB R5 b5 hown5 hRlt
      go_wp2_with fail
      refine bodyPost_ret_by (v := .tuple #[.agg #[.slice va5 xs.length vc5], .bool true]) ?_ rfl ⟨_, ys, rfl, hown6.out, hU.out, B6.out⟩
      exact results_body rfl _ _ (w.heap.size + 1) _ #[.slice va5 xs.length vc5] _ _ _ rfl rfl hR6.out rfl Try.underlying25 (by kernel_rfl)
end Go.Proofs.Ytkaajnmbmjnplaa
