import Derived.Test.YtkfcpnfolgiogaaBeatN
import Derived.Test.YtkfcpnfolgiogaaMakeMode
namespace Go.Proofs.Ytkfcpnfolgiogaa
open Go.RowKit Go.Fl

/-- A call that gives a complex number and a bool; what lay below stays. -/
def RetQ (z : CN) (t : Bool) (w : World) (e : Ending) (w' : World) : Prop := ∃ p q, e = .returned (.tuple #[.complex .f64 p q, .bool t]) ∧ FC z p q ∧ Below w.heap.size w w'

theorem box_two (w : World) (A B : Obj) : Hid (((w.alloc A).alloc B).heap[w.heap.size]? = some A) ∧ Hid (((w.alloc A).alloc B).heap[w.heap.size + 1]? = some B) ∧ Below w.heap.size w ((w.alloc A).alloc B) ∧ w.heap.size + 1 < ((w.alloc A).alloc B).heap.size := by
  have h1 : w.heap.size < (w.alloc A).heap.size := by rw [World.size_alloc]; omega
  refine ⟨Lib.hid ((heap_alloc_old (w.alloc A) B h1).trans (heap_alloc_new w A)), Lib.hid ?_, ((Below.refl _ _).alloc (Nat.le_refl _) _).alloc (Nat.le_of_lt h1) _, by rw [World.size_alloc, World.size_alloc]; omega⟩
  have := heap_alloc_new (w.alloc A) B
  rw [World.size_alloc] at this
  exact this

set_option maxHeartbeats 400000 in
theorem subDouble_c {z u : CN} {a b c d : Nat} (hz : FC z a b) (hu : FC u c d) (w : World) :
    Calls Try.prog 55 #[.complex .f64 a b, .complex .f64 c d] w (RetC (csub z u) w) := by
  obtain ⟨ha, hb⟩ := hz
  obtain ⟨hc, hd⟩ := hu
  go_enter Try.func55, Try.ntmps55
  go_wp2_with (first | (refine upon_flop _ (by decide) ha hc ?_; intro x1 n1 h1) | (refine upon_flop _ (by decide) hb hd ?_; intro x2 n2 h2))
  go_ret
  exact ⟨_, _, rfl, ⟨h1, h2⟩, _, rfl⟩

set_option maxHeartbeats 400000 in
theorem sizeImpl_c {z : CN} {x y : Nat} (h : FC z x y) (w : World) :
    Calls Try.prog 54 #[.complex .f64 x y] w (RetF .f64 (fop .add .f64 (fabs .f64 z.1) (fabs .f64 z.2)) w) := by
  obtain ⟨hx, hy⟩ := h
  go_enter Try.func54, Try.ntmps54
  go_wp2_with fail
  refine (mathAbs_c hx _).mono ?_
  rintro e _ ⟨r, rfl, hr, n, rfl⟩
  go_wp2_with fail
  refine (mathAbs_c hy _).mono ?_
  rintro e _ ⟨s, rfl, hs, m, rfl⟩
  go_wp2_with (refine upon_flop _ (by decide) hr hs ?_; intro t k ht)
  go_ret
  exact ⟨_, rfl, ht, _, rfl⟩

set_option maxRecDepth 10000 in
set_option maxHeartbeats 2000000 in
theorem beatOf_c {m n : MQ} {x y : MW} (hm : FM m x) (hn : FM n y) (okm : okMode m = true) (okn : okMode n = true) (w : World) :
    Calls Try.prog 25 #[x.val, y.val] w (RetQ (cdiv (wide m.1) (wide n.1)) (cdivOk (wide m.1) (wide n.1)) w) := by
  have OM := Lib.hid okm
  have ON := Lib.hid okn
  clear okm okn
  obtain ⟨xa, xb, xc, xd⟩ := x
  obtain ⟨ya, yb, yc, yd⟩ := y
  have HM := Lib.hid hm
  have HN := Lib.hid hn
  obtain ⟨ha, hb, -, -⟩ := hm
  obtain ⟨ka, kb, -, -⟩ := hn
  go_enter Try.func25, Try.ntmps25
  go_upto_region 1 with fail
  obtain ⟨R1, S1, B1, l1⟩ := box_two w (.cells #[.complex .f32 xa xb, .complex .f32 xc xd] 43) (.cells #[.complex .f32 ya yb, .complex .f32 yc yd] 43)
  generalize (w.alloc (.cells #[.complex .f32 xa xb, .complex .f32 xc xd] 43)).alloc (.cells #[.complex .f32 ya yb, .complex .f32 yc yd] 43) = W1 at *
  have c0 := cur_cell R1.out 0
  have c1 := cur_cell R1.out 1
  have d0 := cur_cell S1.out 0
  have d1 := cur_cell S1.out 1
  simp at c0 c1 d0 d1
  go_wp2_with fail
  refine (isModeImpl_c (x := ⟨xa, xb, xc, xd⟩) HM.out _).mono ?_
  rintro e W2 ⟨rfl, b2⟩
  rw [OM.out]
  have R2 := Lib.hid ((b2.block _ (by omega)).trans R1.out)
  have S2 := Lib.hid ((b2.block _ l1).trans S1.out)
  have B2 := B1.trans (b2.mono (Nat.le_of_lt (Nat.lt_of_succ_lt l1)))
  have l2 := Nat.lt_of_lt_of_le l1 b2.size
  clear b2 B1 R1 S1 l1 c0 c1 d0 d1
  have c0 := cur_cell R2.out 0
  have c1 := cur_cell R2.out 1
  have d0 := cur_cell S2.out 0
  have d1 := cur_cell S2.out 1
  simp at c0 c1 d0 d1
  go_wp2_with fail
  refine (isModeImpl_c (x := ⟨ya, yb, yc, yd⟩) HN.out _).mono ?_
  rintro e W3 ⟨rfl, b3⟩
  rw [ON.out]
  have R3 := Lib.hid ((b3.block _ (by omega)).trans R2.out)
  have S3 := Lib.hid ((b3.block _ l2).trans S2.out)
  have B3 := B2.trans (b3.mono (Nat.le_of_lt (Nat.lt_of_succ_lt l2)))
  clear b3 B2 R2 S2 c0 c1 d0 d1
  have c0 := cur_cell R3.out 0
  have d0 := cur_cell S3.out 0
  simp at c0 d0
  go_wp2_with fail
  refine wp_region_rel (fun w' => ∃ m', w' = W3.drewN m') [fun v => v = .pointer (some ⟨w.heap.size, 0, none⟩), fun v => v = .complex .f32 xa xb, isC (wide m.1), fun v => v = .pointer (some ⟨w.heap.size + 1, 0, none⟩), fun v => v = .complex .f32 ya yb, isC (wide n.1), fun v => ∃ p q, v = .tuple #[.complex .f64 p q, .bool (cdivOk (wide m.1) (wide n.1))] ∧ FC (cdiv (wide m.1) (wide n.1)) p q, isC (cdiv (wide m.1) (wide n.1)), fun v => v = .bool (cdivOk (wide m.1) (wide n.1)), isC (cdiv (wide m.1) (wide n.1)), fun v => v = .bool (cdivOk (wide m.1) (wide n.1))] (by kernel_rfl) (by kernel_rfl) ⟨1, rfl⟩ ?_
  refine wpRel_opK rfl (by rintro _ ⟨m, rfl⟩; unfold relAt; go_simp; exact ⟨⟨_, rfl⟩, rfl⟩) ?_
  rintro K hK _ rfl
  go_simp
  refine hK _ ?_
  clear hK K
  refine wpRel_opK rfl (by rintro _ ⟨m, rfl⟩; unfold relAt; go_simp; exact ⟨⟨_, rfl⟩, rfl⟩) ?_
  rintro K hK _ rfl
  go_simp
  refine hK _ ?_
  clear hK K
  refine wpRel_opK rfl (by
    rintro _ ⟨m', rfl⟩; unfold relAt; go_simp
    refine relUpon_enter (widenNumber_c ha hb _) ?_
    rintro e _ ⟨x1, y1, rfl, h1, m1, rfl⟩
    exact ⟨_, rfl, ⟨_, _, rfl, h1⟩, ⟨m' + m1, by rw [World.drewN_drewN]⟩⟩) ?_
  rintro K hK _ ⟨p1, p2, rfl, g1⟩
  go_simp
  refine hK _ ?_
  clear hK K
  refine wpRel_opK rfl (by rintro _ ⟨m, rfl⟩; unfold relAt; go_simp; exact ⟨⟨_, rfl⟩, rfl⟩) ?_
  rintro K hK _ rfl
  go_simp
  refine hK _ ?_
  clear hK K
  refine wpRel_opK rfl (by rintro _ ⟨m, rfl⟩; unfold relAt; go_simp; exact ⟨⟨_, rfl⟩, rfl⟩) ?_
  rintro K hK _ rfl
  go_simp
  refine hK _ ?_
  clear hK K
  refine wpRel_opK rfl (by
    rintro _ ⟨m', rfl⟩; unfold relAt; go_simp
    refine relUpon_enter (widenNumber_c ka kb _) ?_
    rintro e _ ⟨x1, y1, rfl, h1, m1, rfl⟩
    exact ⟨_, rfl, ⟨_, _, rfl, h1⟩, ⟨m' + m1, by rw [World.drewN_drewN]⟩⟩) ?_
  rintro K hK _ ⟨p3, p4, rfl, g2⟩
  go_simp
  refine hK _ ?_
  clear hK K
  refine wpRel_opK rfl (by
    rintro _ ⟨m', rfl⟩; unfold relAt; go_simp
    refine relUpon_enter (divideDouble_c g1 g2 _) ?_
    rintro e _ ⟨x1, y1, rfl, h1, m1, rfl⟩
    exact ⟨_, rfl, ⟨_, _, rfl, h1⟩, ⟨m' + m1, by rw [World.drewN_drewN]⟩⟩) ?_
  rintro K hK _ ⟨p5, p6, rfl, g3⟩
  go_simp
  refine hK _ ?_
  clear hK K
  refine wpRel_opK rfl (by rintro _ ⟨m', rfl⟩; unfold relAt; go_simp; exact ⟨⟨_, rfl⟩, ⟨_, _, rfl, g3⟩⟩) ?_
  rintro K hK _ ⟨p7, p8, rfl, g4⟩
  go_simp
  refine hK _ ?_
  clear hK K
  refine wpRel_opK rfl (by rintro _ ⟨m, rfl⟩; unfold relAt; go_simp; exact ⟨⟨_, rfl⟩, rfl⟩) ?_
  rintro K hK _ rfl
  go_simp
  refine hK _ ?_
  clear hK K
  refine wpRel_moveK rfl _ (.inr rfl) (⟨_, _, rfl, g4⟩) ?_
  rintro K hK _ ⟨p9, p10, rfl, g5⟩
  go_simp
  refine hK _ ?_
  clear hK K
  refine wpRel_moveK rfl _ (.inr rfl) (rfl) ?_
  rintro K hK _ rfl
  go_simp
  refine hK _ ?_
  clear hK K
  refine wpRel_nil ?_
  rintro _ ⟨m', rfl⟩
  go_wp2_with fail
  go_ret2
  exact ⟨_, _, rfl, g5, below_drewN' B3 _⟩
end Go.Proofs.Ytkfcpnfolgiogaa
