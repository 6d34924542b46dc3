import Derived.Test.YtfhaopdaakjghaaModeA
import Derived.Test.YtfhaopdaakjghaaCFin
namespace Go.Proofs.Ytfhaopdaakjghaa
open Go.RowKit Go.Fl

def okWide (p g : CN) : Bool := cfin p && cfin g && ple (csq p) one64 && ple (fabs .f64 g.1) gain64 && ple (fabs .f64 g.2) gain64

theorem gt_ple {x y : Nat} (hx : (FloatKind.f64.decode x).isNaN = false) (hy : (FloatKind.f64.decode y).isNaN = false) : (FloatKind.f64.format.order x y == some .gt) = !(FloatKind.f64.format.order x y == some .lt || FloatKind.f64.format.order x y == some .eq) := by
  rw [order_iv _ (okf .f64) hx hy]
  rcases Int.lt_trichotomy (iv FloatKind.f64.format x) (iv FloatKind.f64.format y) with h | h | h
  · rw [Int.compare_eq_lt.2 h]; rfl
  · rw [Int.compare_eq_eq.2 h]; rfl
  · rw [Int.compare_eq_gt.2 h]; rfl

theorem gt_gain {p : Option Nat} {r : Nat} (hf : isFin .f64 p = true) (hr : FV .f64 (fabs .f64 p) r) : (FloatKind.f64.format.order r 4652218415073722368 == some .gt) = !ple (fabs .f64 p) gain64 := by
  have hk : FV .f64 gain64 4652218415073722368 := FV.of_lt (k := .f64) (by decide)
  cases p with
  | none => cases hf
  | some c =>
    obtain ⟨_, hn⟩ := FV.not_nan (k := .f64) hr
    rw [gt_ple hn (by decide +kernel)]
    unfold ple
    rw [order_FV hr hk]

set_option maxRecDepth 10000 in
set_option maxHeartbeats 400000 in
theorem widenNumber_c {z : CN} {a b : Nat} (ha : FV .f32 z.1 a) (hb : FV .f32 z.2 b) (w : World) :
    Calls Try.prog 39 #[.complex .f32 a b] w (RetC (wide z) w) := by
  have u1 := under59
  go_enter Try.func39, Try.ntmps39
  go_wp2_with (first | (refine upon_widen _ (by rw [under59]; rfl) under23 ha ?_; intro x n hx) | (refine upon_widen _ (by rw [under59]; rfl) under23 hb ?_; intro y m hy))
  go_ret
  exact ⟨_, _, rfl, ⟨hx, hy⟩, _, rfl⟩

set_option maxRecDepth 10000 in
set_option maxHeartbeats 2000000 in
theorem isWide_c {p g : CN} {a b c d : Nat} (hp : FC p a b) (hg : FC g c d) (w : World) :
    Calls Try.prog 38 #[.complex .f64 a b, .complex .f64 c d] w (Ret (.bool (okWide p g)) w) := by
  have OK : okWide p g = (cfin p && cfin g && ple (csq p) one64 && ple (fabs .f64 g.1) gain64 && ple (fabs .f64 g.2) gain64) := rfl
  generalize okWide p g = ok at *
  have OKH := Lib.hid OK
  clear OK
  go_enter Try.func38, Try.ntmps38
  go_wp2_with fail
  refine (finiteImpl_c hp _).mono ?_
  rintro e _ ⟨rfl, n1, rfl⟩
  cases h1 : cfin p
  · go_wp2_with fail
    go_ret
    exact ⟨by rw [OKH.out, h1]; rfl, _, rfl⟩
  · go_wp2_with fail
    refine (finiteImpl_c hg _).mono ?_
    rintro e _ ⟨rfl, n2, rfl⟩
    cases h2 : cfin g
    · go_wp2_with fail
      go_ret
      exact ⟨by rw [OKH.out, h2]; simp, _, rfl⟩
    · have hf : isFin .f64 g.1 = true ∧ isFin .f64 g.2 = true := by unfold cfin at h2; simpa using h2
      go_wp2_with fail
      refine (mathAbs_c hg.1 _).mono ?_
      rintro e _ ⟨r, rfl, hr, n3, rfl⟩
      have e1 := gt_gain hf.1 hr
      cases h3 : ple (fabs .f64 g.1) gain64 <;> rw [h3] at e1
      · simp only [Bool.not_false] at e1
        go_wp2_with fail
        go_ret
        exact ⟨by rw [OKH.out, h3]; simp, _, rfl⟩
      · simp only [Bool.not_true] at e1
        go_wp2_with fail
        refine (mathAbs_c hg.2 _).mono ?_
        rintro e _ ⟨s, rfl, hs, n4, rfl⟩
        have e2 := gt_gain hf.2 hs
        cases h4 : ple (fabs .f64 g.2) gain64 <;> rw [h4] at e2
        · simp only [Bool.not_false] at e2
          go_wp2_with fail
          go_ret
          exact ⟨by rw [OKH.out, h4]; simp, _, rfl⟩
        · simp only [Bool.not_true] at e2
          obtain ⟨ha, hb⟩ := hp
          go_wp2_with (first | (refine upon_flop _ (by decide) ha ha ?_; intro x n5 hx) | (refine upon_flop _ (by decide) hb hb ?_; intro y n6 hy) | (refine upon_flop _ (by decide) hx hy ?_; intro t n7 ht; have e3 : (FloatKind.f64.format.order t 4607182418800017408 == some .lt || FloatKind.f64.format.order t 4607182418800017408 == some .eq) = ple (csq p) one64 := (by unfold ple one64 csq; rw [order_FV ht (FV.of_lt (k := .f64) (b := 4607182418800017408) (by decide))])))
          go_ret
          exact ⟨by rw [OKH.out, h1, h2, h3, h4]; simp, _, rfl⟩

set_option maxRecDepth 10000 in
set_option maxHeartbeats 2000000 in
theorem isModeImpl_c {m : MQ} {x : MW} (h : FM m x) (w : World) :
    Calls Try.prog 25 #[x.val] w (RetBel (.bool (okMode m)) w) := by
  obtain ⟨ha, hb, hc, hd⟩ := h
  go_enter Try.func25, Try.ntmps25
  go_wp2_with fail
  refine wp_region_rel (fun w' => ∃ m', w' = (w.alloc (.cells #[.complex .f32 x.a x.b, .complex .f32 x.c x.d] 55)).drewN m') [fun v => v = .pointer (some ⟨w.heap.size, 0, none⟩), fun v => v = .complex .f32 x.a x.b, isC (wide m.1), fun v => v = .pointer (some ⟨w.heap.size, 1, none⟩), fun v => v = .complex .f32 x.c x.d, isC (wide m.2), fun v => v = .bool (okMode m), fun v => v = .bool (okMode m)] (by kernel_rfl) (by kernel_rfl) ⟨1, rfl⟩ ?_
  refine wpRel_opK rfl (by rintro _ ⟨m, rfl⟩; unfold relAt; go_simp; exact ⟨⟨_, rfl⟩, rfl⟩) ?_
  rintro K hK _ rfl
  go_simp
  refine hK _ ?_
  clear hK K
  refine wpRel_opK rfl (by rintro _ ⟨m, rfl⟩; unfold relAt; go_simp; exact ⟨⟨_, rfl⟩, rfl⟩) ?_
  rintro K hK _ rfl
  go_simp
  refine hK _ ?_
  clear hK K
  refine wpRel_opK rfl (by
    rintro _ ⟨m', rfl⟩; unfold relAt; go_simp
    refine relUpon_enter (widenNumber_c ha hb _) ?_
    rintro e _ ⟨x1, y1, rfl, h1, m1, rfl⟩
    exact ⟨_, rfl, ⟨_, _, rfl, h1⟩, ⟨m' + m1, by rw [World.drewN_drewN]⟩⟩) ?_
  rintro K hK _ ⟨p1, p2, rfl, g1⟩
  go_simp
  refine hK _ ?_
  clear hK K
  refine wpRel_opK rfl (by rintro _ ⟨m, rfl⟩; unfold relAt; go_simp; exact ⟨⟨_, rfl⟩, rfl⟩) ?_
  rintro K hK _ rfl
  go_simp
  refine hK _ ?_
  clear hK K
  refine wpRel_opK rfl (by rintro _ ⟨m, rfl⟩; unfold relAt; go_simp; exact ⟨⟨_, rfl⟩, rfl⟩) ?_
  rintro K hK _ rfl
  go_simp
  refine hK _ ?_
  clear hK K
  refine wpRel_opK rfl (by
    rintro _ ⟨m', rfl⟩; unfold relAt; go_simp
    refine relUpon_enter (widenNumber_c hc hd _) ?_
    rintro e _ ⟨x1, y1, rfl, h1, m1, rfl⟩
    exact ⟨_, rfl, ⟨_, _, rfl, h1⟩, ⟨m' + m1, by rw [World.drewN_drewN]⟩⟩) ?_
  rintro K hK _ ⟨p3, p4, rfl, g2⟩
  go_simp
  refine hK _ ?_
  clear hK K
  refine wpRel_opK rfl (by
    rintro _ ⟨m', rfl⟩; unfold relAt; go_simp
    refine relUpon_enter (isWide_c g1 g2 _) ?_
    rintro e _ ⟨rfl, m1, rfl⟩
    exact ⟨_, rfl, rfl, ⟨m' + m1, by rw [World.drewN_drewN]⟩⟩) ?_
  rintro K hK _ rfl
  go_simp
  refine hK _ ?_
  clear hK K
  refine wpRel_moveK rfl _ (.inr rfl) (rfl) ?_
  rintro K hK _ rfl
  go_simp
  refine hK _ ?_
  clear hK K
  refine wpRel_nil ?_
  rintro _ ⟨m', rfl⟩
  go_wp2_with fail
  go_ret
  exact ⟨rfl, below_new rfl⟩
end Go.Proofs.Ytfhaopdaakjghaa
