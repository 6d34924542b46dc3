/- The law FnExactStrikeShape holds for all integers: the program's StrikeShape returns what the reference's returns, in new memory. No condition. -/
import Derived.Test.YtkckobbmejckiaaStrikeI
import Derived.Test.YtkckobbmejckiaaOpen
namespace Go.Proofs.Ytkckobbmejckiaa
open Go.RowKit Go.Fl

/-- The law's walk: true, and what was there is as it was. -/
def LawEnds (w : World) (e : Ending) (w' : World) : Prop := e = .returned (.bool true) ∧ Below w.heap.size w w'

theorem shape_ok {kind n : Int} {P : FuncId} (h0 : ∀ (N : Nat) (w : World), 1 ≤ N → N ≤ 64 → Calls Try.prog P #[.int .i64 0, .int .i64 N] w (RetShape 0 N w)) (h1 : ∀ (N : Nat) (w : World), 1 ≤ N → N ≤ 64 → Calls Try.prog P #[.int .i64 1, .int .i64 N] w (RetShape 1 N w))
    (h2 : ∀ (N : Nat) (w : World), 1 ≤ N → N ≤ 64 → Calls Try.prog P #[.int .i64 2, .int .i64 N] w (RetShape 2 N w)) (w : World) (hk : 0 ≤ kind ∧ kind ≤ 2) (hn : 1 ≤ n ∧ n ≤ 64) : Calls Try.prog P #[.int .i64 kind, .int .i64 n] w (RetShape kind n w) := by
  obtain ⟨N, rfl⟩ : ∃ N : Nat, n = N := ⟨n.toNat, by omega⟩
  have : kind = 0 ∨ kind = 1 ∨ kind = 2 := by omega
  rcases this with rfl | rfl | rfl
  · exact h0 N w (by omega) (by omega)
  · exact h1 N w (by omega) (by omega)
  · exact h2 N w (by omega) (by omega)

set_option maxHeartbeats 400000 in
theorem strikeSpec_no (kind n : Int) (w : World) (h : (decide (0 ≤ kind) && decide (kind ≤ 2) && decide (1 ≤ n) && decide (n ≤ 64)) = false) :
    Calls Try.prog 17 #[.int .i64 kind, .int .i64 n] w (RetShape kind n w) := by
  have hno := Lib.hid (fun m => RetShape.no (w := w) h (m := m))
  cases hk : (decide (0 ≤ kind) && decide (kind ≤ 2))
  · clear h
    go_enter Try.func17, Try.ntmps17
    go_wp2_with (go_at_call 27; refine (l1In_c _ _ _ _).mono ?_; rintro e _ ⟨rfl, n0, rfl⟩)
    go_ret2
    exact hno.out _
  · have hn : (decide (1 ≤ n) && decide (n ≤ 64)) = false := by rw [hk] at h; simpa using h
    clear h
    go_enter Try.func17, Try.ntmps17
    go_wp2_with (go_at_call 27; refine (l1In_c _ _ _ _).mono ?_; rintro e _ ⟨rfl, n0, rfl⟩)
    go_ret2
    exact hno.out _

set_option maxHeartbeats 400000 in
theorem strikeImpl_no (kind n : Int) (w : World) (h : (decide (0 ≤ kind) && decide (kind ≤ 2) && decide (1 ≤ n) && decide (n ≤ 64)) = false) :
    Calls Try.prog 18 #[.int .i64 kind, .int .i64 n] w (RetShape kind n w) := by
  have hno := Lib.hid (RetShape.no (w := w) h (m := 0))
  by_cases h1 : kind < 0
  · clear h
    have d1 : decide (kind < 0) = true := by simpa using h1
    go_enter Try.func18, Try.ntmps18
    go_wp2
    go_ret2
    exact hno.out
  · have d1 : decide (kind < 0) = false := by simpa using h1
    by_cases h2 : 2 < kind
    · clear h
      have d2 : decide (2 < kind) = true := by simpa using h2
      go_enter Try.func18, Try.ntmps18
      go_wp2
      go_ret2
      exact hno.out
    · have d2 : decide (2 < kind) = false := by simpa using h2
      by_cases h3 : n < 1
      · clear h
        have d3 : decide (n < 1) = true := by simpa using h3
        go_enter Try.func18, Try.ntmps18
        go_wp2
        go_ret2
        exact hno.out
      · have d3 : decide (n < 1) = false := by simpa using h3
        have h4 : 64 < n := by simp at h; omega
        have d4 : decide (64 < n) = true := by simpa using h4
        clear h
        go_enter Try.func18, Try.ntmps18
        go_wp2
        go_ret2
        exact hno.out

theorem strikeSpec_c (kind n : Int) (w : World) : Calls Try.prog 17 #[.int .i64 kind, .int .i64 n] w (RetShape kind n w) := by
  cases h : (decide (0 ≤ kind) && decide (kind ≤ 2) && decide (1 ≤ n) && decide (n ≤ 64))
  · exact strikeSpec_no kind n w h
  · simp at h
    exact shape_ok strikeSpec0_c strikeSpec1_c strikeSpec2_c w (by omega) (by omega)

theorem strikeImpl_c (kind n : Int) (w : World) : Calls Try.prog 18 #[.int .i64 kind, .int .i64 n] w (RetShape kind n w) := by
  cases h : (decide (0 ≤ kind) && decide (kind ≤ 2) && decide (1 ≤ n) && decide (n ≤ 64))
  · exact strikeImpl_no kind n w h
  · simp at h
    exact shape_ok strikeImpl0_c strikeImpl1_c strikeImpl2_c w (by omega) (by omega)

theorem Wr.below {w w' : World} {B : Nat} {a : Option Addr} {len : Nat} {k : FloatKind} {bs : List Nat} (h : Wr w B a len) (hf : FsP w k a len bs) (hb : Below w.heap.size w w') : Wr w' B a len := fun i hi => by
  obtain ⟨b, off, h1, h2, h3⟩ := h i hi
  obtain ⟨b', off', e1, c1, l1⟩ := hf.2.1 i (by rw [hf.1]; exact hi)
  obtain ⟨rfl, rfl⟩ : b = b' ∧ off = off' := by rw [h1] at e1; simpa using e1
  exact ⟨b, off, h1, h2, by rw [hb.frozen (p := ⟨b, off + i, none⟩) l1]; exact h3⟩

/-- What lies below the size of an elder world keeps, though later blocks are written. -/
theorem FsP.keep {w0 w w' : World} {k : FloatKind} {a : Option Addr} {len : Nat} {bs bs' : List Nat} (h0 : FsP w0 k a len bs') (h : FsP w k a len bs) (hb : Below w0.heap.size w w') : FsP w' k a len bs :=
  ⟨h.1, fun i hi => by
    obtain ⟨b, off, h1, h2, h3⟩ := h.2.1 i hi
    obtain ⟨b', off', e1, _, l1⟩ := h0.2.1 i (by have := h.1; have := h0.1; omega)
    obtain ⟨rfl, rfl⟩ : b = b' ∧ off = off' := by rw [h1] at e1; simpa using e1
    exact ⟨b, off, h1, by rw [hb.cell (p := ⟨b, off + i, none⟩) l1]; exact h2, Nat.lt_of_lt_of_le h3 hb.size⟩, h.2.2⟩

set_option maxHeartbeats 1000000 in
theorem law_FnExactStrikeShape (w : World) {kind n : Int} (_ : (Lit.int .i64 kind).wf = true) (_ : (Lit.int .i64 n).wf = true) :
    Calls Try.prog 6 #[.int .i64 kind, .int .i64 n] w (LawEnds w) := by
  go_enter Try.func6, Try.ntmps6
  go_wp2_with fail
  refine (strikeSpec_c kind n _).mono ?_
  rintro e w1 ⟨a1, len1, cap1, t, bs1, rfl, f1, wr1, bel1, s1, l1, ht1, n1⟩
  have HT1 := Lib.hid ht1
  have HN1 := Lib.hid n1
  clear ht1 n1
  go_wp2_with fail
  refine (strikeImpl_c kind n _).mono ?_
  rintro e w2 ⟨a2, len2, cap2, t2, bs2, rfl, f2, wr2, bel2, s2, l2, ht2, n2⟩
  obtain rfl : t2 = t := by rw [HT1.out, ht2]
  have hle : len2 = len1 := by have h1 := HN1.out; cases t2 <;> simp at h1 n2 <;> omega
  clear ht2 n2
  obtain rfl := hle
  have f1' := f1.below bel2
  have hcl := Lib.hid (s2.cls s1 (by rw [f1.1, f2.1]))
  have b12 : Below w.heap.size w w2 := bel1.trans (bel2.mono bel1.size)
  have hsz : w.heap.size ≤ w1.heap.size := bel1.size
  go_wp2_with fail
  refine (eqFloat32S_c _ f2 f1' (by omega) hcl.out).mono ?_
  rintro e _ ⟨rfl, m1, rfl⟩
  go_wp2_with fail
  refine (mark_c (k := 1) (B := w1.heap.size) _ (f2.below (below_drewN (Below.refl _ _) m1)) (wr2.below f2 (below_drewN (Below.refl _ _) m1)) (by omega) (by omega) (by omega)).mono ?_
  rintro e w3 ⟨rfl, f3, wr3, bel3⟩
  go_wp2_with fail
  refine (held_c (k := 1) _ f3 (by omega) (by omega) (by omega)).mono ?_
  rintro e _ ⟨rfl, m2, rfl⟩
  go_wp2_with fail
  refine (strikeImpl_c kind n _).mono ?_
  rintro e w4 ⟨a4, len4, cap4, t4, bs4, rfl, f4, wr4, bel4, s4, l4, ht4, n4⟩
  obtain rfl : t4 = t2 := by rw [ht4, ← HT1.out]
  have hle4 : len4 = len2 := by have h4 := n4; have h2 := HN1.out; cases t4 <;> simp at h4 h2 <;> omega
  clear ht4 n4
  obtain rfl := hle4
  have c3 : Below w.heap.size w (w3.drewN m2) := below_drewN ((below_drewN b12 m1).trans (bel3.mono hsz)) _
  have g1 : FsP w4 .f32 a1 len4 bs1 := ((f1.keep (f1'.below (below_drewN (Below.refl _ _) m1)) bel3).below (below_drewN (Below.refl _ _) m2)).below bel4
  have g3 : FsP w4 .f32 a2 len4 (markBits 1 len4) := (f3.below (below_drewN (Below.refl _ _) m2)).below bel4
  have c4 : Below w.heap.size w w4 := c3.trans (bel4.mono c3.size)
  have hc4 := Lib.hid (s4.cls s1 (by rw [f4.1, f1.1]))
  go_wp2_with fail
  refine (eqFloat32S_c _ f4 g1 (by omega) hc4.out).mono ?_
  rintro e _ ⟨rfl, m3, rfl⟩
  go_wp2_with fail
  refine (held_c (k := 1) _ (g3.below (below_drewN (Below.refl _ _) m3)) (by omega) (by omega) (by omega)).mono ?_
  rintro e _ ⟨rfl, m4, rfl⟩
  go_wp2_with fail
  go_ret
  exact ⟨rfl, below_drewN c4 _⟩
open Go.ChangeShapes Go.WideShapes Go.ChangeAt
set_option maxRecDepth 100000 in
theorem lifted_FnExactStrikeShape (os : Os) (started : os.Started) (H : Type) (enc : TypeId × Value → H) :
    ReturnsInHanded {} Try.checked os 6 .any (Rows.fnExactStrikeShapeSpec.pre6 enc Try.prog Try.f6 Rows.fnExactStrikeShapeRow.domain false) (Rows.fnExactStrikeShapeSpec.post enc Try.prog Try.f6 false true false false) := by
  refine returnsInHanded_of_change (C := Try.checked) own started (by kernel_rfl) Try.func6
    (ChangeSpec.witness6 (enc := enc) (C := Try.checked) false ⟨#[], #[.int .i64 0, .int .i64 0], []⟩ 8 (by kernel_rfl) (by kernel_rfl) (by kernel_rfl) (by kernel_rfl)) ?_
  intro W base args ds gs before hval0 hW hcnd _
  have hval : ∀ (j : Nat) t v, Try.f6.params[j]? = some t → args[j]? = some v → Value.okWide Try.prog W .any base t v := hval0
  have hW' := hW
  obtain ⟨p, q, hA0, hV, rfl, hfz, hnd⟩ := hW
  have hA : DataW.TrodAll enc Try.prog W 0 (fun _ => true) true Try.f6.params.toList args.toList ds p := hA0
  rw [Try.params6] at hA hval
  obtain ⟨v0, vs0, d0, ds0, p0, q0, hargs, rfl, rfl, h0, r0⟩ := trodAll_cons hA
  obtain ⟨v1, vs1, d1, ds1, p1, q1, rfl, rfl, rfl, h1, r1⟩ := trodAll_cons r0
  obtain ⟨rfl, rfl, rfl⟩ := trodAll_nil r1
  obtain rfl : args = #[v0, v1] := by cases args; simp_all
  obtain ⟨rfl, rfl⟩ := trodVars_none hV
  obtain ⟨a0, rfl, rfl, rfl, w0⟩ := open_int Try.underlying3 (hval 0 3 v0 rfl rfl) h0
  obtain ⟨a1, rfl, rfl, rfl, w1⟩ := open_int Try.underlying3 (hval 1 3 v1 rfl rfl) h1
  clear hA0 hval0
  refine (law_FnExactStrikeShape W w0 w1).mono fun e W' ⟨he, bel⟩ => ?_
  subst he
  exact ⟨_, rfl, _, _, _, [], _, [], hW', trodAll_mk1 (shut_bool Try.underlying4 _), (trodAll_cons_mk (shut_int Try.underlying3 w0) (trodAll_cons_mk (shut_int Try.underlying3 w1) trodAll_mk0)), rfl, bel.frame _, fun h => by cases h⟩

theorem proved_FnExactStrikeShape : Rows.FnExactStrikeShapeSaid :=
  OpenClaim.holds_of_wide 6 Try.f6 rfl rfl rfl rfl rfl rfl rfl ⟨rfl, rfl, rfl, rfl, rfl⟩ rfl rfl rfl rfl rfl (by kernel_rfl) Try.func6 (by kernel_rfl)
    (of_decide_eq_true (by kernel_rfl)) (by unfold Func.isWrapper; first | (rw [if_pos (by decide +kernel)]; kernel_rfl) | (rw [if_neg (by decide +kernel)]; exact ⟨rfl, rfl⟩))
    (fun os started H enc _ => lifted_FnExactStrikeShape os started H enc)
#print axioms proved_FnExactStrikeShape
end Go.Proofs.Ytkckobbmejckiaa
