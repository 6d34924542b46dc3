import Derived.Test.YtkaajnmbmjnplaaTune
import Derived.StillTailTactics
namespace Go.Proofs.Ytkaajnmbmjnplaa
open Go.RowKit Go.Fl

theorem flat_set0 {xs : List MW} {i : Nat} (hi : i < xs.length) (p q : Nat) : (flat xs).set (i * 2) (.complex .f32 p q) = flat (xs.set i ⟨p, q, xs[i].c, xs[i].d⟩) := by
  induction xs generalizing i with
  | nil => simp at hi
  | cons x xs ih =>
    have e : flat (x :: xs) = .complex .f32 x.a x.b :: .complex .f32 x.c x.d :: flat xs := rfl
    rw [e]
    cases i with
    | zero => rfl
    | succ i =>
      rw [show (i + 1) * 2 = i * 2 + 1 + 1 by omega]
      simp only [List.set_cons_succ, List.getElem_cons_succ]
      rw [ih (by simpa using hi)]
      rfl

theorem flat_set1 {xs : List MW} {i : Nat} (hi : i < xs.length) (p q : Nat) : (flat xs).set (i * 2 + 1) (.complex .f32 p q) = flat (xs.set i ⟨xs[i].a, xs[i].b, p, q⟩) := by
  induction xs generalizing i with
  | nil => simp at hi
  | cons x xs ih =>
    have e : flat (x :: xs) = .complex .f32 x.a x.b :: .complex .f32 x.c x.d :: flat xs := rfl
    rw [e]
    cases i with
    | zero => rfl
    | succ i =>
      rw [show (i + 1) * 2 + 1 = i * 2 + 1 + 1 + 1 by omega]
      simp only [List.set_cons_succ, List.getElem_cons_succ]
      rw [ih (by simpa using hi)]
      rfl

/-- The first k of ys stand in a relation to those of xs, the others are the same. -/
def UpTo (D : MW → MW → Prop) (k : Nat) (ys xs : List MW) : Prop := ys.length = xs.length ∧ ∀ i (hy : i < ys.length) (hx : i < xs.length), (i < k → D ys[i] xs[i]) ∧ (k ≤ i → ys[i] = xs[i])

theorem UpTo.start (D : MW → MW → Prop) (xs : List MW) : UpTo D 0 xs xs := ⟨rfl, fun i _ _ => ⟨fun h => by omega, fun _ => rfl⟩⟩

theorem UpTo.step {D : MW → MW → Prop} {k : Nat} {ys xs : List MW} (h : UpTo D k ys xs) (hk : k < xs.length) {y : MW} (hy : D y xs[k]) : UpTo D (k + 1) (ys.set k y) xs := by
  refine ⟨by rw [List.length_set]; exact h.1, fun i hi hx => ?_⟩
  rw [List.length_set] at hi
  rw [List.getElem_set]
  split
  · rename_i e
    subst e
    exact ⟨fun _ => hy, fun h => by omega⟩
  · have := h.2 i hi hx
    exact ⟨fun h2 => this.1 (by omega), fun h2 => this.2 (by omega)⟩

theorem UpTo.at {D : MW → MW → Prop} {k : Nat} {ys xs : List MW} (h : UpTo D k ys xs) (hk : k < xs.length) : ∃ hy : k < ys.length, ys[k] = xs[k] := ⟨by rw [h.1]; exact hk, (h.2 k (by rw [h.1]; exact hk) hk).2 (Nat.le_refl _)⟩

/-- A mode whose pole is no greater. -/
def Damped (y x : MW) : Prop := wfX y ∧ rg Ieee.single y.a ≤ rg Ieee.single x.a ∧ rg Ieee.single y.b ≤ rg Ieee.single x.b ∧ y.c = x.c ∧ y.d = x.d

/-- A factor from 0 to 1. -/
structure Factor (F : Nat) : Prop where
  pos : sg Ieee.single F = false
  le : rg Ieee.single F ≤ 1065353216
  lt : F < 2 ^ 32

theorem Factor.fin {F : Nat} (h : Factor F) : fin .f32 F := Nat.lt_of_le_of_lt h.le (by decide)

theorem Factor.ge {F : Nat} (h : Factor F) : (FloatKind.f32.format.order F 0 == some .gt || FloatKind.f32.format.order F 0 == some .eq) = true := by
  rw [order_le (k := .f32) (Nat.le_of_lt h.fin) (by decide), show iv FloatKind.f32.format 0 = 0 by decide, iv_pos (f := FloatKind.f32.format) h.pos]
  generalize V FloatKind.f32.format (rg FloatKind.f32.format F) = m
  cases hc : compare ((m : Nat) : Int) 0 with
  | lt => rw [Int.compare_eq_lt] at hc; omega
  | eq => rfl
  | gt => rfl

theorem Factor.leq {F : Nat} (h : Factor F) : (FloatKind.f32.format.order F 1065353216 == some .lt || FloatKind.f32.format.order F 1065353216 == some .eq) = true := by
  rw [order_le (k := .f32) (Nat.le_of_lt h.fin) (by decide), iv_pos (f := FloatKind.f32.format) h.pos, iv_pos (f := FloatKind.f32.format) (x := 1065353216) (by decide)]
  have := V_le Ieee.single h.le
  have e : rg FloatKind.f32.format 1065353216 = 1065353216 := by decide
  rw [e]
  have h2 : V FloatKind.f32.format (rg FloatKind.f32.format F) ≤ V FloatKind.f32.format 1065353216 := this
  generalize V FloatKind.f32.format (rg FloatKind.f32.format F) = m at *
  generalize V FloatKind.f32.format 1065353216 = n at *
  cases hc : compare ((m : Nat) : Int) ((n : Nat) : Int) with
  | gt => rw [Int.compare_eq_gt] at hc; omega
  | eq => rfl
  | lt => rfl

theorem damp_words {x : MW} {F : Nat} (hw : wfX x) (fa : fin .f32 x.a) (fb : fin .f32 x.b) (h : Factor F) : ∃ p q, floatBits .mul .f32 x.a F = some p ∧ floatBits .mul .f32 x.b F = some q ∧ Damped ⟨p, q, x.c, x.d⟩ x := by
  obtain ⟨p, p1, p2, _, p4⟩ := mul_word fa h.fin
  obtain ⟨q, q1, q2, _, q4⟩ := mul_word fb h.fin
  exact ⟨p, q, p1, q1, ⟨p2, q2, hw.2.2.1, hw.2.2.2⟩, mul_small fa h.le p4, mul_small fb h.le q4, rfl, rfl⟩

set_option maxRecDepth 10000 in
set_option maxHeartbeats 4000000 in
theorem dampBody_c {a : Option Addr} {cap F : Nat} {xs : List MW} (w : World) (h : MsP w a xs) (hw : ∀ x ∈ xs, wfX x) (hk : okL xs = true) (hF : Factor F) :
    Calls Try.prog 10 #[.agg #[.slice a xs.length cap], .float .f32 F] w fun e w' => ∃ v ys, e = .returned (.tuple #[.agg #[v], .bool true]) ∧ w'.ownsRow w.heap.size 33 2 v xs.length (flat ys) ∧ UpTo Damped xs.length ys xs ∧ Below w.heap.size w w' := by
  have hl : xs.length ≤ 16 := by
    unfold okL at hk
    simp only [Bool.and_eq_true, decide_eq_true_eq] at hk
    exact hk.2
  have FE := Lib.hid (fun (i : Nat) (hi : i < xs.length) => by
    unfold okL at hk
    simp only [Bool.and_eq_true, decide_eq_true_eq] at hk
    have hx := List.all_eq_true.1 hk.1 xs[i] (List.getElem_mem hi)
    have hwx := hw _ (List.getElem_mem hi)
    obtain ⟨fa, fb, _⟩ := (okB_iff _ hwx).1 hx
    exact damp_words hwx fa fb hF)
  have L0 := Lib.hid (fun w' hb => copyBody_c (cap := cap) w' (h.below hb) (by omega))
  have L1 := Lib.hid (fun w' hb => isBodyImpl_c (cap := cap) w' (h.below hb) hw (by omega))
  have g1 := hF.ge
  have g2 := hF.leq
  rw [hk] at L1
  clear h hw hk hF
  go_enter Try.func10, Try.ntmps10
  go_upto_region 1 with fail
  have B0 : Below w.heap.size w ((w.alloc (.cells #[.slice a xs.length cap] 25)).alloc (.cells #[.slice none 0 0] 25)) := ((Below.refl _ _).alloc (Nat.le_refl _) _).alloc (by simp) _
  have hlt : w.heap.size < (w.alloc (.cells #[.slice a xs.length cap] 25)).heap.size := by rw [World.size_alloc]; omega
  have hP := (heap_alloc_old (w.alloc (.cells #[.slice a xs.length cap] 25)) (.cells #[.slice none 0 0] 25) hlt).trans (heap_alloc_new w _)
  have hR := heap_alloc_new (w.alloc (.cells #[.slice a xs.length cap] 25)) (.cells #[.slice none 0 0] 25)
  rw [World.size_alloc] at hR
  have hs : w.heap.size + 2 ≤ ((w.alloc (.cells #[.slice a xs.length cap] 25)).alloc (.cells #[.slice none 0 0] 25)).heap.size := by rw [World.size_alloc, World.size_alloc]; omega
  clear hlt
  generalize ((w.alloc (.cells #[.slice a xs.length cap] 25)).alloc (.cells #[.slice none 0 0] 25)) = W0 at *
  have cP := cur_cell hP 0
  simp at cP
  go_wp2_with fail
  refine (L1.out _ B0).mono ?_
  rintro e W1 ⟨rfl, b0⟩
  have B1 := B0.trans (b0.mono (by omega))
  have R1 := (b0.block _ (by omega)).trans hR
  have P1 := (b0.block _ (by omega)).trans hP
  have hs1 : w.heap.size + 2 ≤ W1.heap.size := Nat.le_trans hs b0.size
  clear B0 hR hP hs b0 cP
  have cP := cur_cell P1 0
  simp at cP
  go_wp2_with fail
  refine (L0.out _ B1).mono ?_
  rintro e W2 ⟨v, rfl, hown, b1⟩
  obtain ⟨va, vc, rfl⟩ := owns_slice hown
  have B2 := B1.trans (b1.mono (by omega))
  have R2 := (b1.block _ (by omega)).trans R1
  have hs2 : w.heap.size + 2 ≤ W2.heap.size := Nat.le_trans hs1 b1.size
  clear B1 R1 P1 b1 cP
  go_upto_region 4 with fail
  have O3 := heap_alloc_new W2 (.cells #[.slice va xs.length vc] 25)
  have B3 := B2.alloc (B2.size) (.cells #[.slice va xs.length vc] 25)
  have R3 := (heap_alloc_old W2 (.cells #[.slice va xs.length vc] 25) (show w.heap.size + 1 < W2.heap.size by omega)).trans R2
  have hown3 := owns_le (base' := w.heap.size + 2) (hown.alloc (.cells #[.slice va xs.length vc] 25)) (by omega)
  have hv : ∀ g, Value.ownBlock (.slice va xs.length vc) = some g → g < W2.heap.size := fun g e => (hown.lt g e).2
  generalize W2.alloc (.cells #[.slice va xs.length vc] 25) = W3 at *
  generalize hO : W2.heap.size = O at *
  clear hown B2 R2 hs1 hO
  have HV := Lib.hid hv
  have B3 := Lib.hid B3
  have R3 := Lib.hid R3
  have O3 := Lib.hid O3
  have hown3 := Lib.hid hown3
  clear hv
  have co := cur_cell O3.out 0
  simp at co
  go_wp2_with fail
  go_loopw [26] (fun i wr => ∃ (I : Nat) (ys : List MW), i = .int .i64 I ∧ I ≤ xs.length ∧ Hid (UpTo Damped I ys xs) ∧ Hid (wr.ownsRow (w.heap.size + 2) 33 2 (.slice va xs.length vc) xs.length (flat ys)) ∧ Hid (wr.heap[O]? = some (.cells #[.slice va xs.length vc] 25 (0, 0))) ∧ Hid (wr.heap[w.heap.size + 1]? = some (.cells #[.slice none 0 0] 25 (0, 0))) ∧ Hid (Below w.heap.size w wr)) (fun i _ => xs.length - (intOf i).toNat)
  case atStart => exact ⟨0, xs, rfl, Nat.zero_le _, Lib.hid (UpTo.start _ _), hown3, O3, R3, B3⟩
  case round =>
    clear hown3 O3 R3 B3 co
    obtain ⟨I, ys, rfl, hI, hU, hown, hO, hR, hB⟩ := hrel
    have co := cur_cell hO.out 0
    simp at co
    rcases Nat.lt_or_eq_of_le hI with hlt | heq
    · have d1 : decide ((I : Int) < (xs.length : Int)) = true := by simpa using hlt
      obtain ⟨g, hva⟩ : ∃ g, va = some ⟨g, 0, none⟩ := by
        rcases hown.out.2 with ⟨e, h0⟩ | ⟨g, c', cur, e, _⟩
        · omega
        · exact ⟨g, by injection e⟩
      subst hva
      have hgO := HV.out g rfl
      have hgR := (hown.out.lt g rfl).1
      obtain ⟨hy, ey⟩ := hU.out.at hlt
      obtain ⟨p, q, m1, m2, hd⟩ := FE.out I hlt
      have c0 : wr.cell? ⟨g, I * 2, none⟩ = some (.complex .f32 xs[I].a xs[I].b) := by
        rw [hown.out.cellAt _ (by omega), (flat_get hy).1, ey]
      have c0' : wr.cell? ⟨g, I * 2 + 0, none⟩ = some (.complex .f32 xs[I].a xs[I].b) := c0
      have f0 := hown.out.frozenAt (I * 2)
      have HD := Lib.hid hd
      generalize xs[I].a = xa at *
      generalize xs[I].b = xb at *
      go_upto_region 7 with fail
      go_still_tail 13, (by kernel_rfl)
      still_call (scaleSingle_c m1 m2 _)
      repeat still_step
      refine wpStill_nil ?_
      change wpList _ _ _ _ _ wr.drew
      have c6 : wr.drew.cell? ⟨g, I * 2, none⟩ = some (.complex .f32 xa xb) := c0
      have f6 : wr.drew.frozen? ⟨g, I * 2, none⟩ = false := f0
      have hown6 := Lib.hid (World.ownsRow.drew hown.out)
      have hO6 := Lib.hid (show wr.drew.heap[O]? = _ from hO.out)
      have hR6 := Lib.hid (show wr.drew.heap[w.heap.size + 1]? = _ from hR.out)
      have hB6 := Lib.hid (show Below w.heap.size w wr.drew from below_drewN' hB.out 1)
      clear hown hO hR hB c0 c0' f0 co
      generalize wr.drew = w6 at *
      have hst6 := run_store_one (P := Try.prog) (v := .complex .f32 p q) rfl c6 f6
      have hown7 := (hown6.out.stored (I * 2) (.complex .f32 p q)).1
      rw [flat_set0 hy p q, ey] at hown7
      have hown7 := Lib.hid hown7
      have hU7 := Lib.hid (hU.out.step hlt HD.out)
      have hO7 := Lib.hid ((Below.heap_setCell w6 ⟨g, I * 2, none⟩ (.complex .f32 p q) O (show O ≠ g by omega)).trans hO6.out)
      have hR7 := Lib.hid ((Below.heap_setCell w6 ⟨g, I * 2, none⟩ (.complex .f32 p q) (w.heap.size + 1) (show w.heap.size + 1 ≠ g by omega)).trans hR6.out)
      have hB7 := Lib.hid (below_set hB6.out (show w.heap.size ≤ g by omega) (I * 2) (.complex .f32 p q))
      clear hown6 hO6 hR6 hB6 c6 f6
      go_wp2_with fail
      exact ⟨⟨I + 1, _, by go_num, hlt, hU7, hown7, hO7, hR7, hB7⟩, by simp [intOf]; omega⟩
    · subst heq
      have d1 : decide ((xs.length : Int) < (xs.length : Int)) = false := by simp
      have c1 := cur_cell hR.out 0
      have f1 := cur_free hR.out 0
      simp at c1
      have hR5 := Lib.hid (cur_set hR.out 0 (.slice va xs.length vc))
      have hown5 := Lib.hid (owns_le (base' := w.heap.size) (ownsRow_setCell_other (a := ⟨w.heap.size + 1, 0, none⟩) hown.out (fun e => by have := (hown.out.lt _ e).1; simp at this <;> omega) (.slice va xs.length vc)) (by omega))
      have B5 := Lib.hid (below_set hB.out (show w.heap.size ≤ w.heap.size + 1 by omega) 0 (.slice va xs.length vc))
      clear hown hO hR hB
      go_wp2_with fail
      refine bodyPost_ret_by (v := .tuple #[.agg #[.slice va xs.length vc], .bool true]) ?_ rfl ⟨_, ys, rfl, hown5.out, hU.out, B5.out⟩
      exact results_body rfl _ _ (w.heap.size + 1) _ #[.slice va xs.length vc] _ _ _ rfl rfl hR5.out rfl Try.underlying25 (by kernel_rfl)
end Go.Proofs.Ytkaajnmbmjnplaa
