import Derived.Test.YtkaajnmbmjnplaaBodyF
import Derived.LoopTactic
import Derived.Lib.AppendZerosOnto
import Derived.Lib.SliceRun
namespace Go.Proofs.Ytkaajnmbmjnplaa
open Go.RowKit Go.Fl

/-- A call that gives a new slice of modes without an element. -/
def RetEm (w : World) (e : Ending) (w' : World) : Prop :=
  ∃ v, e = .returned v ∧ w'.ownsRow w.heap.size 33 2 v 0 [] ∧ Below w.heap.size w w'

set_option maxRecDepth 10000 in
set_option maxHeartbeats 1000000 in
theorem grow_c (n : Nat) (hn : n ≤ 1000) (w : World) :
    Calls Try.prog 44 #[.slice none 0 0, .int .i64 n] w (RetEm w) := by
  obtain ⟨i0, hi, hz0, hz1, hz2⟩ := info_parts' info33
  have u3 := under3
  have ui : Try.prog.underlying 3 = some (.int .i64) := by kernel_rfl
  have d0 : decide ((n : Int) < 0) = false := by simp
  go_enter Try.func44, Try.ntmps44
  rcases Nat.eq_zero_or_pos n with h0 | h0
  · subst h0
    go_wp2_with fail
    go_ret
    exact ⟨_, rfl, World.ownsRow_nil _ _ _ _, Below.refl _ _⟩
  · have d1 : decide ((n : Int) > 0) = true := by simp; omega
    have e1 : IntKind.i64.wrap ((n : Int) - IntKind.i64.wrap (0 - 0)) = n := by rw [IntKind.wrap_i64, IntKind.wrap_i64]; omega
    have tb : Try.t33.bytes = 16 := by kernel_rfl
    have nc := nextslicecap_zero h0
    go_wp2_with fail
    all_goals
      have hle := grownCap_le_maxLen w n 0 33 (by unfold maxLen; omega)
      have hge := grownCap_ge w n 0 33
      unfold grownCap at hle hge
      generalize (Question.appendCap n 0 33).cut (w.tape w.drawn (Question.appendCap n 0 33)) = c at *
      go_ret
      refine ⟨_, rfl, ?_, below_drewN' ((Below.refl _ _).alloc (Nat.le_refl _) _) 1⟩
      refine World.ownsRow.drew (World.ownsRow_made _ _ _ (Nat.le_refl _) hle ?_)
      simp [size_zeroCells]
      omega

theorem nil_of_none {w : World} {xs : List MW} (h : MsP w none xs) : xs = [] := by
  cases xs with
  | nil => rfl
  | cons x xs => obtain ⟨g, off, e, _⟩ := h 0 (by simp); cases e

/-- Nothing appended. -/
theorem append_nil {w : World} {base n m c : Nat} {v : Value} {ys : List Value} {i0 : TypeInfo} (hi : Try.prog.info? 33 = some i0) (hown : w.ownsRow base 33 2 v n ys) (hm : m = 0) (ty : TypeId) :
    (Builtin.append_ #[23, 23] ty #[v, .slice none m c]).run Try.prog w = .ok v w := by
  subst hm
  obtain ⟨a, k, rfl⟩ := owns_slice hown
  have hf : ∀ z, (Builtin.firstCells z 0 (.slice none 0 c)).run Try.prog w = .ok #[] w := fun z => by simp [Builtin.firstCells]
  rcases hown.2 with ⟨e, _⟩ | ⟨g, k', cur, e, _, _, hk, hml, _⟩
  · cases e
    simp [Builtin.append_, run_underlying sliceM, sizeOf, typeInfo, zeroValue, hi, Builtin.lenOf, hf, Result.andThen]
  · cases e
    simp [Builtin.append_, run_underlying sliceM, sizeOf, typeInfo, zeroValue, hi, Builtin.lenOf, hf, hk, storeCells, Result.andThen]

set_option maxRecDepth 10000 in
set_option maxHeartbeats 2000000 in
theorem concat_c {a b : Option Addr} {ca cb S : Nat} {t : TypeId} {xs ys : List MW} (w : World) (hx : MsP w a xs) (hy : MsP w b ys) (lx : xs.length ≤ 16) (ly : ys.length ≤ 16)
    (hS : w.heap[S]? = some (.cells #[.slice a xs.length ca, .slice b ys.length cb] t (0, 0))) :
    Calls Try.prog 23 #[.slice (some ⟨S, 0, none⟩) 2 2] w (RetMs (xs ++ ys) w) := by
  have HX := Lib.hid hx
  have HY := Lib.hid hy
  have hSl : S < w.heap.size := by
    rcases Nat.lt_or_ge S w.heap.size with h | h
    · exact h
    · rw [Array.getElem?_eq_none h] at hS; cases hS
  have HS := Lib.hid hS
  have c0 := cur_cell hS 0
  have c1 := cur_cell hS 1
  simp at c0 c1
  clear hx hy hS
  have u3 := under3
  go_enter Try.func23, Try.ntmps23
  go_wp2_with fail
  go_loop [3, 11] (fun s i => (s = .int .i64 0 ∧ i = .int .i64 0) ∨ (s = .int .i64 xs.length ∧ i = .int .i64 1) ∨ (s = .int .i64 (xs.length + ys.length) ∧ i = .int .i64 2)) (fun _ i => 2 - (intOf i).toNat)
  case atStart => exact Or.inl ⟨rfl, rfl⟩
  case round =>
    have w0 : IntKind.i64.wrap (0 + (xs.length : Int)) = xs.length := by rw [IntKind.wrap_i64]; omega
    have w1 : IntKind.i64.wrap ((xs.length : Int) + ys.length) = xs.length + ys.length := by rw [IntKind.wrap_i64]; omega
    have d0 : decide ((xs.length : Int) < 0) = false := by simp
    have d1 : decide ((xs.length : Int) + (ys.length : Int) < 0) = false := by simp; omega
    rcases hrel with ⟨rfl, rfl⟩ | ⟨rfl, rfl⟩ | ⟨rfl, rfl⟩
    · go_wp2_with fail
      exact ⟨Or.inr (Or.inl ⟨rfl, rfl⟩), by simp [intOf]⟩
    · go_wp2_with fail
      exact ⟨Or.inr (Or.inr ⟨rfl, rfl⟩), by simp [intOf]⟩
    · go_wp2_with fail
      rw [← Int.natCast_add]
      refine (grow_c (xs.length + ys.length) (by omega) _).mono ?_
      rintro e W1 ⟨v0, rfl, own0, b0⟩
      have own1 := Lib.hid own0
      have b1 := Lib.hid b0
      clear own0 b0
      clear c0 c1 d0 d1 w0 w1
      obtain ⟨i0, hi, hz0, hz1, hz2⟩ := info_parts' info33
      go_wp2_with fail
      go_loopw [6, 27] (fun v j wr => ∃ zs : List MW, ((j = .int .i64 0 ∧ [] = zs) ∨ (j = .int .i64 1 ∧ xs = zs) ∨ (j = .int .i64 2 ∧ xs ++ ys = zs)) ∧ Hid (wr.ownsRow w.heap.size 33 2 v zs.length (flat zs)) ∧ Hid (Below w.heap.size w wr)) (fun _ j _ => 2 - (intOf j).toNat)
      case atStart => exact ⟨[], Or.inl ⟨rfl, rfl⟩, own1, b1⟩
      case round =>
        clear own1 b1
        obtain ⟨zs, hz, own, hb⟩ := hrel
        have HX1 := Lib.hid (HX.out.below hb.out)
        have HY1 := Lib.hid (HY.out.below hb.out)
        have HS1 := Lib.hid ((hb.out.block _ hSl).trans HS.out)
        have hsz := hb.out.size
        have c0 := cur_cell HS1.out 0
        have c1 := cur_cell HS1.out 1
        simp at c0 c1
        rcases hz with ⟨rfl, rfl⟩ | ⟨rfl, rfl⟩ | ⟨rfl, rfl⟩
        · cases a with
          | none =>
            have hn := Lib.hid (nil_of_none HX.out)
            go_wp2_with (at_builtin; refine Lib.wpList_append_run _ rfl _ _ 23 23 rfl _ _ rfl rfl _ _ (append_nil hi own.out (by rw [hn.out]; rfl) _) ?_)
            exact ⟨⟨xs, Or.inr (Or.inl ⟨rfl, rfl⟩), by have h := own; rw [show ([] : List MW) = xs from hn.out.symm] at h; exact h, hb⟩, by simp [intOf]⟩
          | some ad =>
            go_wp2_with (at_builtin; refine wpList_append_own _ rfl _ _ 23 rfl w.heap.size 33 i0 (.agg #[.complex .f32 0 0, .complex .f32 0 0]) 2 16 sliceM hi hz0 hz1 hz2 rfl (by decide) _ _ _ rfl own.out _ xs.length ca (flat xs) rfl (flat_length xs) HX1.out.cells (flat_one xs) (by simp [maxLen]; omega) (by simp; omega) hsz ?_; intro v' w2 hown2 hgrow2 _)
            exact ⟨⟨xs, Or.inr (Or.inl ⟨rfl, rfl⟩), Lib.hid (by rw [List.length_nil, Nat.zero_add] at hown2; exact hown2), Lib.hid (hb.out.grown hgrow2 hsz (fun k hk => (own.out.lt k hk).1))⟩, by simp [intOf]⟩
        · cases b with
          | none =>
            have hn := Lib.hid (nil_of_none HY.out)
            go_wp2_with (at_builtin; refine Lib.wpList_append_run _ rfl _ _ 23 23 rfl _ _ rfl rfl _ _ (append_nil hi own.out (by rw [hn.out]; rfl) _) ?_)
            exact ⟨⟨xs ++ ys, Or.inr (Or.inr ⟨rfl, rfl⟩), by have h := own; rw [show xs = xs ++ ys by rw [hn.out, List.append_nil]] at h; exact h, hb⟩, by simp [intOf]⟩
          | some ad =>
            go_wp2_with (at_builtin; refine wpList_append_own _ rfl _ _ 23 rfl w.heap.size 33 i0 (.agg #[.complex .f32 0 0, .complex .f32 0 0]) 2 16 sliceM hi hz0 hz1 hz2 rfl (by decide) _ _ _ rfl own.out _ ys.length cb (flat ys) rfl (flat_length ys) HY1.out.cells (flat_one ys) (by simp [maxLen]; omega) (by omega) hsz ?_; intro v' w2 hown2 hgrow2 _)
            exact ⟨⟨xs ++ ys, Or.inr (Or.inr ⟨rfl, rfl⟩), Lib.hid (by rw [flat_append, List.length_append]; exact hown2), Lib.hid (hb.out.grown hgrow2 hsz (fun k hk => (own.out.lt k hk).1))⟩, by simp [intOf]⟩
        · go_wp2_with fail
          go_ret
          exact ⟨_, rfl, own.out, hb.out⟩
end Go.Proofs.Ytkaajnmbmjnplaa
