import Derived.Test.YtkaajnmbmjnplaaConcat
import Derived.Test.YtkaajnmbmjnplaaMrg
import Derived.Test.YtkaajnmbmjnplaaDamp
import Derived.Shelf.Abstract
namespace Go.Proofs.Ytkaajnmbmjnplaa
open Go.RowKit Go.Fl Go.Shelf Go.Proofs

theorem enter_merge1 : ∀ args w, (callFunc 25 args).run Try.prog w = .ok (.enter 25 args) w :=
  enters_of Try.func25 (by kernel_rfl) rfl

set_option maxRecDepth 10000 in
set_option maxHeartbeats 1000000 in
theorem merge1_c {x m : MW} {M : Nat} {t : TypeId} (w : World) (hM : w.heap[M]? = some (.cells #[.complex .f32 m.a m.b, .complex .f32 m.c m.d] t (0, 0))) :
    Calls Try.prog 25 (#[x.val] ++ #[.pointer (some ⟨M, 0, none⟩)]) w (RetBel (.bool (hasPole m x)) w) := by
  obtain ⟨v1, v2, v3, v4⟩ := x
  obtain ⟨m1, m2, m3, m4⟩ := m
  have hMl : M < w.heap.size := by
    rcases Nat.lt_or_ge M w.heap.size with h | h
    · exact h
    · rw [Array.getElem?_eq_none h] at hM; cases hM
  rw [show (#[MW.val ⟨v1, v2, v3, v4⟩] ++ #[.pointer (some ⟨M, 0, none⟩)] : Array Value) = #[.agg #[.complex .f32 v1 v2, .complex .f32 v3 v4], .pointer (some ⟨M, 0, none⟩)] from rfl]
  go_enter Try.func25, Try.ntmps25
  go_upto_region 1 with fail
  have B0 : Below w.heap.size w (w.alloc (.cells #[.complex .f32 v1 v2, .complex .f32 v3 v4] 33)) := (Below.refl _ _).alloc (Nat.le_refl _) _
  have M0 := heap_alloc_new w (.cells #[.complex .f32 v1 v2, .complex .f32 v3 v4] 33)
  have M1 := (heap_alloc_old w (.cells #[.complex .f32 v1 v2, .complex .f32 v3 v4] 33) hMl).trans hM
  generalize w.alloc (.cells #[.complex .f32 v1 v2, .complex .f32 v3 v4] 33) = W0 at *
  generalize hR : w.heap.size = R at *
  have HR := Lib.hid hR
  have c0 := cur_cell M0 0
  have d0 := cur_cell M1 0
  simp at c0 d0
  go_wp2_with fail
  refine (equalSingle_c _ _ _ _ _).mono ?_
  rintro e w1 ⟨rfl, rfl⟩
  go_wp2_with fail
  go_ret
  exact ⟨rfl, by rw [HR.out]; exact B0⟩

/-- The body that is being merged lies in block O; all else of the world W0 has stayed. -/
structure Merging (W0 wr : World) (O n : Nat) (va : Option Addr) (vc : Nat) (out : List MW) : Prop where
  len : n = out.length
  box : wr.heap[O]? = some (.cells #[.slice va n vc] 25 (0, 0))
  own : wr.ownsRow W0.heap.size 33 2 (.slice va n vc) n (flat out)
  grown : W0.grownBy wr (some O)
  lt : O < W0.heap.size

variable {W0 wr w' : World} {O n vc : Nat} {va : Option Addr} {out : List MW}

theorem Merging.old (h : Merging W0 wr O n va vc out) {k : Nat} (hk : k < W0.heap.size) (hne : k ≠ O) : wr.heap[k]? = W0.heap[k]? := h.grown.block k hk (fun e => hne (by injection e))

theorem Merging.olt (h : Merging W0 wr O n va vc out) : O < wr.heap.size := Nat.lt_of_lt_of_le h.lt h.grown.size

theorem Merging.below (h : Merging W0 wr O n va vc out) (hb : Below wr.heap.size wr w') : Merging W0 w' O n va vc out := by
  have g : wr.grownBy w' none := ⟨hb.os, hb.tape, hb.output, hb.size, fun k hk _ => hb.block k hk⟩
  refine ⟨h.len, (hb.block O h.olt).trans h.box, h.own.kept g (by cases Value.ownBlock (.slice va n vc) <;> simp), ?_, h.lt⟩
  exact grownBy_trans h.grown ⟨hb.os, hb.tape, hb.output, hb.size, fun k hk _ => hb.block k hk⟩

theorem Merging.alloc (h : Merging W0 wr O n va vc out) (o : Obj) : Merging W0 (wr.alloc o) O n va vc out := h.below ((Below.refl _ _).alloc (Nat.le_refl _) o)
theorem Merging.drewN (h : Merging W0 wr O n va vc out) (k : Nat) : Merging W0 (wr.drewN k) O n va vc out := h.below (below_drewN' (Below.refl _ _) k)

theorem Merging.sees {a : Option Addr} {xs : List MW} (h : Merging W0 wr O n va vc out) (hx : MsP W0 a xs) (hne : ∀ x, a = some x → x.block ≠ O) : MsP wr a xs := fun i hi => by
  obtain ⟨g, off, e, h1, h2, h3⟩ := hx i hi
  have hg := h.old h3 (hne _ e)
  exact ⟨g, off, e, by rw [World.cell?_of_block hg]; exact h1, by rw [World.cell?_of_block hg]; exact h2, Nat.lt_of_lt_of_le h3 h.grown.size⟩

theorem Merging.shows (h : Merging W0 wr O n va vc out) : MsP wr va out := MsP.of_owns h.len h.own

/-- A mode is appended and stored. -/
theorem Merging.push {o : Obj} {w1 : World} {v' : Value} {m : MW} (h : Merging W0 wr O n va vc out) (hown : w1.ownsRow W0.heap.size 33 2 v' (n + 1) (flat out ++ [.complex .f32 m.a m.b, .complex .f32 m.c m.d])) (hg : (wr.alloc o).grownBy w1 (Value.ownBlock (.slice va n vc))) :
    ∃ va' vc', v' = .slice va' (n + 1) vc' ∧ w1.cell? ⟨O, 0, none⟩ = some (.slice va n vc) ∧ w1.frozen? ⟨O, 0, none⟩ = false ∧ Merging W0 (w1.setCell ⟨O, 0, none⟩ v') O (n + 1) va' vc' (out ++ [m]) := by
  obtain ⟨va', vc', rfl⟩ := owns_slice hown
  have hne : ∀ g, Value.ownBlock (.slice va n vc) = some g → W0.heap.size ≤ g := fun g e => (h.own.lt g e).1
  have hO1 : w1.heap[O]? = some (.cells #[.slice va n vc] 25 (0, 0)) := by
    rw [hg.block O (by rw [World.size_alloc]; have := h.olt; omega) (fun e => by have := hne O e.symm; have := h.lt; omega), heap_alloc_old wr o h.olt]
    exact h.box
  have hO2 := cur_set hO1 0 (.slice va' (n + 1) vc')
  refine ⟨va', vc', rfl, by rw [cur_cell hO1]; rfl, cur_free hO1 0, ⟨by simp [h.len], hO2, ?_, ?_, h.lt⟩⟩
  · rw [flat_append]
    exact ownsRow_setCell_other hown (fun e => by have h1 := (hown.lt _ e).1; have h2 := h.lt; simp at h1; omega) _
  · refine ⟨hg.os.trans h.grown.os, hg.tape.trans h.grown.tape, hg.output.trans h.grown.output, ?_, fun k hk hk2 => ?_⟩
    · have h1 := hg.size; have h2 := h.grown.size; rw [World.size_alloc] at h1; simp [World.setCell]; omega
    · have h2 := h.grown.size
      rw [Below.heap_setCell _ _ _ _ (show k ≠ O from fun e => hk2 (by rw [e])), hg.block k (by rw [World.size_alloc]; omega) (fun e => by have := hne k e.symm; omega), heap_alloc_old wr o (by omega)]
      exact h.grown.block k hk hk2

/-- Another gain is stored. -/
theorem Merging.gain {g i : Nat} (h : Merging W0 wr O n (some ⟨g, 0, none⟩) vc out) (hi : i < out.length) (c d : Nat) :
    Merging W0 (wr.setCell ⟨g, i * 2 + 1, none⟩ (.complex .f32 c d)) O n (some ⟨g, 0, none⟩) vc (out.set i ⟨out[i].a, out[i].b, c, d⟩) := by
  have hg := (h.own.lt g rfl).1
  have hlt := h.lt
  refine ⟨by simp [h.len], ?_, ?_, ?_, h.lt⟩
  · rw [Below.heap_setCell _ _ _ _ (show O ≠ g by omega)]; exact h.box
  · have := (h.own.stored (i * 2 + 1) (.complex .f32 c d)).1
    rw [flat_set1 hi c d] at this
    exact this
  · refine ⟨h.grown.os, h.grown.tape, h.grown.output, ?_, fun k hk hk2 => ?_⟩
    · have h2 := h.grown.size; simp [World.setCell]; omega
    · rw [Below.heap_setCell _ _ _ _ (show k ≠ g by omega)]
      exact h.grown.block k hk hk2
end Go.Proofs.Ytkaajnmbmjnplaa
