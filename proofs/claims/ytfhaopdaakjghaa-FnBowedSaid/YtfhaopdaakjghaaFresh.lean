import Derived.Test.YtfhaopdaakjghaaMul
import Derived.Laws.AppendOwn
namespace Go.Proofs.Ytfhaopdaakjghaa
open Go.RowKit Go.Fl

theorem info5 : (Try.prog.info? 5).map (fun i => (i.zero, i.size, i.bytes)) = some (some (.int .u8 0), 1, 1) := by kernel_rfl
theorem sliceU8 : Try.prog.underlying 22 = some (.slice 5) := by kernel_rfl
theorem info_parts' {i : Option TypeInfo} {z : Option Value} {n b : Nat} (h : i.map (fun i => (i.zero, i.size, i.bytes)) = some (z, n, b)) : ∃ j, i = some j ∧ j.zero = z ∧ j.size = n ∧ j.bytes = b := by
  cases i with
  | none => cases h
  | some j => simp at h; exact ⟨j, rfl, h.1, h.2.1, h.2.2⟩

def isU8 (v : Value) : Prop := ∃ x : Int, v = .int .u8 x ∧ 0 ≤ x ∧ x ≤ 255

theorem below_drewN' {b : Nat} {w w' : World} (h : Below b w w') (n : Nat) : Below b w (w'.drewN n) := ⟨h.os, h.tape, h.output, h.size, h.block⟩

/-- What the loop of fresh keeps. -/
def FreshRel (len : Nat) (w : World) (v : Value) (i : Value) (wr : World) : Prop :=
  ∃ (j : Nat) (xs : List Value), j ≤ len ∧ j ≤ 600 ∧ i = .int .i64 j ∧ wr.ownsRow w.heap.size 5 1 v (j + 1) xs ∧ (∀ x ∈ xs, isU8 x) ∧ Below w.heap.size w wr

/-- A call that gives a new slice of bytes, not empty. -/
def RetBs (w : World) (e : Ending) (w' : World) : Prop := ∃ a len cap, e = .returned (.slice a len cap) ∧ BsP w' a len ∧ 1 ≤ len ∧ len ≤ 1048576 ∧ Below w.heap.size w w'

theorem u8_ok (x : Int) : 0 ≤ IntKind.u8.wrap x ∧ IntKind.u8.wrap x ≤ 255 := by
  show 0 ≤ x % 256 ∧ x % 256 ≤ 255
  omega

theorem BsP.of_owns {w : World} {base g cap n : Nat} {e : TypeId} {xs : List Value} (h : w.ownsRow base e 1 (.slice (some ⟨g, 0, none⟩) n cap) n xs) (hu : ∀ x ∈ xs, isU8 x) : BsP w (some ⟨g, 0, none⟩) n := fun i hi => by
  have hl : i < xs.length := by rw [h.1]; omega
  obtain ⟨x, hx, x0, x1⟩ := hu xs[i] (List.getElem_mem hl)
  refine ⟨g, 0, x, rfl, ?_, x0, x1, (h.lt g rfl).2⟩
  rw [Nat.zero_add, h.cellAt i (by omega)]
  simp [hl, hx]

set_option maxHeartbeats 1000000 in
theorem fresh_c {a : Option Addr} {len cap : Nat} (w : World) (h : BsP w a len) (s : Int) (hs0 : 0 ≤ s) (hs1 : s ≤ 255) :
    Calls Try.prog 8 #[.slice a len cap, .int .i64 s] w (RetBs w) := by
  obtain ⟨i0, hi, hz0, hz1, hz2⟩ := info_parts' info5
  have u3 := under3
  have u8 := under8
  go_enter Try.func8, Try.ntmps8
  go_wp2_with fail
  go_loopw [5, 6] (fun v i wr => FreshRel len w v i wr) (fun _ i _ => len - (intOf i).toNat)
  case atStart => exact ⟨0, _, Nat.zero_le _, by omega, rfl, World.ownsRow_lit _ #[_] 1 (Nat.le_refl _) (by unfold maxLen; omega) rfl, fun x hx => by simp at hx; subst hx; exact ⟨_, rfl, by omega, by omega⟩, (Below.refl _ _).alloc (Nat.le_refl _) _⟩
  case round =>
    obtain ⟨j, xs, hj, hj6, rfl, hown, hu, hb⟩ := hrel
    by_cases hlt : j < len
    · have d1 : decide ((j : Int) < (len : Int)) = true := by simpa using hlt
      by_cases h6 : j < 600
      · have d2 : decide ((j : Int) < 600) = true := by simp; omega
        have h' : BsP wr a len := fun i hi => by
          obtain ⟨b, off, x, h1, h2, h3, h4, h5⟩ := h i hi
          exact ⟨b, off, x, h1, by rw [hb.cell (p := ⟨b, off + i, none⟩) h5]; exact h2, h3, h4, Nat.lt_of_lt_of_le h5 hb.size⟩
        obtain ⟨b, off, x, rfl, hc, x0, x1, _⟩ := h' j hlt
        have hm : 0 ≤ s * ((j : Int) % 7 + 1) ∧ s * ((j : Int) % 7 + 1) ≤ 1785 := by
          have q0 : 0 ≤ (j : Int) % 7 + 1 := by omega
          have q1 : (j : Int) % 7 + 1 ≤ 7 := by omega
          refine ⟨Int.mul_nonneg hs0 q0, ?_⟩
          have := Int.mul_le_mul hs1 q1 q0 (by decide)
          omega
        obtain ⟨hm0, hm1⟩ := hm
        clear h h'
        go_wp2_with (at_builtin; refine wpList_append_own _ rfl _ _ 22 rfl w.heap.size 5 i0 (.int .u8 0) 1 1 sliceU8 hi hz0 hz1 hz2 rfl (by decide) _ _ _ rfl (hown.alloc _) _ 1 1 [_] rfl rfl (new_one _ _ _) (one_ok rfl) (by unfold maxLen; omega) (by omega) (by have := hb.size; simp; omega) ?_; intro v' w1 hown1 hgrow1 _)
        refine ⟨⟨j + 1, _, hlt, h6, by go_num, hown1, ?_, hb.trans (((Below.refl _ _).alloc hb.size _).trans (below_grown (hown.alloc _) hgrow1 (Nat.le_refl _) (by have := hb.size; simp; omega)))⟩, by simp [intOf]; omega⟩
        intro y hy
        rcases List.mem_append.1 hy with hy | hy
        · exact hu y hy
        · rw [List.mem_singleton.1 hy]; exact ⟨_, rfl, u8_ok _⟩
      · have d2 : decide ((j : Int) < 600) = false := by simp; omega
        rcases hown.2 with ⟨_, hn⟩ | ⟨g, cap, _, rfl, _⟩
        · omega
        · clear h
          go_wp2
          go_ret
          exact ⟨_, _, _, rfl, BsP.of_owns hown hu, by omega, by omega, hb⟩
    · have d1 : decide ((j : Int) < (len : Int)) = false := by simpa using hlt
      rcases hown.2 with ⟨_, hn⟩ | ⟨g, cap, _, rfl, _⟩
      · omega
      · clear h
        go_wp2
        go_ret
        exact ⟨_, _, _, rfl, BsP.of_owns hown hu, by omega, by omega, hb⟩
end Go.Proofs.Ytfhaopdaakjghaa
