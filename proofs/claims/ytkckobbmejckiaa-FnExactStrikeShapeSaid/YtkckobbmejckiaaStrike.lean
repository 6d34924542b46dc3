import Derived.Test.YtkckobbmejckiaaMark
namespace Go.Proofs.Ytkckobbmejckiaa
open Go.RowKit Go.Fl

/-- An element of a strike's shape. -/
def shp (kind : Int) (n : Int) (i : Nat) : Option Nat :=
  if kind = 0 then (if i = 0 then cl .f32 1065353216 else cl .f32 0)
  else if kind = 1 then fop .quo .f32 (some (floatOfInt .f32 ((i : Int) + 1))) (some (floatOfInt .f32 n))
  else
    let t := fop .quo .f32 (some (floatOfInt .f32 (2 * (i : Int) + 1))) (some (floatOfInt .f32 (2 * n)))
    fop .mul .f32 (fop .mul .f32 (cl .f32 1082130432) t) (fop .sub .f32 (cl .f32 1065353216) t)

/-- Words that stand for the first j elements. -/
def Shaped (kind n : Int) (bs : List Nat) : Prop := ∀ i (h : i < bs.length), FV .f32 (shp kind n i) bs[i]

theorem Shaped.snoc {kind n : Int} {bs : List Nat} (h : Shaped kind n bs) {x : Nat} (hx : FV .f32 (shp kind n bs.length) x) : Shaped kind n (bs ++ [x]) := fun i hi => by
  rw [List.length_append] at hi
  by_cases hlt : i < bs.length
  · rw [List.getElem_append_left hlt]; exact h i hlt
  · have : i = bs.length := by simp at hi; omega
    subst this
    simpa using hx

theorem Shaped.cls {kind n : Int} {bs bs' : List Nat} (h : Shaped kind n bs) (h' : Shaped kind n bs') (hl : bs.length = bs'.length) : cls .f32 bs = cls .f32 bs' := by
  apply List.ext_getElem
  · simp [Proofs.Ytkckobbmejckiaa.cls, hl]
  · intro i h1 h2
    simp only [Proofs.Ytkckobbmejckiaa.cls, List.length_map] at h1 h2
    simp only [Proofs.Ytkckobbmejckiaa.cls, List.getElem_map]
    rw [(h i h1).1, (h' i h2).1]

/-- A call that gives a new slice of n floats, shaped, and true; or nil and false. -/
def RetShape (kind n : Int) (w : World) (e : Ending) (w' : World) : Prop :=
  ∃ a len cap t bs, e = .returned (.tuple #[.slice a len cap, .bool t]) ∧ FsP w' .f32 a len bs ∧ Wr w' w.heap.size a len ∧ Below w.heap.size w w' ∧ Shaped kind n bs ∧ len ≤ 64 ∧ (t = (decide (0 ≤ kind) && decide (kind ≤ 2) && decide (1 ≤ n) && decide (n ≤ 64))) ∧ (len : Int) = (if t then n else 0)

theorem FsP.nil (w : World) (k : FloatKind) : FsP w k none 0 [] := ⟨rfl, fun i hi => by simp at hi, by simp⟩

theorem RetShape.no {kind n : Int} {w : World} (h : (decide (0 ≤ kind) && decide (kind ≤ 2) && decide (1 ≤ n) && decide (n ≤ 64)) = false) {m : Nat} : RetShape kind n w (.returned (.tuple #[.slice none 0 0, .bool false])) (w.drewN m) :=
  ⟨none, 0, 0, false, [], rfl, FsP.nil _ _, fun i hi => by omega, below_drewN (Below.refl _ _) _, fun i hi => by simp at hi, by omega, h.symm, rfl⟩

set_option maxHeartbeats 400000 in
theorem l1In_c (x a b : Int) (w : World) : Calls Try.prog 27 #[.int .i64 x, .int .i64 a, .int .i64 b] w (Ret (.bool (decide (a ≤ x) && decide (x ≤ b))) w) := by
  by_cases h1 : a ≤ x
  · by_cases h2 : x ≤ b
    · have e : (decide (a ≤ x) && decide (x ≤ b)) = true := by simp [h1, h2]
      rw [e]
      have d1 : decide (a ≤ x) = true := by simpa using h1
      go_enter Try.func27, Try.ntmps27
      go_wp2
      go_ret
      exact Ret.mk0
    · have e : (decide (a ≤ x) && decide (x ≤ b)) = false := by simp [h1, h2]
      rw [e]
      have d1 : decide (a ≤ x) = true := by simpa using h1
      go_enter Try.func27, Try.ntmps27
      go_wp2
      go_ret
      exact Ret.mk0
  · have e : (decide (a ≤ x) && decide (x ≤ b)) = false := by simp [h1]
    rw [e]
    have d1 : decide (a ≤ x) = false := by simpa using h1
    go_enter Try.func27, Try.ntmps27
    go_wp2
    go_ret
    exact Ret.mk0
end Go.Proofs.Ytkckobbmejckiaa
