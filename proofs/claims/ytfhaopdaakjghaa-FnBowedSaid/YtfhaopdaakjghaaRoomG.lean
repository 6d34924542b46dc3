import Derived.Test.YtfhaopdaakjghaaSteps
import Derived.Test.YtfhaopdaakjghaaModeG
import Derived.Test.YtfhaopdaakjghaaBodyB
import Derived.Test.YtfhaopdaakjghaaBodyF
namespace Go.Proofs.Ytfhaopdaakjghaa
open Go.RowKit Go.Fl

theorem fsP_own {W : World} {base c : Nat} {a : Option Addr} {bs : List Nat} (h : W.ownsRow base 25 1 (.slice a bs.length c) bs.length (fvals .f32 bs)) (hw : ∀ x ∈ bs, x < 2 ^ 32) : FsP W .f32 a bs.length bs := by
  rcases h.2 with ⟨e, h1⟩ | ⟨g, c', cur, e, _⟩
  · have : bs = [] := List.eq_nil_of_length_eq_zero h1
    subst this
    exact ⟨rfl, fun i hi => by simp at hi, by simp⟩
  · have : a = some ⟨g, 0, none⟩ := by injection e
    subst this
    exact FsP.of_owns rfl h hw

theorem own_grown {W W' : World} {base n size : Nat} {e : TypeId} {v : Value} {ys : List Value} {row : Option Nat} (h : W.ownsRow base e size v n ys) (hg : W.grownBy W' row) (hne : ∀ g, row = some g → g < base) : W'.ownsRow base e size v n ys := by
  refine h.kept hg ?_
  cases hr : v.ownBlock with
  | none => exact Or.inl rfl
  | some k => right; intro e2; have := hne k e2.symm; have := (h.lt k hr).1; omega
end Go.Proofs.Ytfhaopdaakjghaa
