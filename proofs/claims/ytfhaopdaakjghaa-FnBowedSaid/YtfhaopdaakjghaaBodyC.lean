import Derived.Test.YtfhaopdaakjghaaBodyB
namespace Go.Proofs.Ytfhaopdaakjghaa
open Go.RowKit Go.Fl

/-- What the words of a mode stand for. -/
def clM (x : MW) : MQ := ((cl .f32 x.a, cl .f32 x.b), (cl .f32 x.c, cl .f32 x.d))
def wfX (x : MW) : Prop := x.a < 2 ^ 32 ∧ x.b < 2 ^ 32 ∧ x.c < 2 ^ 32 ∧ x.d < 2 ^ 32
def okB (x : MW) : Bool := okMode (clM x)
theorem wfX.fm {x : MW} (h : wfX x) : FM (clM x) x := ⟨FV.of_lt (k := .f32) h.1, FV.of_lt (k := .f32) h.2.1, FV.of_lt (k := .f32) h.2.2.1, FV.of_lt (k := .f32) h.2.2.2⟩
theorem okX.wf {x : MW} (h : okX x) : wfX x ∧ okB x = true := by
  obtain ⟨m, ⟨h1, h2, h3, h4⟩, ho⟩ := h
  refine ⟨⟨h1.2, h2.2, h3.2, h4.2⟩, ?_⟩
  have e : m = clM x := by unfold clM; rw [h1.1, h2.1, h3.1, h4.1]
  unfold okB
  rw [← e]; exact ho
theorem wfX.okX {x : MW} (h : wfX x) (k : okB x = true) : okX x := ⟨clM x, h.fm, k⟩

/-- A slice of modes, as it lies. -/
def MsP (w : World) (a : Option Addr) (xs : List MW) : Prop :=
  ∀ i (h : i < xs.length), ∃ g off, a = some ⟨g, off, none⟩ ∧ w.cell? ⟨g, off + i * 2, none⟩ = some (.complex .f32 xs[i].a xs[i].b) ∧ w.cell? ⟨g, off + i * 2 + 1, none⟩ = some (.complex .f32 xs[i].c xs[i].d) ∧ g < w.heap.size

theorem MsP.below {w w' : World} {a : Option Addr} {xs : List MW} (h : MsP w a xs) (hb : Below w.heap.size w w') : MsP w' a xs := fun i hi => by
  obtain ⟨g, off, h1, h2, h3, h4⟩ := h i hi
  exact ⟨g, off, h1, by rw [hb.cell (p := ⟨g, off + i * 2, none⟩) h4]; exact h2, by rw [hb.cell (p := ⟨g, off + i * 2 + 1, none⟩) h4]; exact h3, Nat.lt_of_lt_of_le h4 hb.size⟩

/-- Is it the modes of a body? -/
def okL (xs : List MW) : Bool := xs.all okB && decide (xs.length ≤ 16)

theorem all_take_succ {xs : List MW} {i : Nat} (hi : i < xs.length) (h : (xs.take i).all okB = true) (k : okB xs[i] = true) : (xs.take (i + 1)).all okB = true := by
  rw [List.take_add_one, List.getElem?_eq_getElem hi, List.all_append, h]
  simp [k]

theorem not_all {xs : List MW} {i : Nat} (hi : i < xs.length) (k : okB xs[i] = false) : xs.all okB = false := by
  rw [List.all_eq_false]
  exact ⟨xs[i], List.getElem_mem hi, by rw [k]; decide⟩

end Go.Proofs.Ytfhaopdaakjghaa
