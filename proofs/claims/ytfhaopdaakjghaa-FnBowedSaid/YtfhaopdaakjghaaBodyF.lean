import Derived.Test.YtfhaopdaakjghaaBodyE
import Derived.Laws.ResultCell
namespace Go.Proofs.Ytfhaopdaakjghaa
open Go.RowKit Go.Fl

/-- A call that gives a new body. -/
def RetB (xs : List MW) (w : World) (e : Ending) (w' : World) : Prop :=
  ∃ v, e = .returned (.agg #[v]) ∧ w'.ownsRow w.heap.size 55 2 v xs.length (flat xs) ∧ Below w.heap.size w w'

theorem store_slice0 {W : World} {b : Nat} {u v : Value} {t : TypeId} (hb : W.heap[b]? = some (.cells #[u] t (0, 0))) (hv : v.oneCell' = true) :
    (store ⟨b, 0, none⟩ v).run Try.prog W = .ok () (W.setCell ⟨b, 0, none⟩ v) :=
  run_store_one (P := Try.prog) hv (show W.cell? ⟨b, 0, none⟩ = some u by rw [cur_cell hb]; rfl) (cur_free hb 0)

theorem owns_slice {w : World} {base size n : Nat} {e : TypeId} {v : Value} {xs : List Value} (h : w.ownsRow base e size v n xs) : ∃ a c, v = .slice a n c := by
  rcases h.2 with ⟨rfl, rfl⟩ | ⟨g, c', _, rfl, _⟩
  · exact ⟨_, _, rfl⟩
  · exact ⟨_, _, rfl⟩

theorem store_slice {W : World} {b : Nat} {u v : Value} {t : TypeId} (hb : W.heap[b]? = some (.cells #[u] t (0, 0))) (hv : v.oneCell' = true) :
    (storeCells ⟨b, 0, none⟩ [v]).run Try.prog W = .ok () (W.setCell ⟨b, 0, none⟩ v) := by
  have hst0 := run_store_one (P := Try.prog) hv (show W.cell? ⟨b, 0, none⟩ = some u by rw [cur_cell hb]; rfl) (cur_free hb 0)
  simp [storeCells, Addr.add, hst0]

theorem results_body {fn : Func} {p u : Tmp} {ty : TypeId} (h : fn.results = #[.cell p ty, .tmp u]) (tmps : Array Value) (w : World) (g : Nat) (t : TypeId) (cs : Array Value) (fr : Nat × Nat) (d : TypeDesc) (x : Value)
    (hp : tmps.getD p undef = .pointer (some ⟨g, 0, none⟩)) (hx : tmps.getD u undef = x) (hg : w.heap[g]? = some (.cells cs t fr))
    (hd : (match d with | .struct _ | .array _ _ => true | _ => false) = true) (hu : Try.prog.underlying ty = some d) (hi : (Try.prog.info? ty).map (·.size) = some cs.size) :
    (results fn tmps).run Try.prog w = .ok (.tuple #[.agg cs, x]) w := by
  have hp' : tmps[p]?.getD undef = .pointer (some ⟨g, 0, none⟩) := by simpa using hp
  have hx' : tmps[u]?.getD undef = x := by simpa using hx
  rw [results_cell_tmp h]
  simp [hp', hx', asAddr, run_loadVar_row w g t ty cs fr d hg hu (by cases d <;> first | rfl | cases hd) hi, Result.andThen]

/-- A list that is one of a body, or none. -/
def kept (xs : List MW) : List MW := if okL xs then xs else []

/-- A call that gives a new body and says whether it is valid. -/
def RetCk (xs : List MW) (w : World) (e : Ending) (w' : World) : Prop :=
  ∃ v, e = .returned (.tuple #[.agg #[v], .bool (okL xs)]) ∧ w'.ownsRow w.heap.size 55 2 v (kept xs).length (flat (kept xs)) ∧ Below w.heap.size w w'

end Go.Proofs.Ytfhaopdaakjghaa
