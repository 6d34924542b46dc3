import Derived.Test.YtkaajnmbmjnplaaBodyE
import Derived.Laws.ResultCell
namespace Go.Proofs.Ytkaajnmbmjnplaa
open Go.RowKit Go.Fl

/-- A call that gives a new body. -/
def RetB (xs : List MW) (w : World) (e : Ending) (w' : World) : Prop :=
  ∃ v, e = .returned (.agg #[v]) ∧ w'.ownsRow w.heap.size 33 2 v xs.length (flat xs) ∧ Below w.heap.size w w'

theorem store_slice0 {W : World} {b : Nat} {u v : Value} {t : TypeId} (hb : W.heap[b]? = some (.cells #[u] t (0, 0))) (hv : v.oneCell' = true) :
    (store ⟨b, 0, none⟩ v).run Try.prog W = .ok () (W.setCell ⟨b, 0, none⟩ v) :=
  run_store_one (P := Try.prog) hv (show W.cell? ⟨b, 0, none⟩ = some u by rw [cur_cell hb]; rfl) (cur_free hb 0)

theorem owns_slice {w : World} {base size n : Nat} {e : TypeId} {v : Value} {xs : List Value} (h : w.ownsRow base e size v n xs) : ∃ a c, v = .slice a n c := by
  rcases h.2 with ⟨rfl, rfl⟩ | ⟨g, c', _, rfl, _⟩
  · exact ⟨_, _, rfl⟩
  · exact ⟨_, _, rfl⟩

theorem store_slice {W : World} {b : Nat} {u v : Value} {t : TypeId} (hb : W.heap[b]? = some (.cells #[u] t (0, 0))) (hv : v.oneCell' = true) :
    (storeCells ⟨b, 0, none⟩ [v]).run Try.prog W = .ok () (W.setCell ⟨b, 0, none⟩ v) := by
  have hst0 := run_store_one (P := Try.prog) hv (show W.cell? ⟨b, 0, none⟩ = some u by rw [cur_cell hb]; rfl) (cur_free hb 0)
  simp [storeCells, Addr.add, hst0]

set_option maxRecDepth 10000 in
set_option maxHeartbeats 1000000 in
theorem copyBody_c {a : Option Addr} {cap : Nat} {xs : List MW} (w : World) (h : MsP w a xs) (hl : xs.length ≤ 1048576) :
    Calls Try.prog 29 #[.agg #[.slice a xs.length cap]] w (RetB xs w) := by
  have L0 := Lib.hid (fun w' hb => clone_c (cap := cap) w' (h.below hb) hl)
  clear h
  go_enter Try.func29, Try.ntmps29
  go_upto_region 1 with fail
  have B0 : Below w.heap.size w ((w.alloc (.cells #[.slice a xs.length cap] 25)).alloc (.cells #[.slice none 0 0] 25)) := ((Below.refl _ _).alloc (Nat.le_refl _) _).alloc (by simp) _
  have hlt : w.heap.size < (w.alloc (.cells #[.slice a xs.length cap] 25)).heap.size := by rw [World.size_alloc]; omega
  have hP := (heap_alloc_old (w.alloc (.cells #[.slice a xs.length cap] 25)) (.cells #[.slice none 0 0] 25) hlt).trans (heap_alloc_new w _)
  have hR := heap_alloc_new (w.alloc (.cells #[.slice a xs.length cap] 25)) (.cells #[.slice none 0 0] 25)
  rw [World.size_alloc] at hR
  have hs : w.heap.size + 2 ≤ ((w.alloc (.cells #[.slice a xs.length cap] 25)).alloc (.cells #[.slice none 0 0] 25)).heap.size := by rw [World.size_alloc, World.size_alloc]; omega
  clear hlt
  generalize ((w.alloc (.cells #[.slice a xs.length cap] 25)).alloc (.cells #[.slice none 0 0] 25)) = W0 at *
  have cP := cur_cell hP 0
  simp at cP
  go_wp2_with fail
  refine (L0.out _ B0).mono ?_
  rintro e w1 ⟨v, rfl, hown, b1⟩
  obtain ⟨va, vc, rfl⟩ := owns_slice hown
  have R1 := (b1.block _ (by omega)).trans hR
  have B1 := Lib.hid (below_set (B0.trans (b1.mono (by omega))) (show w.heap.size ≤ w.heap.size + 1 by omega) 0 (.slice va xs.length vc))
  have c1 := cur_cell R1 0
  have f1 := cur_free R1 0
  simp at c1
  have hR5 := Lib.hid (cur_set R1 0 (.slice va xs.length vc))
  have hown5 := Lib.hid (owns_le (base' := w.heap.size) (ownsRow_setCell_other (a := ⟨w.heap.size + 1, 0, none⟩) hown (fun e => by have := (hown.lt _ e).1; simp at this; omega) (.slice va xs.length vc)) (by omega))
  clear hown R1 b1
  go_wp2_with fail

  refine bodyPost_ret_by (v := .agg #[.slice va xs.length vc]) ?_ rfl ⟨_, rfl, hown5.out, B1.out⟩
  exact results_cell_row rfl _ _ (w.heap.size + 1) _ #[.slice va xs.length vc] _ _ rfl hR5.out Try.underlying25 rfl (by kernel_rfl)

theorem results_body {fn : Func} {p u : Tmp} {ty : TypeId} (h : fn.results = #[.cell p ty, .tmp u]) (tmps : Array Value) (w : World) (g : Nat) (t : TypeId) (cs : Array Value) (fr : Nat × Nat) (d : TypeDesc) (x : Value)
    (hp : tmps.getD p undef = .pointer (some ⟨g, 0, none⟩)) (hx : tmps.getD u undef = x) (hg : w.heap[g]? = some (.cells cs t fr))
    (hd : (match d with | .struct _ | .array _ _ => true | _ => false) = true) (hu : Try.prog.underlying ty = some d) (hi : (Try.prog.info? ty).map (·.size) = some cs.size) :
    (results fn tmps).run Try.prog w = .ok (.tuple #[.agg cs, x]) w := by
  have hp' : tmps[p]?.getD undef = .pointer (some ⟨g, 0, none⟩) := by simpa using hp
  have hx' : tmps[u]?.getD undef = x := by simpa using hx
  rw [results_cell_tmp h]
  simp [hp', hx', asAddr, run_loadVar_row w g t ty cs fr d hg hu (by cases d <;> first | rfl | cases hd) hi, Result.andThen]

/-- A list that is one of a body, or none. -/
def kept (xs : List MW) : List MW := if okL xs then xs else []

/-- A call that gives a new body and says whether it is valid. -/
def RetCk (xs : List MW) (w : World) (e : Ending) (w' : World) : Prop :=
  ∃ v, e = .returned (.tuple #[.agg #[v], .bool (okL xs)]) ∧ w'.ownsRow w.heap.size 33 2 v (kept xs).length (flat (kept xs)) ∧ Below w.heap.size w w'

set_option maxRecDepth 10000 in
set_option maxHeartbeats 1000000 in
theorem checked_c {a : Option Addr} {cap : Nat} {xs : List MW} (w : World) (h : MsP w a xs) (hw : ∀ x ∈ xs, wfX x) (hl : xs.length ≤ 1048576) :
    Calls Try.prog 27 #[.agg #[.slice a xs.length cap]] w (RetCk xs w) := by
  have L0 := Lib.hid (fun w' hb => copyBody_c (cap := cap) w' (h.below hb) hl)
  have L1 := Lib.hid (fun w' hb => isBodyImpl_c (cap := cap) w' (h.below hb) hw hl)
  clear h hw
  go_enter Try.func27, Try.ntmps27
  go_upto_region 1 with fail
  have B0 : Below w.heap.size w ((w.alloc (.cells #[.slice a xs.length cap] 25)).alloc (.cells #[.slice none 0 0] 25)) := ((Below.refl _ _).alloc (Nat.le_refl _) _).alloc (by simp) _
  have hlt : w.heap.size < (w.alloc (.cells #[.slice a xs.length cap] 25)).heap.size := by rw [World.size_alloc]; omega
  have hP := (heap_alloc_old (w.alloc (.cells #[.slice a xs.length cap] 25)) (.cells #[.slice none 0 0] 25) hlt).trans (heap_alloc_new w _)
  have hR := heap_alloc_new (w.alloc (.cells #[.slice a xs.length cap] 25)) (.cells #[.slice none 0 0] 25)
  rw [World.size_alloc] at hR
  have hs : w.heap.size + 2 ≤ ((w.alloc (.cells #[.slice a xs.length cap] 25)).alloc (.cells #[.slice none 0 0] 25)).heap.size := by rw [World.size_alloc, World.size_alloc]; omega
  clear hlt
  generalize ((w.alloc (.cells #[.slice a xs.length cap] 25)).alloc (.cells #[.slice none 0 0] 25)) = W0 at *
  have cP := cur_cell hP 0
  simp at cP
  go_wp2_with fail
  refine (L1.out _ B0).mono ?_
  rintro e W1 ⟨rfl, b0⟩
  have B1 := B0.trans (b0.mono (by omega))
  have R1 := (b0.block _ (by omega)).trans hR
  have P1 := (b0.block _ (by omega)).trans hP
  have hs1 : w.heap.size + 2 ≤ W1.heap.size := Nat.le_trans hs b0.size
  clear B0 hR hP hs b0 cP
  have cP := cur_cell P1 0
  have c1 := cur_cell R1 0
  have f1 := cur_free R1 0
  simp at cP c1
  cases hk : okL xs
  case false =>
    have hkk := Lib.hid hk
    have hR5 := Lib.hid (cur_set R1 0 (.slice none 0 0))
    have B5 := Lib.hid (below_set B1 (show w.heap.size ≤ w.heap.size + 1 by omega) 0 (.slice none 0 0))
    clear hk R1 B1 P1
    go_wp2_with fail
    refine bodyPost_ret_by (v := .tuple #[.agg #[.slice none 0 0], .bool false]) ?_ rfl ⟨_, by rw [hkk.out], ?_, B5.out⟩
    · exact results_body rfl _ _ (w.heap.size + 1) _ #[.slice none 0 0] _ _ _ rfl rfl hR5.out rfl Try.underlying25 (by kernel_rfl)
    · rw [show kept xs = [] by unfold kept; rw [hkk.out]; rfl]; exact World.ownsRow_nil _ _ _ _
  case true =>
    have hkk := Lib.hid hk
    clear hk
    go_wp2_with fail
    refine (L0.out _ B1).mono ?_
    rintro e w1 ⟨v, rfl, hown, b1⟩
    obtain ⟨va, vc, rfl⟩ := owns_slice hown
    have R2 := (b1.block _ (by omega)).trans R1
    have B5 := Lib.hid (below_set (B1.trans (b1.mono (by omega))) (show w.heap.size ≤ w.heap.size + 1 by omega) 0 (.slice va xs.length vc))
    have hR5 := Lib.hid (cur_set R2 0 (.slice va xs.length vc))
    have hown5 := Lib.hid (owns_le (base' := w.heap.size) (ownsRow_setCell_other (a := ⟨w.heap.size + 1, 0, none⟩) hown (fun e => by have := (hown.lt _ e).1; simp at this; omega) (.slice va xs.length vc)) (by omega))
    clear c1 f1 cP P1
    have c1 := cur_cell R2 0
    have f1 := cur_free R2 0
    simp at c1
    clear hown R1 R2 b1 B1
    go_wp2_with fail
    refine bodyPost_ret_by (v := .tuple #[.agg #[.slice va xs.length vc], .bool true]) ?_ rfl ⟨_, by rw [hkk.out], ?_, B5.out⟩
    · exact results_body rfl _ _ (w.heap.size + 1) _ #[.slice va xs.length vc] _ _ _ rfl rfl hR5.out rfl Try.underlying25 (by kernel_rfl)
    · rw [show kept xs = xs by unfold kept; rw [hkk.out]; rfl]; exact hown5.out
end Go.Proofs.Ytkaajnmbmjnplaa
