import Derived.Test.YtfhaopdaakjghaaStep
import Derived.Deep.RegionHeld3
import Derived.Laws.OwnMore
namespace Go.Proofs.Ytfhaopdaakjghaa
open Go.RowKit Go.Fl Go.BigFrame

def zvals (zs : List ZW) : List Value := zs.map fun z => .complex .f32 z.1 z.2
theorem zvals_length (zs : List ZW) : (zvals zs).length = zs.length := by simp [zvals]
theorem zvals_get {zs : List ZW} {i : Nat} (h : i < zs.length) : (zvals zs)[i]? = some (.complex .f32 zs[i].1 zs[i].2) := by
  unfold zvals; rw [List.getElem?_map, List.getElem?_eq_getElem h]; rfl
theorem zvals_set (zs : List ZW) (i : Nat) (z : ZW) : (zvals zs).set i (.complex .f32 z.1 z.2) = zvals (zs.set i z) := by
  unfold zvals; rw [List.map_set]

/-- One step of all modes, in words: the new states, and the output. -/
def stepsW (xs : List MW) (zs : List ZW) (x : Nat) : List ZW := List.zipWith (fun m z => stepW m z x) xs zs
def outW (zs : List ZW) : Nat := zs.foldl (fun s z => fo .add .f32 s z.1) 0

theorem stepsW_get {xs : List MW} {zs : List ZW} {x i : Nat} (hx : i < xs.length) (hz : i < zs.length) : (stepsW xs zs x)[i]? = some (stepW xs[i] zs[i] x) := by
  unfold stepsW
  rw [List.getElem?_zipWith, List.getElem?_eq_getElem hx, List.getElem?_eq_getElem hz]
theorem stepsW_length {xs : List MW} {zs : List ZW} {x : Nat} (h : zs.length = xs.length) : (stepsW xs zs x).length = xs.length := by
  unfold stepsW; rw [List.length_zipWith, h, Nat.min_self]

theorem outW_succ {zs : List ZW} {i : Nat} {z : ZW} (h : zs[i]? = some z) : outW (zs.take (i + 1)) = fo .add .f32 (outW (zs.take i)) z.1 := by
  unfold outW
  rw [List.take_add_one, h, List.foldl_append]
  rfl

/-- The states are stepped as far as I. -/
structure Stepped (I : Nat) (ys ss zs : List ZW) : Prop where
  len : ys.length = zs.length
  done : ∀ i, i < I → ys[i]? = ss[i]?
  rest : ∀ i, I ≤ i → ys[i]? = zs[i]?

theorem Stepped.start (ss zs : List ZW) : Stepped 0 zs ss zs := ⟨rfl, fun i h => by omega, fun _ _ => rfl⟩
theorem Stepped.next {I : Nat} {ys ss zs : List ZW} {z : ZW} (h : Stepped I ys ss zs) (hI : I < zs.length) (hz : ss[I]? = some z) : Stepped (I + 1) (ys.set I z) ss zs := by
  refine ⟨by rw [List.length_set]; exact h.len, fun i hi => ?_, fun i hi => ?_⟩
  · by_cases e : i = I
    · subst e
      rw [List.getElem?_set_self (by rw [h.len]; exact hI), hz]
    · rw [List.getElem?_set_ne (fun h => e h.symm)]
      exact h.done i (by omega)
  · rw [List.getElem?_set_ne (by omega)]
    exact h.rest i (by omega)
theorem Stepped.all {ys ss zs : List ZW} (h : Stepped zs.length ys ss zs) (hl : ss.length = zs.length) : ys = ss := by
  apply List.ext_getElem?
  intro i
  rcases Nat.lt_or_ge i zs.length with hi | hi
  · exact h.done i hi
  · rw [List.getElem?_eq_none (by rw [h.len]; exact hi), List.getElem?_eq_none (by rw [hl]; exact hi)]

/-- The limits of states and of their sum. -/
def ZsLim (n : Nat) (zs : List ZW) : Prop := ∀ z ∈ zs, ZLim n z
theorem ZsLim.mono {m n : Nat} {zs : List ZW} (h : ZsLim m zs) (hn : m ≤ n) : ZsLim n zs := fun z hz => (h z hz).mono hn

theorem stepsW_lim {xs : List MW} {zs : List ZW} {x n : Nat} (hm : ∀ m ∈ xs, MLim m) (hz : ZsLim n zs) (hx : Lim .f32 1 x) (h0 : 10 ≤ n) (hn : n ≤ 100) : ZsLim (n + 2) (stepsW xs zs x) := by
  intro z h
  unfold stepsW at h
  obtain ⟨i, hi, rfl⟩ := List.getElem_of_mem h
  rw [List.length_zipWith] at hi
  rw [List.getElem_zipWith]
  exact (step_words (hm _ (List.getElem_mem (by omega))) (hz _ (List.getElem_mem (by omega))) hx h0 hn).2.2.2.2.2.2.2

theorem outW_lim {n : Nat} {zs : List ZW} (h : ZsLim n zs) (hn : n + zs.length ≤ 120) : ∀ i, i ≤ zs.length → Lim .f32 (n + i) (outW (zs.take i)) ∧ (∀ hi : i < zs.length, floatBits .add .f32 (outW (zs.take i)) zs[i].1 = some (outW (zs.take (i + 1)))) := by
  intro i
  induction i with
  | zero =>
    intro hi
    have h0 : Lim .f32 n (outW (zs.take 0)) := Lim.zero _ _
    refine ⟨h0, fun hi => ?_⟩
    rw [outW_succ (List.getElem?_eq_getElem hi)]
    exact (lim_add h0 (h _ (List.getElem_mem hi)).re (by omega)).1
  | succ i ih =>
    intro hi
    obtain ⟨a, b⟩ := ih (by omega)
    have e := outW_succ (List.getElem?_eq_getElem (show i < zs.length by omega))
    have h1 : Lim .f32 (n + (i + 1)) (outW (zs.take (i + 1))) := by
      rw [e]
      exact (lim_add a ((h _ (List.getElem_mem (show i < zs.length by omega))).re.mono (by omega)) (by omega)).2
    refine ⟨h1, fun hi => ?_⟩
    rw [outW_succ (List.getElem?_eq_getElem hi)]
    exact (lim_add h1 ((h _ (List.getElem_mem hi)).re.mono (by omega)) (by omega)).1
end Go.Proofs.Ytfhaopdaakjghaa
