import Derived.Test.YtfhaopdaakjghaaRnd4
namespace Go.Proofs.Ytfhaopdaakjghaa
open Go.RowKit Go.Fl

theorem fin_of {u : Nat} (h : isFin .f64 (fconv .f32 .f64 (cl .f32 u)) = true) : fin .f32 u := by
  unfold cl at h
  split at h
  · cases h
  · rename_i hn
    have hle := rg_le_of_not_nan (k := .f32) (by simpa using hn)
    rcases Nat.lt_or_eq_of_le hle with h1 | h1
    · exact h1
    · exfalso
      have hr := read_inf Ieee.single (okf .f32) (b := u) h1
      have : fconv .f32 .f64 (some u) = some (Ieee.double.write (Ieee.single.read u)) := rfl
      rw [this, hr] at h
      generalize sg Ieee.single u = s at h
      revert h
      cases s <;> decide

/-- The parts of a mode are finite. -/
theorem okB_fin {x : MW} (h : okB x = true) : fin .f32 x.a ∧ fin .f32 x.b ∧ fin .f32 x.c ∧ fin .f32 x.d := by
  unfold okB okMode clM wide cfin at h
  simp only [Bool.and_eq_true] at h
  exact ⟨fin_of h.1.1.1.1.1, fin_of h.1.1.1.1.2, fin_of h.1.1.1.2.1, fin_of h.1.1.1.2.2⟩

/-- A word that is no NaN. -/
def Num (x : Nat) : Prop := x < 2 ^ 32 ∧ rg Ieee.single x ≤ Ieee.single.infRung

theorem add_num {x y : Nat} (hx : Num x) (hy : fin .f32 y) : ∃ r, floatBits .add .f32 x y = some r ∧ Num r := by
  rcases Nat.lt_or_eq_of_le hx.2 with h | h
  · obtain ⟨r, h1, h2, _, _, h3⟩ := add_word (k := .f32) h hy
    exact ⟨r, h1, h2, by show rg FloatKind.f32.format r ≤ _; rw [h3]; exact Rc_le_inf _ _ _⟩
  · obtain ⟨m, e, h1, _⟩ := read_fin Ieee.single hy
    have h2 := read_inf Ieee.single (okf .f32) h
    obtain ⟨g1, g2, g3⟩ := word_facts .f32 (sg Ieee.single x) (Nat.le_refl _)
    refine ⟨Ieee.single.word (sg Ieee.single x) Ieee.single.infRung, ?_, g3, Nat.le_of_eq g2⟩
    show Ieee.Format.add Ieee.single x y = _
    unfold Ieee.Format.add
    rw [h1, h2]
    rfl

def gadd (x y : Nat) : Nat := (floatBits .add .f32 x y).getD 0
theorem gadd_eq {x y : Nat} (hx : Num x) (hy : fin .f32 y) : floatBits .add .f32 x y = some (gadd x y) ∧ Num (gadd x y) := by
  obtain ⟨r, h, k⟩ := add_num hx hy
  have : gadd x y = r := by unfold gadd; rw [h]; rfl
  rw [this]; exact ⟨h, k⟩

/-- A mode of the merged body, and one that may join it. -/
def MNum (x : MW) : Prop := wfX x ∧ fin .f32 x.a ∧ fin .f32 x.b ∧ Num x.c ∧ Num x.d
def MFin (x : MW) : Prop := wfX x ∧ fin .f32 x.a ∧ fin .f32 x.b ∧ fin .f32 x.c ∧ fin .f32 x.d
theorem MFin.num {x : MW} (h : MFin x) : MNum x := ⟨h.1, h.2.1, h.2.2.1, ⟨h.1.2.2.1, Nat.le_of_lt h.2.2.2.1⟩, ⟨h.1.2.2.2, Nat.le_of_lt h.2.2.2.2⟩⟩
theorem MFin.of {x : MW} (h : wfX x) (k : okB x = true) : MFin x := ⟨h, okB_fin k⟩

def joined (x m : MW) : MW := ⟨x.a, x.b, gadd x.c m.c, gadd x.d m.d⟩
theorem joined_num {x m : MW} (h : MNum x) (k : MFin m) : MNum (joined x m) := by
  have h1 := (gadd_eq h.2.2.2.1 k.2.2.2.1).2
  have h2 := (gadd_eq h.2.2.2.2 k.2.2.2.2).2
  exact ⟨⟨h.1.1, h.1.2.1, h1.1, h2.1⟩, h.2.1, h.2.2.1, h1, h2⟩

/-- Has a mode the pole of m? -/
def hasPole (m x : MW) : Bool := ceq x.a x.b m.a m.b

/-- The place of the first mode that fits, or -1. -/
def Found (p : MW → Bool) (xs : List MW) (i : Int) : Prop := (i = -1 ∧ ∀ x ∈ xs, p x = false) ∨ ∃ k : Nat, i = k ∧ k < xs.length ∧ (∀ h : k < xs.length, p xs[k] = true) ∧ ∀ x ∈ xs.take k, p x = false

/-- A mode is merged into a body. -/
def mrg (out : List MW) (m : MW) : List MW := match out.findIdx? (hasPole m) with | none => out ++ [m] | some i => if h : i < out.length then out.set i (joined out[i] m) else out

theorem mrg_new {out : List MW} {m : MW} (h : ∀ x ∈ out, hasPole m x = false) : mrg out m = out ++ [m] := by
  unfold mrg
  rw [List.findIdx?_eq_none_iff.2 h]

theorem mrg_old {out : List MW} {m : MW} {k : Nat} (hk : k < out.length) (h : hasPole m out[k] = true) (h0 : ∀ x ∈ out.take k, hasPole m x = false) : mrg out m = out.set k (joined out[k] m) := by
  unfold mrg
  rw [List.findIdx?_eq_some_iff_getElem.2 ⟨hk, h, fun j hj => by
    have := h0 out[j] (List.mem_take_iff_getElem.2 ⟨j, by omega, rfl⟩)
    rw [this]; decide⟩]
  simp [hk]

/-- No pole twice. -/
def Apart (out : List MW) : Prop := (out.map fun x => (x.a, x.b)).Pairwise fun p q => ceq p.1 p.2 q.1 q.2 = false

structure Good (n : Nat) (out : List MW) : Prop where
  num : ∀ x ∈ out, MNum x
  apart : Apart out
  len : out.length ≤ n

theorem Good.nil : Good 0 [] := ⟨by simp, by simp [Apart], by simp⟩

theorem Good.mrg {n : Nat} {out : List MW} {m : MW} (h : Good n out) (hm : MFin m) : Good (n + 1) (mrg out m) := by
  by_cases hh : ∀ x ∈ out, hasPole m x = false
  · rw [mrg_new hh]
    refine ⟨fun x hx => ?_, ?_, by have := h.len; simp; omega⟩
    · rcases List.mem_append.1 hx with hx | hx
      · exact h.num x hx
      · rw [List.mem_singleton.1 hx]; exact hm.num
    · unfold Apart
      rw [List.map_append, List.pairwise_append]
      refine ⟨h.apart, by simp, fun p hp q hq => ?_⟩
      obtain ⟨x, hx, rfl⟩ := List.mem_map.1 hp
      simp at hq
      subst hq
      exact hh x hx
  · have hsome : (out.findIdx? (hasPole m)).isSome = true := by
      cases hf : out.findIdx? (hasPole m) with
      | some k => rfl
      | none => exact absurd (List.findIdx?_eq_none_iff.1 hf) hh
    obtain ⟨k, hk⟩ := Option.isSome_iff_exists.1 hsome
    obtain ⟨hlt, hp, _⟩ := List.findIdx?_eq_some_iff_getElem.1 hk
    have e : Go.Proofs.Ytfhaopdaakjghaa.mrg out m = out.set k (joined out[k] m) := by
      unfold Go.Proofs.Ytfhaopdaakjghaa.mrg; rw [hk]; simp [hlt]
    rw [e]
    refine ⟨fun x hx => ?_, ?_, by have := h.len; simp; omega⟩
    · rcases List.mem_or_eq_of_mem_set hx with hx | hx
      · exact h.num x hx
      · rw [hx]; exact joined_num (h.num _ (List.getElem_mem hlt)) hm
    · have : (out.set k (joined out[k] m)).map (fun x => (x.a, x.b)) = out.map (fun x => (x.a, x.b)) := by
        rw [List.map_set]
        apply List.ext_getElem
        · simp
        · intro i h1 h2
          rw [List.getElem_set]
          split
          · rename_i hi; subst hi; simp [joined]
          · rfl
      unfold Apart
      rw [this]
      exact h.apart

def mrgAll (xs : List MW) : List MW := xs.foldl mrg []

theorem mrgAll_succ {xs : List MW} {i : Nat} (hi : i < xs.length) : mrgAll (xs.take (i + 1)) = mrg (mrgAll (xs.take i)) xs[i] := by
  unfold mrgAll
  rw [List.take_succ_eq_append_getElem hi, List.foldl_append]
  rfl

theorem Good.all {xs : List MW} (h : ∀ x ∈ xs, MFin x) (i : Nat) (hi : i ≤ xs.length) : Good i (mrgAll (xs.take i)) := by
  induction i with
  | zero => exact Good.nil
  | succ i ih =>
    rw [mrgAll_succ hi]
    exact (ih (by omega)).mrg (h _ (List.getElem_mem hi))

theorem Apart.get {out : List MW} {n : Nat} (h : Good n out) {i k : Nat} (hk : k < i) (hi : i < out.length) : ceq out[i].a out[i].b out[k].a out[k].b = false := by
  have h1 := List.pairwise_iff_getElem.1 h.apart k i (by simp; omega) (by simp; omega) hk
  simp at h1
  have g1 := h.num _ (List.getElem_mem hi)
  have g2 := h.num _ (List.getElem_mem (show k < out.length by omega))
  unfold ceq at *
  rw [weq_comm g1.2.1 g2.2.1, weq_comm g1.2.2.1 g2.2.2.1]
  exact h1
end Go.Proofs.Ytfhaopdaakjghaa
