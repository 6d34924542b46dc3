import Derived.Test.YtfhaopdaakjghaaStepA
import Derived.Test.YtfhaopdaakjghaaBow
namespace Go.Proofs.Ytfhaopdaakjghaa
open Go.RowKit Go.Fl

theorem ple32 {r g : Nat} (hr : r ≤ Ieee.single.infRung) (hg : g ≤ Ieee.single.infRung) : (FloatKind.f32.format.order r g == some .lt || FloatKind.f32.format.order r g == some .eq) = decide (r ≤ g) := by
  obtain ⟨a1, a2, _⟩ := word_facts .f32 false hr
  obtain ⟨b1, b2, _⟩ := word_facts .f32 false hg
  rw [word_plus] at a1 a2 b1 b2
  rw [order_le (k := .f32) (by rw [a2]; exact hr) (by rw [b2]; exact hg), iv_pos a1, iv_pos b1, a2, b2]
  rcases Nat.lt_trichotomy r g with h | h | h
  · have := V_lt FloatKind.f32.format h
    rw [show compare ((V FloatKind.f32.format r : Nat) : Int) (V FloatKind.f32.format g : Nat) = .lt by rw [Int.compare_eq_lt]; omega]
    simp; omega
  · subst h
    simp
  · have := V_lt FloatKind.f32.format h
    rw [show compare ((V FloatKind.f32.format r : Nat) : Int) (V FloatKind.f32.format g : Nat) = .gt by rw [Int.compare_eq_gt]; omega]
    simp; omega

/-- A bow with the greatest grip sticks, if the difference is finite. -/
theorem stick_fin {b v d : Nat} (hd : floatBits .sub .f32 b v = some d) (fd : fin .f32 d) : bowSticks (some b) (some v) (some 2139095039) = true ∧ bowForce (some b) (some v) (some 2139095039) = some d := by
  have e : bowD (some b) (some v) = some d := hd
  have hs : bowSticks (some b) (some v) (some 2139095039) = true := by
    unfold bowSticks
    rw [e]
    show (FloatKind.f32.format.order (rg FloatKind.f32.format d) 2139095039 == some .lt || FloatKind.f32.format.order (rg FloatKind.f32.format d) 2139095039 == some .eq) = true
    have h1 : rg FloatKind.f32.format d < FloatKind.f32.format.infRung := fd
    have h2 : FloatKind.f32.format.infRung = 2139095040 := by decide
    rw [ple32 (Nat.le_of_lt h1) (by decide)]
    simp; omega
  exact ⟨hs, by rw [bow_yes hs]; exact e⟩

/-- A small number and a finite one have a finite difference. -/
theorem sub_big {b v : Nat} (hb : Bd 1 3 b) (fv : fin .f32 v) : ∃ d, floatBits .sub .f32 b v = some d ∧ fin .f32 d := by
  obtain ⟨d, h1, _, _, h4⟩ := sub_word (hb.fin (rep1 (by omega))) fv
  refine ⟨d, h1, ?_⟩
  have fv' : rg FloatKind.f32.format v ≤ 2139095039 := by
    have h1 : rg FloatKind.f32.format v < FloatKind.f32.format.infRung := fv
    have h2 : FloatKind.f32.format.infRung = 2139095040 := by decide
    omega
  have i1 := iv_abs FloatKind.f32.format b
  have i2 := iv_abs FloatKind.f32.format v
  have j1 : V FloatKind.f32.format (rg FloatKind.f32.format b) ≤ _ := hb.2
  have j2 := V_le FloatKind.f32.format fv'
  have hT : (iv FloatKind.f32.format b - iv FloatKind.f32.format v).natAbs ≤ 1 * 2 ^ (149 + 3) + V FloatKind.f32.format 2139095039 := by omega
  have h5 := Rc_mono FloatKind.f32.format hT (c := FloatKind.f32.format.leastPlace) (Int.le_refl _)
  have h6 : Rc FloatKind.f32.format FloatKind.f32.format.leastPlace (1 * 2 ^ (149 + 3) + V FloatKind.f32.format 2139095039) = 2139095039 := by decide +kernel
  rw [h6, ← h4] at h5
  exact Nat.lt_of_le_of_lt h5 (by decide)

/-- What the last output stands for behind some steps, eleven at most. -/
def lastC (xs : List MW) (bow I : Nat) : Option Nat := if I ≤ 10 then some (bwS xs bow I).2 else outC (bwS xs bow I).1

theorem outC_eq {n : Nat} {zs : List ZW} (h : ZsLim n zs) (hl : zs.length ≤ 3) (hn : n ≤ 122) : outC zs = some (outW zs) := by
  have key : ∀ i, i ≤ zs.length → outC (zs.take i) = some (outW (zs.take i)) := by
    intro i
    induction i with
    | zero => intro _; rfl
    | succ i ih =>
      intro hi
      have hlt : i < zs.length := by omega
      have hz := (h _ (List.getElem_mem hlt)).re
      rw [outC_succ (List.getElem?_eq_getElem hlt), ih (by omega), cl_fin (hz.fin (by omega)), fop_fin]
      exact (outW_bd h hl hn i (by omega)).2 hlt
  have := key zs.length (Nat.le_refl _)
  rw [List.take_length] at this
  exact this

theorem lastC_next {xs : List MW} {bow : Nat} (hm : ∀ m ∈ xs, MLim m) (hl : xs.length ≤ 3) (hb : Bd 1 3 bow) {I : Nat} (hI : I ≤ 10) : lastC xs bow (I + 1) = outC (stepsW xs (bwS xs bow I).1 (fo .sub .f32 bow (bwS xs bow I).2)) := by
  unfold lastC
  rcases Nat.lt_or_eq_of_le hI with h | rfl
  · rw [if_pos (by omega)]
    obtain ⟨a, _⟩ := bw_small hm hl hb (I + 1) (by omega)
    have h2 := bwS_length xs bow (I + 1)
    exact (outC_eq a (by omega) (by omega)).symm
  · rfl
end Go.Proofs.Ytfhaopdaakjghaa
