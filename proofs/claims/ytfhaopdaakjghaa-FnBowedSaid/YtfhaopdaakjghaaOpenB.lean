import Derived.Test.YtfhaopdaakjghaaCur
import Derived.Test.YtfhaopdaakjghaaRows
import Derived.ProofKit
import Derived.OpenShut
import Derived.ShutString
import Derived.ChangeOld
import Derived.Deep.Slices
namespace Go.Proofs.Ytfhaopdaakjghaa
open Go.ChangeShapes Go.WideShapes Go.ChangeAt Go.RowKit Go.Fl

section
variable {H : Type} {enc : TypeId × Value → H} {P : Program} {w : World} {base : Nat} {held : Bool}

/-- A slice of bytes that came in, opened. -/
theorem open_bytes {t e : TypeId} {fuel : Nat} {a0 : Option Addr} {len0 cap0 : Nat} {x : DataW H × List MemPlace} (ht : P.underlying t = some (.slice e)) (he : P.underlying e = some (.int .u8)) (hc : P.cellsOf e = 1)
    (h : DataW.trod enc P w base (fun _ => true) held fuel t [.slice a0 len0 cap0] = some x) : BsP w a0 len0 := by
  rcases Deep.open_slice1 ht hc h with ⟨h0, _⟩ | ⟨a, len, cap, m, n, V, D, Pl, hcs, hb, hl, hm, hmm, rfl, hx⟩
  · simp only [List.cons.injEq, Value.slice.injEq, and_true] at h0
    obtain ⟨rfl, rfl, rfl⟩ := h0
    exact fun i hi => absurd hi (Nat.not_lt_zero _)
  · simp only [List.cons.injEq, Value.slice.injEq, and_true] at hcs
    obtain ⟨rfl, rfl, rfl⟩ := hcs
    simp only [if_true] at hmm
    obtain rfl := hmm
    intro i hi
    have hci := (hx i (by omega)).1
    obtain ⟨y, hy, y0, y1⟩ : ∃ y : Int, V i = .int .u8 y ∧ 0 ≤ y ∧ y ≤ 255 := by
      have h2 := (hx i (by omega)).2
      cases n with
      | zero => simp [DataW.trod] at h2
      | succ n =>
        cases hv : V i with
        | int k' b =>
          rw [hv] at h2
          simp only [DataW.trod, he] at h2
          by_cases hkk : k' = .u8
          · subst hkk
            by_cases hwf : (Lit.int .u8 b).wf = true
            · refine ⟨b, rfl, ?_⟩
              simp [Lit.wf] at hwf
              exact hwf
            · simp [hwf] at h2
          · simp [hkk] at h2
        | _ => rw [hv] at h2; simp [DataW.trod, he] at h2
    rw [hy] at hci
    obtain ⟨b, off, spot⟩ := a
    have hspot : spot = none := by
      have := World.cell?_spot hci
      unfold Addr.add at this
      split at this
      · exact this
      · rename_i h0
        have hci0 := (hx 0 (by omega)).1
        have := World.cell?_spot hci0
        simpa [Addr.add] using this
    subst hspot
    have e1 : (⟨b, off, none⟩ : Addr).add i = ⟨b, off + i, none⟩ := by
      unfold Addr.add
      split
      · rename_i h0; subst h0; rfl
      · rfl
    rw [e1] at hci
    refine ⟨b, off, y, rfl, hci, y0, y1, ?_⟩
    by_cases hbl : b < w.heap.size
    · exact hbl
    · exfalso
      unfold World.cell? at hci
      rw [Array.getElem?_eq_none (by simpa using hbl)] at hci
      cases hci
end

theorem own : ownKnob Try.prog.godebug = none := by kernel_rfl
theorem laidOut : laidOutB Try.prog = true := by kernel_rfl
end Go.Proofs.Ytfhaopdaakjghaa
