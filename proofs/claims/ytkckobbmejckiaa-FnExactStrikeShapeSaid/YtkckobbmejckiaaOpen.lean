import Derived.Test.YtkckobbmejckiaaSame
import Derived.Test.YtkckobbmejckiaaRows
import Derived.ProofKit
import Derived.OpenShut
import Derived.ShutString
import Derived.ChangeOld
import Derived.Deep.Slices
namespace Go.Proofs.Ytkckobbmejckiaa
open Go.ChangeShapes Go.WideShapes Go.ChangeAt Go.RowKit Go.Fl

section
variable {H : Type} {enc : TypeId × Value → H} {P : Program} {w : World} {base : Nat} {held : Bool}

/-- A slice of floats that came in, opened. -/
theorem open_floats {t e : TypeId} {k : FloatKind} {fuel : Nat} {a0 : Option Addr} {len0 cap0 : Nat} {x : DataW H × List MemPlace} (ht : P.underlying t = some (.slice e)) (he : P.underlying e = some (.float k)) (hc : P.cellsOf e = 1)
    (h : DataW.trod enc P w base (fun _ => true) held fuel t [.slice a0 len0 cap0] = some x) : ∃ bs, FsP w k a0 len0 bs ∧ len0 ≤ cap0 ∧ cap0 ≤ maxLen := by
  rcases Deep.open_slice1 ht hc h with ⟨h0, _⟩ | ⟨a, len, cap, m, n, V, D, Pl, hcs, hb, hl, hm, hmm, rfl, hx⟩
  · simp only [List.cons.injEq, Value.slice.injEq, and_true] at h0
    obtain ⟨rfl, rfl, rfl⟩ := h0
    exact ⟨[], ⟨rfl, fun i hi => by simp at hi, by simp⟩, Nat.le_refl _, Nat.zero_le _⟩
  · simp only [List.cons.injEq, Value.slice.injEq, and_true] at hcs
    obtain ⟨rfl, rfl, rfl⟩ := hcs
    simp only [if_true] at hmm
    obtain rfl := hmm
    obtain ⟨B, hB⟩ := Deep.choose_lt (α := Nat) (n := m) (p := fun i b => V i = .float k b ∧ b < 2 ^ k.format.width) (fun i hi => by
      have h2 := (hx i hi).2
      cases n with
      | zero => simp [DataW.trod] at h2
      | succ n =>
        cases hv : V i with
        | float k' b =>
          rw [hv] at h2
          simp only [DataW.trod, he] at h2
          by_cases hkk : k' = k
          · subst hkk
            by_cases hwf : (Lit.float k' b).wf = true
            · refine ⟨b, rfl, ?_⟩
              cases k'
              · show b < 2 ^ 32
                simpa [Lit.wf] using hwf
              · show b < 2 ^ 64
                simpa [Lit.wf] using hwf
            · simp [hwf] at h2
          · simp [hkk] at h2
        | _ => rw [hv] at h2; simp [DataW.trod, he] at h2)
    refine ⟨(List.range len0).map B, ⟨by simp, fun i hi => ?_, fun x hx' => ?_⟩, hl, hm⟩
    · simp only [List.length_map, List.length_range] at hi
      have hci := (hx i (by omega)).1
      rw [(hB i (by omega)).1] at hci
      obtain ⟨b, off, spot⟩ := a
      have hspot : spot = none := by
        have := World.cell?_spot hci
        unfold Addr.add at this
        split at this
        · exact this
        · rename_i h0
          have hci0 := (hx 0 (by omega)).1
          have := World.cell?_spot hci0
          simpa [Addr.add] using this
      subst hspot
      have e1 : (⟨b, off, none⟩ : Addr).add i = ⟨b, off + i, none⟩ := by
        unfold Addr.add
        split
        · rename_i h0; subst h0; rfl
        · rfl
      rw [e1] at hci
      refine ⟨b, off, rfl, by simpa using hci, ?_⟩
      by_cases hbl : b < w.heap.size
      · exact hbl
      · exfalso
        unfold World.cell? at hci
        rw [Array.getElem?_eq_none (by simpa using hbl)] at hci
        cases hci
    · simp only [List.mem_map, List.mem_range] at hx'
      obtain ⟨i, hi, rfl⟩ := hx'
      exact (hB i (by omega)).2
end

theorem own : ownKnob Try.prog.godebug = none := by kernel_rfl
theorem laidOut : laidOutB Try.prog = true := by kernel_rfl
end Go.Proofs.Ytkckobbmejckiaa
