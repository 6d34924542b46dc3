import Derived.Test.YtfhaopdaakjghaaBodyC
namespace Go.Proofs.Ytfhaopdaakjghaa
open Go.RowKit Go.Fl

set_option maxRecDepth 10000 in
set_option maxHeartbeats 2000000 in
theorem indexFunc_c {p : MW → Bool} {a : Option Addr} {cap : Nat} {xs : List MW} {fid : Nat} {caps : Array Value} (w : World) (h : MsP w a xs) (hw : ∀ x ∈ xs, wfX x) (hl : xs.length ≤ 1048576)
    (hin : ∀ args w, (callFunc fid args).run Try.prog w = .ok (.enter fid args) w)
    (hcall : ∀ W x, Below w.heap.size w W → wfX x → Calls Try.prog fid (#[x.val] ++ caps) W (RetBel (.bool (p x)) W)) :
    Calls Try.prog 37 #[.slice a xs.length cap, .func (.func fid) #[] caps] w fun e w' => (∃ i : Int, e = .returned (.int .i64 i) ∧ ((i = -1 ∧ ∀ x ∈ xs, p x = false) ∨ ∃ k : Nat, i = k ∧ k < xs.length ∧ (∀ h : k < xs.length, p xs[k] = true) ∧ ∀ x ∈ xs.take k, p x = false)) ∧ Below w.heap.size w w' := by
  have H := Lib.hid h
  have HW := Lib.hid hw
  have HC := Lib.hid hcall
  have u3 := under3
  clear h hw hcall
  go_enter Try.func37, Try.ntmps37
  go_wp2_with fail
  go_loopw [8] (fun i wr => ∃ I : Nat, i = .int .i64 I ∧ I ≤ xs.length ∧ Hid (∀ x ∈ xs.take I, p x = false) ∧ Hid (Below w.heap.size w wr)) (fun i _ => xs.length - (intOf i).toNat)
  case atStart => exact ⟨0, rfl, Nat.zero_le _, Lib.hid (by simp), Lib.hid (Below.refl _ _)⟩
  case round =>
    obtain ⟨I, rfl, hI, hall, hB⟩ := hrel
    rcases Nat.lt_or_eq_of_le hI with hlt | heq
    · have d1 : decide ((I : Int) < (xs.length : Int)) = true := by simpa using hlt
      obtain ⟨g, off, rfl, c0, c1, hg⟩ := (H.out.below hB.out) I hlt
      have HX := Lib.hid (HC.out wr xs[I] hB.out (HW.out xs[I] (List.getElem_mem hlt)))
      go_wp2_with fail
      refine HX.out.mono ?_
      rintro e W2 ⟨rfl, b2⟩
      have B2 := Lib.hid (hB.out.trans (b2.mono hB.out.size))
      have HP : ∀ q, p xs[I] = q → Hid (p xs[I] = q) := fun q e => Lib.hid e
      cases hp : p xs[I]
      case true =>
        have HQ := HP _ hp
        clear hp HP
        go_wp2_with fail
        go_ret
        exact ⟨⟨I, rfl, Or.inr ⟨I, rfl, hlt, fun _ => HQ.out, hall.out⟩⟩, B2.out⟩
      case false =>
        have HQ := HP _ hp
        clear hp HP
        go_wp2_with fail
        refine ⟨⟨I + 1, by go_num, hlt, Lib.hid ?_, B2⟩, by simp [intOf]; omega⟩
        intro x hx
        rw [List.take_add_one, List.getElem?_eq_getElem hlt] at hx
        rcases List.mem_append.1 hx with hx | hx
        · exact hall.out x hx
        · simp at hx; rw [hx]; exact HQ.out
    · subst heq
      have d1 : decide ((xs.length : Int) < (xs.length : Int)) = false := by simp
      go_wp2_with fail
      go_ret
      refine ⟨⟨-1, rfl, Or.inl ⟨rfl, ?_⟩⟩, hB.out⟩
      have := hall.out
      rw [List.take_of_length_le (Nat.le_refl _)] at this
      exact this
end Go.Proofs.Ytfhaopdaakjghaa
