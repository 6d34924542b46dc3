import Derived.Test.YtjamceoofgfokaaDoorRead
namespace Go.Proofs.YtjamceoofgfokaaDoor
open Go.RowKit Go.Fl

/-- A call that reads an integer. -/
def RetRd (l : List UInt8) (w : World) (e : Ending) (w' : World) : Prop :=
  ∃ (n : Int) (t : Bool), e = .returned (.tuple #[.int .i64 n, .bool t]) ∧ -(10 ^ 17) < n ∧ n < 10 ^ 17 ∧ (∀ n' : Int, -(10 ^ 17) < n' → n' < 10 ^ 17 → l = Lib.itoa n' → n = n' ∧ t = true) ∧ ∃ k, w' = w.drewN k

set_option maxRecDepth 10000 in
set_option maxHeartbeats 2000000 in
theorem l1Read_c {l : List UInt8} (hl : l.length ≤ 1048576) (w : World) :
    Calls Tryd.prog 26 #[.string ⟨l.toArray⟩] w (RetRd l w) := by
  by_cases hneg : ∃ h : 1 < l.length, l[0] = 45 ∧ l[1] ≠ 45
  · obtain ⟨h1, h2, h3⟩ := hneg
    have hdl : (l.drop 1).length ≤ 1048576 := by simp; omega
    have P0 := Lib.hid (fun w => l1Read_pos (l := l.drop 1) hdl (fun h hh => by
      exfalso
      apply h3
      rw [List.getElem_drop] at hh
      exact hh) w)
    have g0 : decide (1 < (l.length : Int)) = true := by simp; omega
    have g1 : ((((⟨l.toArray⟩ : ByteArray)[0]'(by show 0 < l.length; omega)).toNat : Int) == 45) = true := byte_eq (by omega) 45 (by decide) h2
    have g2 : ((((⟨l.toArray⟩ : ByteArray)[1]'(by show 1 < l.length; omega)).toNat : Int) == 45) = false := byte_ne (by omega) 45 (by decide) h3
    have g2' : ((((⟨l.toArray⟩ : ByteArray)[1]'(by show 1 < l.length; omega)).toNat : Int) != 45) = true := by show (!_) = true; rw [g2]; rfl
    have hex : (⟨l.toArray⟩ : ByteArray).extract 1 l.length = ⟨(l.drop 1).toArray⟩ := by rw [ext_bytes, List.take_of_length_le (Nat.le_refl _)]
    have FIN : ∀ (n : Nat) (t : Bool) w', n < 10 ^ 17 → (∀ N, N < 10 ^ 17 → l.drop 1 = Lib.decDigits N → n = N ∧ t = true) → (∃ k, w' = w.drewN k) → RetRd l w (.returned (.tuple #[.int .i64 (-(n : Int)), .bool (t && !(n == 0))])) w' := fun n t w' hn hh hw => ⟨_, _, rfl, by omega, by omega, fun n' a1 a2 hi => by
      rcases Int.lt_or_le n' 0 with c | c
      · obtain ⟨N, rfl⟩ : ∃ N : Nat, n' = -(N : Int) := ⟨n'.natAbs, by omega⟩
        rw [itoa_neg (by omega)] at hi
        obtain ⟨e1, e2⟩ := hh N (by omega) (by rw [hi]; rfl)
        refine ⟨by omega, ?_⟩
        rw [e2, e1]
        simp
        omega
      · obtain ⟨N, rfl⟩ : ∃ N : Nat, n' = (N : Int) := ⟨n'.toNat, by omega⟩
        rw [itoa_nat] at hi
        exfalso
        have := dec_digits N l[0] (by rw [← hi]; exact List.getElem_mem _)
        rw [h2] at this
        exact absurd this.1 (by decide), hw⟩
    have F0 := Lib.hid FIN
    clear FIN h2 h3
    generalize l.drop 1 = L at *
    go_enter Tryd.func26, Tryd.ntmps26
    go_wp2_with fail
    refine (P0.out _).mono ?_
    rintro e _ ⟨n, t, rfl, hn, hh, k, rfl⟩
    have FF := Lib.hid (F0.out n t _ hn hh ⟨k, rfl⟩)
    clear hh F0 P0
    cases t
    · go_wp2_with fail
      go_ret2
      exact FF.out
    · by_cases hz : n = 0
      · subst hz
        replace FF : Hid (RetRd l w (.returned (.tuple #[.int .i64 0, .bool false])) (w.drewN k)) := FF
        go_wp2_with fail
        go_ret2
        exact FF.out
      · have z : ((n : Int) == 0) = false := by simpa using hz
        have z' : ((n : Int) != 0) = true := by simpa using hz
        go_wp2_with fail
        go_ret2
        have hq := FF.out
        have e : (true && !(n == 0)) = true := by simpa using hz
        rw [e] at hq
        exact hq
  · refine (l1Read_pos hl (fun h hh => Classical.byContradiction fun hn => hneg ⟨h, hh, hn⟩) w).mono ?_
    rintro e w' ⟨n, t, rfl, hn, hh, hw⟩
    refine ⟨n, t, rfl, by omega, by omega, fun n' a1 a2 hi => ?_, hw⟩
    rcases Int.lt_or_le n' 0 with c | c
    · obtain ⟨N, rfl⟩ : ∃ N : Nat, n' = -(N : Int) := ⟨n'.natAbs, by omega⟩
      exfalso
      rw [itoa_neg (by omega)] at hi
      obtain ⟨d, r, hd, hdig⟩ := dec_cons N
      rw [hd] at hi
      subst hi
      exact hneg ⟨by simp, rfl, fun h => isDig_ne hdig h⟩
    · obtain ⟨N, rfl⟩ : ∃ N : Nat, n' = (N : Int) := ⟨n'.toNat, by omega⟩
      rw [itoa_nat] at hi
      obtain ⟨e1, e2⟩ := hh N (by omega) hi
      exact ⟨by omega, e2⟩
end Go.Proofs.YtjamceoofgfokaaDoor
