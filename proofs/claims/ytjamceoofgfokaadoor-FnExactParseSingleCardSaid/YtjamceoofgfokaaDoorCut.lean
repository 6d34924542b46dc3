import Derived.Test.YtjamceoofgfokaaDoorPars
import Derived.Test.YtjamceoofgfokaaDoorRegion
import Derived.Test.YtjamceoofgfokaaDoorShelfP
namespace Go.Fl
open Go
theorem ib_lt : ∀ (l : List UInt8) (c : UInt8), Lib.indexByte l c < l.length
  | [], _ => by show (-1 : Int) < 0; decide
  | b :: l, c => by
    have ih := ib_lt l c
    show (if b == c then (0 : Int) else if Lib.indexByte l c == -1 then -1 else Lib.indexByte l c + 1) < ((b :: l).length : Int)
    rw [List.length_cons]
    split
    · omega
    · split <;> omega

theorem ib_p : ∀ (A B : List UInt8), (∀ c ∈ A, c ≠ 112) → Lib.indexByte (A ++ 112 :: B) 112 = A.length
  | [], B, _ => by
    show (if (112 : UInt8) == 112 then (0 : Int) else _) = 0
    rw [if_pos (by decide)]
  | a :: A, B, h => by
    have ih := ib_p A B (fun c hc => h c (by simp [hc]))
    have ha : a ≠ 112 := h a (by simp)
    show (if a == 112 then (0 : Int) else if Lib.indexByte (A ++ 112 :: B) 112 == -1 then -1 else Lib.indexByte (A ++ 112 :: B) 112 + 1) = _
    rw [if_neg (by simpa using ha), ih, if_neg (by simp)]
    simp
end Go.Fl
namespace Go.Proofs.YtjamceoofgfokaaDoor
open Go.RowKit Go.Fl

theorem ext_bytes (l : List UInt8) (a b : Nat) : (⟨l.toArray⟩ : ByteArray).extract a b = ⟨((l.take b).drop a).toArray⟩ := by
  apply ByteArray.ext
  simp [List.drop_take]

/-- A call that cuts a text at its first p. -/
def RetCut (l : List UInt8) (w : World) (e : Ending) (w' : World) : Prop :=
  ∃ A B t, e = .returned (.tuple #[.string ⟨A.toArray⟩, .string ⟨B.toArray⟩, .bool t]) ∧ A.length ≤ l.length ∧ B.length ≤ l.length ∧ (∀ A' B', (∀ c ∈ A', c ≠ 112) → l = A' ++ 112 :: B' → A = A' ∧ B = B') ∧ ∃ n, w' = w.drewN n

set_option maxRecDepth 10000 in
set_option maxHeartbeats 1000000 in
theorem cut0_c (l : List UInt8) (hl : l.length ≤ 1048576) (w : World) :
    Calls Tryd.prog 37 #[.string ⟨l.toArray⟩, .string ⟨#[112]⟩] w (RetCut l w) := by
  have IX := Lib.hid (fun w => Tryd.stringslite_Index_one ⟨l.toArray⟩ 112 w)
  have hge := Lib.indexByte_ge l 112
  have hlt := ib_lt l 112
  have hpp := Lib.hid (fun A' B' h1 (h2 : l = A' ++ 112 :: B') => (show Lib.indexByte l 112 = (A'.length : Nat) by rw [h2]; exact ib_p A' B' h1))
  have e0 : (⟨l.toArray⟩ : ByteArray).data.toList = l := rfl
  rw [e0] at IX
  clear e0
  generalize Lib.indexByte l 112 = i at *
  rcases Int.lt_or_le i 0 with hi | hi
  · go_enter Tryd.func37, Tryd.ntmps37
    go_wp2_with fail
    refine (IX.out _).mono ?_
    rintro e _ ⟨rfl, rfl⟩
    have d0 : decide (0 ≤ i) = false := by simp; omega
    go_wp2_with fail
    go_ret3
    exact ⟨l, [], false, rfl, Nat.le_refl _, by simp, fun A' B' h1 h2 => by have := hpp.out A' B' h1 h2; omega, 0, rfl⟩
  · obtain ⟨k, rfl⟩ : ∃ k : Nat, i = k := ⟨i.toNat, by omega⟩
    have hk : k < l.length := by omega
    have hwrap : IntKind.i64.wrap ((k : Int) + 1) = (k : Int) + 1 := by rw [IntKind.wrap_i64]; omega
    go_enter Tryd.func37, Tryd.ntmps37
    go_wp2_with fail
    refine (IX.out _).mono ?_
    rintro e w1 ⟨rfl, hw⟩
    rw [hw]
    go_wp2_with fail
    refine wp_region_rel (fun w' => ∃ m', w' = w.drewN m') [fun v => v = .string ⟨l.toArray⟩, fun v => v = .int .i64 (k : Int), fun v => v = .string ⟨(l.take k).toArray⟩, fun v => v = .string ⟨l.toArray⟩, fun v => v = .int .i64 (k : Int), fun v => v = .string ⟨#[112]⟩, fun v => v = .int .i64 1, fun v => v = .int .i64 ((k : Int) + 1), fun v => v = .string ⟨(l.drop (k + 1)).toArray⟩, fun v => v = .string ⟨(l.take k).toArray⟩, fun v => v = .string ⟨(l.drop (k + 1)).toArray⟩, fun v => v = .bool true] (by kernel_rfl) (by kernel_rfl) ⟨1, rfl⟩ ?_
    refine wpRel_moveK rfl _ (.inl rfl) (rfl) ?_
    rintro K hK _ rfl
    go_simp
    refine hK _ ?_
    clear hK K
    refine wpRel_moveK rfl _ (.inl rfl) (rfl) ?_
    rintro K hK _ rfl
    go_simp
    refine hK _ ?_
    clear hK K
    refine wpRel_opK rfl (by
      rintro _ ⟨m, rfl⟩; unfold relAt; go_simp
      rw [if_pos (by omega)]
      exact ⟨⟨_, rfl⟩, by rw [ext_bytes]; rfl⟩) ?_
    rintro K hK _ rfl
    go_simp
    refine hK _ ?_
    clear hK K
    refine wpRel_moveK rfl _ (.inl rfl) (rfl) ?_
    rintro K hK _ rfl
    go_simp
    refine hK _ ?_
    clear hK K
    refine wpRel_moveK rfl _ (.inl rfl) (rfl) ?_
    rintro K hK _ rfl
    go_simp
    refine hK _ ?_
    clear hK K
    refine wpRel_moveK rfl _ (.inl rfl) (rfl) ?_
    rintro K hK _ rfl
    go_simp
    refine hK _ ?_
    clear hK K
    refine wpRel_opK rfl (by rintro _ ⟨m, rfl⟩; unfold relAt; go_simp; exact ⟨⟨_, rfl⟩, rfl⟩) ?_
    rintro K hK _ rfl
    go_simp
    refine hK _ ?_
    clear hK K
    refine wpRel_opK rfl (by rintro _ ⟨m, rfl⟩; unfold relAt; go_simp; exact ⟨⟨_, rfl⟩, rfl⟩) ?_
    rintro K hK _ rfl
    go_simp
    refine hK _ ?_
    clear hK K
    refine wpRel_opK rfl (by
      rintro _ ⟨m, rfl⟩; unfold relAt; go_simp
      rw [if_pos (by omega)]
      exact ⟨⟨_, rfl⟩, by rw [ext_bytes]; simp [setAt]⟩) ?_
    rintro K hK _ rfl
    go_simp
    refine hK _ ?_
    clear hK K
    refine wpRel_moveK rfl _ (.inr rfl) (rfl) ?_
    rintro K hK _ rfl
    go_simp
    refine hK _ ?_
    clear hK K
    refine wpRel_moveK rfl _ (.inr rfl) (rfl) ?_
    rintro K hK _ rfl
    go_simp
    refine hK _ ?_
    clear hK K
    refine wpRel_moveK rfl _ (.inr rfl) (rfl) ?_
    rintro K hK _ rfl
    go_simp
    refine hK _ ?_
    clear hK K
    refine wpRel_nil ?_
    rintro _ ⟨m', rfl⟩
    go_wp2_with fail
    go_ret3
    exact ⟨l.take k, l.drop (k + 1), true, rfl, by simp; omega, by simp, fun A' B' h1 h2 => by
      have := hpp.out A' B' h1 h2
      obtain rfl : k = A'.length := by omega
      subst h2
      simp, _, rfl⟩

set_option maxRecDepth 10000 in
set_option maxHeartbeats 400000 in
theorem cut_c (l : List UInt8) (hl : l.length ≤ 1048576) (w : World) :
    Calls Tryd.prog 29 #[.string ⟨l.toArray⟩, .string ⟨#[112]⟩] w (RetCut l w) := by
  have C0 := Lib.hid (fun w => cut0_c l hl w)
  clear hl
  go_enter Tryd.func29, Tryd.ntmps29
  go_wp2_with fail
  refine (C0.out _).mono ?_
  rintro e _ ⟨A, B, t, rfl, h1, h2, h3, n, rfl⟩
  have H := Lib.hid (And.intro h1 (And.intro h2 h3))
  clear h1 h2 h3
  go_wp2_with fail
  go_ret3
  exact ⟨A, B, t, rfl, H.out.1, H.out.2.1, H.out.2.2, n, rfl⟩
end Go.Proofs.YtjamceoofgfokaaDoor
