import Derived.Test.YtfhaopdaakjghaaCur
namespace Go.Proofs.Ytfhaopdaakjghaa
open Go.RowKit Go.Fl

/-- A call that makes a cursor. -/
def MakesCur (a : Option Addr) (len cap : Nat) (w : World) (e : Ending) (w' : World) : Prop := e = .returned (.pointer (some ⟨w.heap.size, 0, none⟩)) ∧ CurP w' w.heap.size a len cap ∧ Below w.heap.size w w'

theorem BsP.alloc {w : World} {a : Option Addr} {len : Nat} (h : BsP w a len) (o : Obj) : BsP (w.alloc o) a len := fun i hi => by
  obtain ⟨b, off, x, h1, h2, h3, h4, h5⟩ := h i hi
  have hb : Below w.heap.size w (w.alloc o) := (Below.refl _ _).alloc (Nat.le_refl _) o
  exact ⟨b, off, x, h1, by rw [hb.cell (p := ⟨b, off + i, none⟩) h5]; exact h2, h3, h4, Nat.lt_of_lt_of_le h5 hb.size⟩

theorem BsP.below {w w' : World} {a : Option Addr} {len : Nat} (h : BsP w a len) (hb : Below w.heap.size w w') : BsP w' a len := fun i hi => by
  obtain ⟨b, off, x, h1, h2, h3, h4, h5⟩ := h i hi
  exact ⟨b, off, x, h1, by rw [hb.cell (p := ⟨b, off + i, none⟩) h5]; exact h2, h3, h4, Nat.lt_of_lt_of_le h5 hb.size⟩

set_option maxHeartbeats 1000000 in
theorem l01New_c {a : Option Addr} {len cap : Nat} (w : World) (h : BsP w a len) (hl : len ≤ 1048576) :
    Calls Try.prog 12 #[.slice a len cap] w (MakesCur a len cap w) := by
  have u8 := under8
  have H := Lib.hid h
  go_enter Try.func12, Try.ntmps12
  go_wp2
  go_loopw [3, 4] (fun s i wr => ∃ (k : Nat) (x : Int), k ≤ len ∧ i = .int .i64 k ∧ s = .int .i64 x ∧ wr = w) (fun _ i _ => len - (intOf i).toNat)
  case atStart => exact ⟨0, 3222 + (len : Int), Nat.zero_le _, rfl, rfl, by first | rfl | exact True.intro⟩
  case round =>
    obtain ⟨k, x, hk, rfl, rfl, rfl⟩ := hrel
    have fin : ∀ w' : World, w' = wr.alloc (.cells #[.slice a len cap, .int .i64 0, .int .i64 x] 50) → CurP w' wr.heap.size a len cap ∧ Below wr.heap.size wr w' := fun w' e => by
      subst e
      refine ⟨⟨0, x, heap_alloc_new _ _, by omega, by omega, H.out.alloc _, hl, fun i hi y hy => ?_⟩, (Below.refl _ _).alloc (Nat.le_refl _) _⟩
      obtain ⟨b, off, z, e1, _, _, _, l1⟩ := H.out i hi
      rw [e1] at hy
      cases hy
      show b ≠ _
      omega
    have FIN := Lib.hid fin
    clear fin
    by_cases hlt : k < len
    · obtain ⟨b, off, y, rfl, hc, y0, y1, _⟩ := h k hlt
      have d1 : decide ((k : Int) < (len : Int)) = true := by simpa using hlt
      clear h
      by_cases h4 : k < 4000
      · have d2 : decide ((k : Int) < 4000) = true := by simp; omega
        go_wp2
        exact ⟨⟨k + 1, _, by omega, by go_num, rfl, by first | rfl | exact True.intro⟩, by simp [intOf]; omega⟩
      · have d2 : decide ((k : Int) < 4000) = false := by simp; omega
        go_wp2
        go_ret
        exact ⟨rfl, FIN.out _ rfl⟩
    · have d1 : decide ((k : Int) < (len : Int)) = false := by simpa using hlt
      clear h
      go_wp2
      go_ret
      exact ⟨rfl, FIN.out _ rfl⟩

/-- A call that draws a bool. -/
def DrawsBool (b : Nat) (a : Option Addr) (len cap : Nat) (w : World) (e : Ending) (w' : World) : Prop := ∃ t : Bool, e = .returned (.bool t) ∧ Drawn b a len cap w w'

set_option maxHeartbeats 400000 in
theorem l01Once_c {b : Nat} {a : Option Addr} {len cap : Nat} (n : Int) (hn : 1 ≤ n) (hn2 : n ≤ 4294967295) (w : World) (h : CurP w b a len cap) :
    Calls Try.prog 30 #[.pointer (some ⟨b, 0, none⟩), .int .i64 n] w (DrawsBool b a len cap w) := by
  have H := Lib.hid h
  clear h
  go_enter Try.func30, Try.ntmps30
  go_wp2_with fail
  refine (l01Below_c n hn hn2 _ H.out).mono ?_
  rintro e w1 ⟨r, rfl, r0, r1, d1⟩
  have D1 := Lib.hid d1
  clear d1
  go_wp2_with fail
  go_ret
  exact ⟨_, rfl, D1.out⟩

/-- A call that draws a float64. -/
def DrawsF (b : Nat) (a : Option Addr) (len cap : Nat) (w : World) (e : Ending) (w' : World) : Prop := ∃ r p, e = .returned (.float .f64 r) ∧ FV .f64 p r ∧ Drawn b a len cap w w'

set_option maxHeartbeats 2000000 in
theorem l1Odd_c {b : Nat} {a : Option Addr} {len cap : Nat} (w : World) (h : CurP w b a len cap) :
    Calls Try.prog 49 #[.pointer (some ⟨b, 0, none⟩)] w (DrawsF b a len cap w) := by
  have H := Lib.hid h
  clear h
  have hneg : ∀ (w : World) (c : Nat), (Op.unary .neg (.float .f64 c)).run Try.prog w = .ok (.float .f64 (Op.negFloat .f64 c)) w := fun _ _ => rfl
  go_enter Try.func49, Try.ntmps49
  go_wp2_with fail
  refine (l01Below_c 12 (by decide) (by decide) _ H.out).mono ?_
  rintro e w1 ⟨r, rfl, r0, r1, d1⟩
  have D1 := Lib.hid d1
  clear d1
  go_wp2_with (refine upon_flop _ (by decide) (FV.of_lt (by decide)) (FV.of_lt (by decide)) ?_; intro x m hx)
  all_goals
    go_ret
    first
      | exact ⟨_, _, rfl, hx, D1.out.drewN _⟩
      | exact ⟨_, _, rfl, FV.of_lt (by decide), D1.out⟩
end Go.Proofs.Ytfhaopdaakjghaa
