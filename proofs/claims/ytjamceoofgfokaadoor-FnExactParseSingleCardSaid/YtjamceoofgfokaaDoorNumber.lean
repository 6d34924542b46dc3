import Derived.Test.YtjamceoofgfokaaDoorCut
import Derived.Test.YtjamceoofgfokaaDoorLdexp
namespace Go.Proofs.YtjamceoofgfokaaDoor
open Go.RowKit Go.Fl

/-- What lies of the library's variables. -/
def Laid (w : World) : Prop := Tabs w ∧ (∃ tp p, w.var? Tryd.prog "strconv.ErrSyntax" = some #[.iface tp p]) ∧ (∃ tp p, w.var? Tryd.prog "strconv.ErrRange" = some #[.iface tp p])
theorem gSyn : Tryd.prog.globalNamed "strconv.ErrSyntax" = some 4 := by kernel_rfl
theorem gRan : Tryd.prog.globalNamed "strconv.ErrRange" = some 5 := by kernel_rfl
theorem Laid.below {w w' : World} (h : Laid w) (hb : Below w.heap.size w w') : Laid w' := by
  obtain ⟨t, ⟨tp, p, h1⟩, ⟨tp2, p2, h2⟩⟩ := h
  exact ⟨t.below hb, ⟨tp, p, Go.Joins.var_stays gSyn h1 hb (Nat.le_refl _)⟩, ⟨tp2, p2, Go.Joins.var_stays gRan h2 hb (Nat.le_refl _)⟩⟩

/-- A call that reads a numeral. -/
def RetNum (l : List UInt8) (w : World) (e : Ending) (w' : World) : Prop :=
  ∃ n t, e = .returned (.tuple #[.int .i64 n, .bool t]) ∧ (t = true → l = Lib.itoa n ∧ -9223372036854775808 ≤ n ∧ n ≤ 9223372036854775807) ∧
    (∀ n', -9223372036854775808 ≤ n' → n' ≤ 9223372036854775807 → l = Lib.itoa n' → n = n' ∧ t = true) ∧ Below w.heap.size w w'

set_option maxRecDepth 10000 in
set_option maxHeartbeats 1000000 in
theorem number_c {l : List UInt8} (hl : l.length ≤ 1048576) (w : World) (hL : Laid w) :
    Calls Tryd.prog 30 #[.string ⟨l.toArray⟩] w (RetNum l w) := by
  have e0 : (⟨l.toArray⟩ : ByteArray).data.toList = l := rfl
  have hsz : (⟨l.toArray⟩ : ByteArray).size = l.length := rfl
  have T0 := Lib.hid hL
  cases h : Lib.atoiAll l with
  | ok v =>
    have hb := Lib.atoiAll_bounds h
    have A0 := Lib.hid (fun w => Tryd.strconv_Atoi_ok ⟨l.toArray⟩ (by rw [hsz]; omega) v (by rw [e0]; exact h) w)
    have IT : ∀ w', Below w.heap.size w w' → Calls Tryd.prog 23 #[.int .i64 v] w' (RetS (Lib.itoa v) w') := fun w' hbl => (Tryd.strconv_Itoa v (by omega) (by omega) w' (T0.out.below hbl).1.2.1).mono fun e w2 ⟨he, k, os, hw⟩ => ⟨he, by subst hw; exact Lib.below_grow _ _ (Nat.le_refl _) _ _⟩
    have I0 := Lib.hid IT
    have FIN : ∀ w', Below w.heap.size w w' → RetNum l w (.returned (.tuple #[.int .i64 v, .bool (Lib.itoa v == l)])) w' := fun w' hbl => ⟨v, _, rfl, fun ht => ⟨(by simpa using ht : Lib.itoa v = l).symm, by omega, by omega⟩, fun n' a1 a2 hn => by
      have := atoi_itoa a1 a2
      rw [← hn, h] at this
      injection this with this
      subst this
      exact ⟨rfl, by rw [hn]; simp⟩, hbl⟩
    have F0 := Lib.hid FIN
    clear IT FIN h hL
    go_enter Tryd.func30, Tryd.ntmps30
    go_wp2_with fail
    refine (A0.out _).mono ?_
    rintro e w1 ⟨rfl, hw⟩
    have B1 : Below w.heap.size w w1 := by
      rcases hw with rfl | ⟨t, rfl⟩
      · exact Below.refl _ _
      · exact Lib.bytesWorld_below _ _ _
    clear hw
    go_wp2_with fail
    refine (I0.out _ B1).mono ?_
    rintro e w2 ⟨rfl, b2⟩
    have B2 := B1.trans (b2.mono B1.size)
    clear b2
    go_wp2_with fail
    go_ret2
    exact F0.out _ B2
  | range =>
    have FIN : ∀ n w', Below w.heap.size w w' → RetNum l w (.returned (.tuple #[.int .i64 n, .bool false])) w' := fun n w' hbl => ⟨n, false, rfl, fun ht => (by cases ht), (fun n' a1 a2 hn => by
      have := atoi_itoa a1 a2
      rw [← hn, h] at this
      cases this), hbl⟩
    have F0 := Lib.hid FIN
    obtain ⟨-, ⟨tp, p, hv⟩, ⟨tp2, p2, hv2⟩⟩ := hL
    have A0 := Lib.hid (Any.strconv_Atoi_range_var Tryd.laysC172 ⟨l.toArray⟩ (by rw [hsz]; omega) (by rw [e0]; exact h) tp2 p2 w hv2)
    clear FIN h hv hv2
    go_enter Tryd.func30, Tryd.ntmps30
    go_wp2_with fail
    refine A0.out.mono ?_
    rintro e w1 ⟨N, rfl, -, -, b1⟩
    go_wp2_with fail
    go_ret2
    exact F0.out _ _ b1
  | _ =>
    have FIN : ∀ n w', Below w.heap.size w w' → RetNum l w (.returned (.tuple #[.int .i64 n, .bool false])) w' := fun n w' hbl => ⟨n, false, rfl, fun ht => (by cases ht), (fun n' a1 a2 hn => by
      have := atoi_itoa a1 a2
      rw [← hn, h] at this
      cases this), hbl⟩
    have F0 := Lib.hid FIN
    obtain ⟨-, ⟨tp, p, hv⟩, ⟨tp2, p2, hv2⟩⟩ := hL
    have A0 := Lib.hid (Any.strconv_Atoi_syntax_var Tryd.laysC172 ⟨l.toArray⟩ (by rw [hsz]; omega) (by rw [e0]; exact h) tp p w hv)
    clear FIN h hv hv2
    go_enter Tryd.func30, Tryd.ntmps30
    go_wp2_with fail
    refine A0.out.mono ?_
    rintro e w1 ⟨N, rfl, -, -, b1⟩
    go_wp2_with fail
    go_ret2
    exact F0.out _ _ b1
end Go.Proofs.YtjamceoofgfokaaDoor
