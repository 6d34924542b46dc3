import Derived.Test.YtkfcpnfolgiogaaAny
namespace Go.Proofs.Ytkfcpnfolgiogaa
open Go.RowKit Go.Fl

/-- What the two words of a complex number stand for. -/
abbrev CN := Option Nat × Option Nat

/-- The words x and y stand for z's parts. -/
def FC (z : CN) (x y : Nat) : Prop := FV .f64 z.1 x ∧ FV .f64 z.2 y

/-- A call that gives a complex number that stands for z, and leaves the world as it was, but for draws. -/
def RetC (z : CN) (w : World) (e : Ending) (w' : World) : Prop := ∃ x y, e = .returned (.complex .f64 x y) ∧ FC z x y ∧ ∃ n, w' = w.drewN n

def cmul (z u : CN) : CN := (fop .sub .f64 (fop .mul .f64 z.1 u.1) (fop .mul .f64 z.2 u.2), fop .add .f64 (fop .mul .f64 z.1 u.2) (fop .mul .f64 z.2 u.1))
def cadd (z u : CN) : CN := (fop .add .f64 z.1 u.1, fop .add .f64 z.2 u.2)
def csub (z u : CN) : CN := (fop .sub .f64 z.1 u.1, fop .sub .f64 z.2 u.2)

set_option maxHeartbeats 400000 in
theorem multiplyDouble_c {z u : CN} {a b c d : Nat} (hz : FC z a b) (hu : FC u c d) (w : World) :
    Calls Try.prog 13 #[.complex .f64 a b, .complex .f64 c d] w (RetC (cmul z u) w) := by
  obtain ⟨ha, hb⟩ := hz
  obtain ⟨hc, hd⟩ := hu
  go_enter Try.func13, Try.ntmps13
  go_wp2_with (first | (refine upon_flop _ (by decide) ha hc ?_; intro x1 n1 h1) | (refine upon_flop _ (by decide) hb hd ?_; intro x2 n2 h2) | (refine upon_flop _ (by decide) ha hd ?_; intro x3 n3 h3) | (refine upon_flop _ (by decide) hb hc ?_; intro x4 n4 h4) | (refine upon_flop _ (by decide) h1 h2 ?_; intro x5 n5 h5) | (refine upon_flop _ (by decide) h3 h4 ?_; intro x6 n6 h6))
  go_ret
  exact ⟨_, _, rfl, ⟨h5, h6⟩, _, rfl⟩

set_option maxHeartbeats 400000 in
theorem addDouble_c {z u : CN} {a b c d : Nat} (hz : FC z a b) (hu : FC u c d) (w : World) :
    Calls Try.prog 50 #[.complex .f64 a b, .complex .f64 c d] w (RetC (cadd z u) w) := by
  obtain ⟨ha, hb⟩ := hz
  obtain ⟨hc, hd⟩ := hu
  go_enter Try.func50, Try.ntmps50
  go_wp2_with (first | (refine upon_flop _ (by decide) ha hc ?_; intro x1 n1 h1) | (refine upon_flop _ (by decide) hb hd ?_; intro x2 n2 h2))
  go_ret
  exact ⟨_, _, rfl, ⟨h1, h2⟩, _, rfl⟩

set_option maxHeartbeats 400000 in
theorem l8Same_c {p : Option Nat} {x y : Nat} (hx : FV .f64 p x) (hy : FV .f64 p y) (w : World) :
    Calls Try.prog 49 #[.float .f64 x, .float .f64 y] w (Ret (.bool true) w) := by
  cases p with
  | none =>
    have h1 := order_nan hx x
    have h2 := order_nan hy y
    clear hx hy
    go_enter Try.func49, Try.ntmps49
    go_wp2
    go_ret
    exact Ret.mk0
  | some c =>
    obtain rfl := hx.some_eq
    obtain rfl := hy.some_eq
    have h1 := order_self hx.not_nan.2
    by_cases hz : (FloatKind.f64.format.order c 0 == some .eq) = true
    · have hk := @FV.of_lt .f64 4607182418800017408 (by decide)
      go_enter Try.func49, Try.ntmps49
      go_wp2_with (refine upon_flop _ (.inr (.inr (.inr rfl))) hk hx ?_; intro _ _ _)
      rename_i r1 n1 g1 r2 n2 g2
      have e := same_order g1 g2 0
      go_ret
      refine ⟨?_, _, rfl⟩
      simp [e]
    · have hz' : (FloatKind.f64.format.order c 0 == some .eq) = false := by simpa using hz
      clear hz
      go_enter Try.func49, Try.ntmps49
      go_wp2
      go_ret
      exact Ret.mk0

set_option maxHeartbeats 400000 in
theorem makeSameComplex_c {z : CN} {a b c d : Nat} (hz : FC z a b) (hu : FC z c d) (w : World) :
    Calls Try.prog 22 #[.complex .f64 a b, .complex .f64 c d] w (Ret (.bool true) w) := by
  obtain ⟨ha, hb⟩ := hz
  obtain ⟨hc, hd⟩ := hu
  go_enter Try.func22, Try.ntmps22
  go_wp2_with fail
  refine (l8Same_c ha hc _).mono ?_
  rintro e _ ⟨rfl, n, rfl⟩
  go_wp2_with fail
  refine (l8Same_c hb hd _).mono ?_
  rintro e _ ⟨rfl, m, rfl⟩
  go_wp2_with fail
  go_ret
  exact ⟨rfl, _, rfl⟩

set_option maxHeartbeats 400000 in
theorem at_c {a : Option Addr} {len cap : Nat} (w : World) (h : BsP w a len) (hl : len ≤ 1048576) (i : Nat) (hi : i ≤ 1000) :
    Calls Try.prog 21 #[.slice a len cap, .int .i64 i] w (fun e w' => ∃ r : Nat, e = .returned (.int .i64 r) ∧ r ≤ 255 ∧ w' = w) := by
  have u3 := under3
  by_cases hlt : i < len
  · obtain ⟨b, off, x, rfl, hc, x0, x1, _⟩ := h i hlt
    have d1 : decide ((i : Int) < (len : Int)) = true := by simpa using hlt
    clear h
    go_enter Try.func21, Try.ntmps21
    go_wp2
    go_ret
    refine ⟨x.toNat, ?_, by omega, rfl⟩
    rw [show ((x.toNat : Nat) : Int) = x by omega]
    rfl
  · have d1 : decide ((i : Int) < (len : Int)) = false := by simpa using hlt
    clear h
    go_enter Try.func21, Try.ntmps21
    go_wp2
    go_ret
    refine ⟨((i * 37 + len * 11) % 256), ?_, by omega, rfl⟩
    rfl
end Go.Proofs.Ytkfcpnfolgiogaa
