import Derived.Test.YtjamceoofgfokaaDoorParS
import Derived.Test.YtjamceoofgfokaaDoorOpenC
namespace Go.Proofs.YtjamceoofgfokaaDoor
open Go.ChangeShapes Go.WideShapes Go.ChangeAt Go.RowKit Go.Fl

set_option maxHeartbeats 400000 in
theorem sameFloat_c {p : Option Nat} {x y : Nat} (hx : FV .f64 p x) (hy : FV .f64 p y) (w : World) :
    Calls Tryd.prog 13 #[.float .f64 x, .float .f64 y] w (Ret (.bool true) w) := by
  cases p with
  | none =>
    have h1 := order_nan hx x
    have h2 := order_nan hy y
    clear hx hy
    go_enter Tryd.func13, Tryd.ntmps13
    go_wp2
    go_ret
    exact Ret.mk0
  | some c =>
    obtain rfl := hx.some_eq
    obtain rfl := hy.some_eq
    have h1 := order_self hx.not_nan.2
    by_cases hz : (FloatKind.f64.format.order c 0 == some .eq) = true
    · have hk := @FV.of_lt .f64 4607182418800017408 (by decide)
      go_enter Tryd.func13, Tryd.ntmps13
      go_wp2_with (refine upon_flop _ (.inr (.inr (.inr rfl))) hk hx ?_; intro _ _ _)
      rename_i r1 n1 g1 r2 n2 g2
      have e := same_order g1 g2 0
      go_ret
      refine ⟨?_, _, rfl⟩
      simp [e]
    · have hz' : (FloatKind.f64.format.order c 0 == some .eq) = false := by simpa using hz
      clear hz
      go_enter Tryd.func13, Tryd.ntmps13
      go_wp2
      go_ret
      exact Ret.mk0

theorem starE : "*" ++ "errors.errorString" = "*errors.errorString" := by decide
theorem rowE (u : TypeId) (h : Tryd.prog.typeName? 3 u = some "*errors.errorString") : u = 98 :=
  typeName_ptr_named (nm := "errors.errorString") (by rw [starE]; kernel_rfl) (by kernel_rfl) (by decide) u (by rw [starE]; exact h)

set_option maxRecDepth 100000 in
/-- What the rows' condition gives the walks. -/
theorem laid_of_laid {W : World} {a : String × DataW Unit} {rest : List (String × DataW Unit)} (h : laidMet Tryd.prog (a :: ("math/bits.deBruijn64tab", Rows.laid_math_bits_deBruijn64tab) :: ("internal/strconv.uint64pow10", Rows.laid_internal_strconv_uint64pow10) :: ("strconv.ErrRange", Rows.laid_strconv_ErrRange) :: ("strconv.ErrSyntax", Rows.laid_strconv_ErrSyntax) :: rest) W) : Laid W := by
  obtain ⟨a0, s0, hv0, -, -, -⟩ := laid_sentinel (tp := 98) (te := 100) (ts := 9) (g := 5) (ti := 58) h.tail.tail.tail gRan (by kernel_rfl) Tryd.underlying58 rowE Tryd.underlying98 Tryd.underlying100 rfl rfl Tryd.underlying9 (by kernel_rfl) (by kernel_rfl)
  obtain ⟨a1, s1, hv1, -, -, -⟩ := laid_sentinel (tp := 98) (te := 100) (ts := 9) (g := 4) (ti := 58) h.tail.tail.tail.tail gSyn (by kernel_rfl) Tryd.underlying58 rowE Tryd.underlying98 Tryd.underlying100 rfl rfl Tryd.underlying9 (by kernel_rfl) (by kernel_rfl)
  exact ⟨tabs_of_laid h, ⟨_, _, hv1⟩, ⟨_, _, hv0⟩⟩

/-- Two readings of one text are one. -/
theorem RetP.agree {l : List UInt8} {x y : Nat} {s t : Bool} (h1 : s = true → Fmt x l) (h2 : s = false → x = 0 ∧ ¬ IsFmt l) (k1 : t = true → Fmt y l) (k2 : t = false → y = 0 ∧ ¬ IsFmt l) : s = t ∧ x = y ∧ x < 2 ^ 64 := by
  cases s <;> cases t
  · exact ⟨rfl, by rw [(h2 rfl).1, (k2 rfl).1], by rw [(h2 rfl).1]; decide⟩
  · exact absurd ⟨_, k1 rfl⟩ (h2 rfl).2
  · exact absurd ⟨_, h1 rfl⟩ (k2 rfl).2
  · exact ⟨rfl, (h1 rfl).inj (k1 rfl), (h1 rfl).1⟩
end Go.Proofs.YtjamceoofgfokaaDoor
