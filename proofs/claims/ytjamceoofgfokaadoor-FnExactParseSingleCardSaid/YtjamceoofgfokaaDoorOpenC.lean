import Derived.Test.YtjamceoofgfokaaDoorFmtI
import Derived.Test.YtjamceoofgfokaaDoorTie
import Derived.Test.YtjamceoofgfokaaDoorCards
import Derived.ProofKit
import Derived.LaidMore
import Derived.OpenShut
import Derived.ShutString
import Derived.ChangeOld
import Derived.Stop.Joined
import Derived.SevenTiedAt
import Derived.Stop.LaidErr
namespace Go.Proofs.YtjamceoofgfokaaDoor
open Go.ChangeShapes Go.WideShapes Go.ChangeAt Go.RowKit Go.Fl

theorem own : ownKnob Tryd.prog.godebug = none := by kernel_rfl
theorem laidOut : laidOutB Tryd.prog = true := by kernel_rfl

theorem lt_of_wf {k : FloatKind} {b : Nat} (h : (Lit.float k b).wf = true) : b < 2 ^ k.format.width := by
  cases k
  · show b < 2 ^ 32
    simpa [Lit.wf] using h
  · show b < 2 ^ 64
    simpa [Lit.wf] using h

/-- The law's walk: true, and what was there is as it was. -/
def LawEnds (w : World) (e : Ending) (w' : World) : Prop := e = .returned (.bool true) ∧ Below w.heap.size w w'

theorem gBruijn : Tryd.prog.globalNamed "math/bits.deBruijn64tab" = some 1 := by kernel_rfl
theorem laid64 : (Rows.laid_math_bits_deBruijn64tab : DataW Unit) = Lib.tabData .u8 (Lib.deBruijn64tab.map Int.ofNat) := by kernel_rfl
theorem laidPow : (Rows.laid_internal_strconv_uint64pow10 : DataW Unit) = Lib.tabData .u64 Lib.pow10Tab := by kernel_rfl

/-- What the rows' condition gives the walks. -/
theorem tabs_of_laid {W : World} {a : String × DataW Unit} {rest : List (String × DataW Unit)} (h : laidMet Tryd.prog (a :: ("math/bits.deBruijn64tab", Rows.laid_math_bits_deBruijn64tab) :: ("internal/strconv.uint64pow10", Rows.laid_internal_strconv_uint64pow10) :: rest) W) : Tabs W := by
  have h1 := h.tail
  have h2 := h1.tail
  rw [laid64] at h1
  rw [laidPow] at h2
  have k1 := Lib.tabIs_of_head (g := 1) gBruijn (by kernel_rfl) (t := 56) (e := 5) (n := 64) (by kernel_rfl) (by kernel_rfl) (by kernel_rfl) (by kernel_rfl) h1
  have k2 := Lib.tabIs_of_head (g := 3) gPow (by kernel_rfl) (t := 82) (e := 38) (n := 20) (by kernel_rfl) (by kernel_rfl) (by kernel_rfl) (by kernel_rfl) h2
  refine ⟨fun j hj => ?_, k2, ?_⟩
  · have := k1.cell gBruijn j (by simpa using hj)
    rw [this]
    simp [List.getD, hj]
  · have := k1.cell gBruijn 0 (by decide)
    unfold World.cell? at this
    rcases Nat.lt_or_ge 1 W.heap.size with h | h
    · exact h
    · rw [Array.getElem?_eq_none h] at this
      cases this
end Go.Proofs.YtjamceoofgfokaaDoor
