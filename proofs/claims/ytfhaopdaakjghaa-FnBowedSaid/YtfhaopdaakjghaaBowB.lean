import Derived.Test.YtfhaopdaakjghaaBowC
namespace Go.Proofs.Ytfhaopdaakjghaa
open Go.RowKit Go.Fl

set_option maxRecDepth 10000 in
set_option maxHeartbeats 1000000 in
theorem count12_c (w : World) : Calls Try.prog 17 #[.int .i64 12] w fun e w' => e = .returned (.bool true) ∧ w' = w := by
  go_enter Try.func17, Try.ntmps17
  go_wp2_with fail
  go_ret
  exact ⟨rfl, rfl⟩

/-- What BowBody gives. -/
def RetBowB (P : Option Nat) (w : World) (e : Ending) (w' : World) : Prop :=
  ∃ (v : Value) (l : List Nat), e = .returned (.tuple #[v, .bool true]) ∧ l.length = 12 ∧ (∀ x ∈ l, x < 2 ^ 32) ∧ (∃ r, l[10]? = some r ∧ FV .f32 P r) ∧ w'.ownsRow w.heap.size 25 1 v 12 (fvals .f32 l) ∧ Below w.heap.size w w'
/-- What CountStuck gives. -/
def RetStuck (P : Option Nat) (w : World) (e : Ending) (w' : World) : Prop :=
  ∃ (n : Nat), e = .returned (.tuple #[.int .i64 n, .bool true]) ∧ (isFin .f32 P = true → n = 12) ∧ Below w.heap.size w w'

set_option maxRecDepth 10000 in
set_option maxHeartbeats 2000000 in
theorem bowBody_c {ma : Option Addr} {mc bow : Nat} {xs : List MW} (w : World) (hm : MsP w ma xs) (hw : ∀ x ∈ xs, wfX x) (hk : okL xs = true) (hl : xs.length ≤ 3) (hb : Bd 1 3 bow) :
    Calls Try.prog 9 #[.agg #[.slice ma xs.length mc], .float .f32 bow, .float .f32 2139095039, .int .i64 12] w (RetBowB (lastC xs bow 11) w) := by
  have hlim : ∀ m ∈ xs, MLim m := fun m h => by
    unfold okL at hk
    simp only [Bool.and_eq_true] at hk
    exact MLim.of (hw m h) (List.all_eq_true.1 hk.1 m h)
  have L0 := Lib.hid (fun w' hb => isBodyImpl_c (cap := mc) w' (hm.below hb) hw (by omega))
  rw [hk] at L0
  have L1 := Lib.hid (fun w' hb2 => bowing_c (mc := mc) w' (hm.below hb2) hw hlim hl hb)
  clear hm hw hk hlim
  generalize lastC xs bow 11 = P at *
  go_enter Try.func9, Try.ntmps9
  go_upto_region 1 with fail
  have B0 : Below w.heap.size w (w.alloc (.cells #[.slice ma xs.length mc] 30)) := (Below.refl _ _).alloc (Nat.le_refl _) _
  have P0 := heap_alloc_new w (.cells #[.slice ma xs.length mc] 30)
  have hs0 : w.heap.size < (w.alloc (.cells #[.slice ma xs.length mc] 30)).heap.size := by rw [World.size_alloc]; omega
  generalize w.alloc (.cells #[.slice ma xs.length mc] 30) = W0 at *
  have cP := cur_cell P0 0
  simp at cP
  go_wp2_with fail
  refine (L0.out _ B0).mono ?_
  rintro e W1 ⟨rfl, b0⟩
  have B1 := B0.trans (b0.mono (by omega))
  have P1 := (b0.block _ hs0).trans P0
  clear B0 P0 hs0 b0 cP L0
  have cP := cur_cell P1 0
  simp at cP
  go_wp2_with fail
  refine (count12_c _).mono ?_
  rintro e W2 ⟨rfl, e2⟩
  rw [← e2] at B1 cP
  clear e2 P1
  go_wp2_with fail
  refine (L1.out _ B1).mono ?_
  rintro e W3 ⟨v, l, n, rfl, hll, hlt, h10, hfin, hown, b3⟩
  have B3 := B1.trans (b3.mono B1.size)
  have O3 := owns_le hown B1.size
  clear hown b3
  go_wp2_with fail
  go_ret2
  exact ⟨v, l, rfl, hll, hlt, h10, O3, B3⟩

set_option maxRecDepth 10000 in
set_option maxHeartbeats 2000000 in
theorem countStuck_c {ma : Option Addr} {mc bow : Nat} {xs : List MW} (w : World) (hm : MsP w ma xs) (hw : ∀ x ∈ xs, wfX x) (hk : okL xs = true) (hl : xs.length ≤ 3) (hb : Bd 1 3 bow) :
    Calls Try.prog 10 #[.agg #[.slice ma xs.length mc], .float .f32 bow, .float .f32 2139095039, .int .i64 12] w (RetStuck (lastC xs bow 11) w) := by
  have hlim : ∀ m ∈ xs, MLim m := fun m h => by
    unfold okL at hk
    simp only [Bool.and_eq_true] at hk
    exact MLim.of (hw m h) (List.all_eq_true.1 hk.1 m h)
  have L0 := Lib.hid (fun w' hb => isBodyImpl_c (cap := mc) w' (hm.below hb) hw (by omega))
  rw [hk] at L0
  have L1 := Lib.hid (fun w' hb2 => bowing_c (mc := mc) w' (hm.below hb2) hw hlim hl hb)
  clear hm hw hk hlim
  generalize lastC xs bow 11 = P at *
  go_enter Try.func10, Try.ntmps10
  go_upto_region 1 with fail
  have B0 : Below w.heap.size w (w.alloc (.cells #[.slice ma xs.length mc] 30)) := (Below.refl _ _).alloc (Nat.le_refl _) _
  have P0 := heap_alloc_new w (.cells #[.slice ma xs.length mc] 30)
  have hs0 : w.heap.size < (w.alloc (.cells #[.slice ma xs.length mc] 30)).heap.size := by rw [World.size_alloc]; omega
  generalize w.alloc (.cells #[.slice ma xs.length mc] 30) = W0 at *
  have cP := cur_cell P0 0
  simp at cP
  go_wp2_with fail
  refine (L0.out _ B0).mono ?_
  rintro e W1 ⟨rfl, b0⟩
  have B1 := B0.trans (b0.mono (by omega))
  have P1 := (b0.block _ hs0).trans P0
  clear B0 P0 hs0 b0 cP L0
  have cP := cur_cell P1 0
  simp at cP
  go_wp2_with fail
  refine (count12_c _).mono ?_
  rintro e W2 ⟨rfl, e2⟩
  rw [← e2] at B1 cP
  clear e2 P1
  go_wp2_with fail
  refine (L1.out _ B1).mono ?_
  rintro e W3 ⟨v, l, n, rfl, hll, hlt, h10, hfin, hown, b3⟩
  have B3 := B1.trans (b3.mono B1.size)
  clear hown b3
  go_wp2_with fail
  go_ret2
  exact ⟨n, rfl, hfin, B3⟩
end Go.Proofs.Ytfhaopdaakjghaa
