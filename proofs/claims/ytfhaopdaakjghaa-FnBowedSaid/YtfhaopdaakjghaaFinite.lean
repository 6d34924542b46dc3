import Derived.Test.YtfhaopdaakjghaaMathAbs
namespace Go.Fl
open Go
/-- Neither a NaN nor an infinity. -/
def isFin (k : FloatKind) (p : Option Nat) : Bool := match p with
  | none => false
  | some b => decide (rg k.format b < k.format.infRung)

theorem sub_self_fin {k : FloatKind} {b : Nat} (h : rg k.format b < k.format.infRung) : ∃ z, fop .sub k (some b) (some b) = some z ∧ k.format.order z 0 = some .eq := by
  obtain ⟨m, e, hr, _⟩ := read_fin k.format h
  have hsum : (k.format.read b).sum (k.format.read b).opposite = some (.number (sg k.format b && !sg k.format b) 0 (k.format.leastPlace + e)) := by
    rw [hr]
    simp only [Ieee.Datum.opposite, Ieee.Datum.sum]
    have h0 : ∀ x : Nat, Ieee.signed (sg k.format b) m x + Ieee.signed (!sg k.format b) m x = 0 := fun x => by
      rw [signed_iv, signed_iv]
      cases sg k.format b <;> simp <;> omega
    have hmin : min (k.format.leastPlace + (e : Int)) (k.format.leastPlace + (e : Int)) = k.format.leastPlace + (e : Int) := by omega
    rw [hmin, h0]
    simp
  refine ⟨k.format.nearest (sg k.format b && !sg k.format b) 0 (k.format.leastPlace + e), ?_, ?_⟩
  · show floatBits .sub k b b = _
    unfold floatBits Ieee.Format.sub
    rw [hsum]
    rfl
  · have hz : k.format.nearest (sg k.format b && !sg k.format b) 0 (k.format.leastPlace + e) = 0 := by
      unfold Ieee.Format.nearest
      rw [if_pos rfl]
      cases sg k.format b <;> rfl
    rw [hz]
    exact order_self (zero_not_nan k)

theorem sub_self_inf {k : FloatKind} {b : Nat} (h : rg k.format b = k.format.infRung) : fop .sub k (some b) (some b) = none := by
  show floatBits .sub k b b = _
  unfold floatBits Ieee.Format.sub
  rw [read_inf _ (okf k) h]
  simp only [Ieee.Datum.opposite, Ieee.Datum.sum]
  cases sg k.format b <;> rfl
end Go.Fl
namespace Go.Proofs.Ytfhaopdaakjghaa
open Go.RowKit Go.Fl

theorem gt_max {c : Nat} (hn : (FloatKind.f64.decode c).isNaN = false) : (FloatKind.f64.format.order (rg FloatKind.f64.format c) 9218868437227405311 == some .gt) = !isFin .f64 (some c) := by
  have h1 : (FloatKind.f64.decode (rg FloatKind.f64.format c)).isNaN = false := by
    cases h : (FloatKind.f64.decode (rg FloatKind.f64.format c)).isNaN
    · rfl
    · have := nan_iff.1 h
      rw [rg_rg] at this
      rw [nan_iff.2 this] at hn
      cases hn
  rw [gt_iv h1 (by rfl)]
  have hI : FloatKind.f64.format.infRung = 9218868437227405312 := by decide
  have hM : rg FloatKind.f64.format 9218868437227405311 = 9218868437227405311 := by decide
  have e1 : iv FloatKind.f64.format 9218868437227405311 = (V FloatKind.f64.format 9218868437227405311 : Nat) := by
    unfold iv
    rw [hM, show sg FloatKind.f64.format 9218868437227405311 = false by decide]
    rfl
  have e2 : iv FloatKind.f64.format (rg FloatKind.f64.format c) = (V FloatKind.f64.format (rg FloatKind.f64.format c) : Nat) := by
    unfold iv
    rw [rg_rg, sg_rg]
    rfl
  rw [e1, e2]
  unfold isFin
  rw [hI]
  by_cases h : rg FloatKind.f64.format c < 9218868437227405312
  · have h2 := V_le FloatKind.f64.format (r := rg FloatKind.f64.format c) (s := 9218868437227405311) (by omega)
    simp [h]
    omega
  · have h2 := V_lt FloatKind.f64.format (r := 9218868437227405311) (s := rg FloatKind.f64.format c) (by omega)
    simp [h]
    omega

set_option maxHeartbeats 400000 in
theorem finite_c {p : Option Nat} {x : Nat} (hx : FV .f64 p x) (w : World) : Calls Try.prog 52 #[.float .f64 x] w (Ret (.bool (isFin .f64 p)) w) := by
  cases p with
  | none =>
    have h1 := order_nan hx x
    go_enter Try.func52, Try.ntmps52
    go_wp2
    go_ret
    exact Ret.mk0
  | some c =>
    obtain ⟨rfl, hn⟩ := hx.not_nan
    have h1 := order_self hn
    have hg := Lib.hid (gt_max hn)
    clear hn
    generalize hfin : isFin .f64 (some c) = t at *
    clear hfin
    go_enter Try.func52, Try.ntmps52
    go_wp2_with (first | (go_at_call 57; go_in) | (go_at_call 58; go_in))
    refine (mathAbs_c hx _).mono ?_
    rintro e _ ⟨r, rfl, hr, n, rfl⟩
    obtain rfl := FV.some_eq (k := .f64) hr
    have hg2 : (FloatKind.f64.format.order (rg FloatKind.f64.format c) 9218868437227405311 == some .gt) = !t := hg.out
    go_wp2_with fail
    go_ret
    exact ⟨by cases t <;> rfl, n, rfl⟩

set_option maxHeartbeats 400000 in
theorem l1Finite_c {p : Option Nat} {x : Nat} (hx : FV .f64 p x) (w : World) : Calls Try.prog 51 #[.float .f64 x] w (Ret (.bool (isFin .f64 p)) w) := by
  have key : ∀ r, FV .f64 (fop .sub .f64 p p) r → (FloatKind.f64.format.order r 0 == some .eq) = isFin .f64 p := fun r hr => by
    cases p with
    | none => rw [order_nan_left (FV.nan (k := .f64) hr)]; rfl
    | some c =>
      obtain ⟨rfl, hn⟩ := hx.not_nan
      rcases Nat.lt_or_eq_of_le (rg_le_of_not_nan hn) with h | h
      · obtain ⟨z, hz, ho⟩ := sub_self_fin h
        rw [hz] at hr
        obtain rfl := hr.some_eq
        rw [ho]
        simp [isFin, h]
      · rw [sub_self_inf h] at hr
        rw [order_nan_left hr.nan]
        simp [isFin, h]
  have key := Lib.hid key
  go_enter Try.func51, Try.ntmps51
  go_wp2_with (refine upon_flop _ (by decide) hx hx ?_; intro r n hr)
  go_ret
  exact ⟨by rw [← key.out r hr]; rfl, n, rfl⟩
end Go.Proofs.Ytfhaopdaakjghaa
