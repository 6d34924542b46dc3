import Derived.Test.YtfhaopdaakjghaaRnd4
namespace Go.Proofs.Ytfhaopdaakjghaa
open Go.RowKit Go.Fl

/-- A float64 as a float32. -/
def nw (x : Nat) : Nat := FloatKind.f32.encode (FloatKind.f64.decode x)

theorem conv_wd {x : Nat} (h : fin .f32 x) : floatToFloatBits .f32 x .f64 = some (wd x) := by
  obtain ⟨m, e, h1, _⟩ := read_fin Ieee.single h
  have hd : FloatKind.f32.decode x = .number (sg Ieee.single x) m (Ieee.single.leastPlace + e) := h1
  have hw : FloatKind.f64.encode (.number (sg Ieee.single x) m (Ieee.single.leastPlace + e)) = wd x := by unfold wd; rw [hd]
  have hi : (FloatKind.f64.decode (wd x)).isInfinity = false := by
    obtain ⟨m', e', g1, _⟩ := read_fin Ieee.double (wd_facts h).1
    have : FloatKind.f64.decode (wd x) = Ieee.double.read (wd x) := rfl
    rw [this, g1]; rfl
  unfold floatToFloatBits
  rw [if_neg (by decide), hd]
  simp only [hw, hi]
  rfl

theorem conv_nw {x : Nat} (h : fin .f64 x) (hn : fin .f32 (nw x)) : floatToFloatBits .f64 x .f32 = some (nw x) := by
  obtain ⟨m, e, h1, _⟩ := read_fin Ieee.double h
  have hd : FloatKind.f64.decode x = .number (sg Ieee.double x) m (Ieee.double.leastPlace + e) := h1
  have hw : FloatKind.f32.encode (.number (sg Ieee.double x) m (Ieee.double.leastPlace + e)) = nw x := by unfold nw; rw [hd]
  have hi : (FloatKind.f32.decode (nw x)).isInfinity = false := by
    obtain ⟨m', e', g1, _⟩ := read_fin Ieee.single hn
    have : FloatKind.f32.decode (nw x) = Ieee.single.read (nw x) := rfl
    rw [this, g1]; rfl
  unfold floatToFloatBits
  rw [if_neg (by decide), hd]
  simp only [hw, hi]
  rfl

theorem under35s : (Try.prog.underlying 25).isSome = true := by kernel_rfl
theorem under50s : (Try.prog.underlying 71).isSome = true := by kernel_rfl
theorem under50 : Try.prog.underlying 71 = some (.float .f64) := by kernel_rfl
theorem under35 : Try.prog.underlying 25 = some (.float .f32) := by kernel_rfl

set_option maxRecDepth 10000 in
set_option maxHeartbeats 1000000 in
theorem widenN_c {a b : Nat} (ha : fin .f32 a) (hb : fin .f32 b) (w : World) :
    Calls Try.prog 39 #[.complex .f32 a b] w fun e w' => e = .returned (.complex .f64 (wd a) (wd b)) ∧ w' = w := by
  have e1 := fun W => run_convert_float_float (P := Try.prog) W 25 71 .f32 .f64 a (wd a) under35s under50 (conv_wd ha)
  have e2 := fun W => run_convert_float_float (P := Try.prog) W 25 71 .f32 .f64 b (wd b) under35s under50 (conv_wd hb)
  go_enter Try.func39, Try.ntmps39
  go_wp2_with fail
  go_ret
  simp

set_option maxRecDepth 10000 in
set_option maxHeartbeats 1000000 in
theorem narrowN_c {a b : Nat} (ha : fin .f64 a) (hb : fin .f64 b) (ha' : fin .f32 (nw a)) (hb' : fin .f32 (nw b)) (w : World) :
    Calls Try.prog 55 #[.complex .f64 a b] w fun e w' => e = .returned (.complex .f32 (nw a) (nw b)) ∧ w' = w := by
  have e1 := fun W => run_convert_float_float (P := Try.prog) W 71 25 .f64 .f32 a (nw a) under50s under35 (conv_nw ha ha')
  have e2 := fun W => run_convert_float_float (P := Try.prog) W 71 25 .f64 .f32 b (nw b) under50s under35 (conv_nw hb hb')
  go_enter Try.func55, Try.ntmps55
  go_wp2_with fail
  go_ret
  simp

/-- A product of complex numbers in words. -/
def CMul (a b c d re im : Nat) : Prop := ∃ p q r s, floatBits .mul .f64 a c = some p ∧ floatBits .mul .f64 b d = some q ∧ floatBits .mul .f64 a d = some r ∧ floatBits .mul .f64 b c = some s ∧ floatBits .sub .f64 p q = some re ∧ floatBits .add .f64 r s = some im

set_option maxRecDepth 10000 in
set_option maxHeartbeats 1000000 in
theorem multiplyN_c {a b c d re im : Nat} (h : CMul a b c d re im) (w : World) :
    Calls Try.prog 56 #[.complex .f64 a b, .complex .f64 c d] w fun e w' => e = .returned (.complex .f64 re im) ∧ w' = w := by
  obtain ⟨p, q, r, s, h1, h2, h3, h4, h5, h6⟩ := h
  have e1 := fun W => run_float_arith (P := Try.prog) W .mul 71 .f64 a c p h1
  have e2 := fun W => run_float_arith (P := Try.prog) W .mul 71 .f64 b d q h2
  have e3 := fun W => run_float_arith (P := Try.prog) W .mul 71 .f64 a d r h3
  have e4 := fun W => run_float_arith (P := Try.prog) W .mul 71 .f64 b c s h4
  have e5 := fun W => run_float_arith (P := Try.prog) W .sub 71 .f64 p q re h5
  have e6 := fun W => run_float_arith (P := Try.prog) W .add 71 .f64 r s im h6
  go_enter Try.func56, Try.ntmps56
  go_wp2_with fail
  go_ret
  simp

set_option maxRecDepth 10000 in
set_option maxHeartbeats 1000000 in
theorem multiplyS_c {a b c d re im : Nat} (ha : fin .f32 a) (hb : fin .f32 b) (hc : fin .f32 c) (hd : fin .f32 d) (h : CMul (wd a) (wd b) (wd c) (wd d) re im) (h1 : fin .f64 re) (h2 : fin .f64 im) (h3 : fin .f32 (nw re)) (h4 : fin .f32 (nw im)) (w : World) :
    Calls Try.prog 47 #[.complex .f32 a b, .complex .f32 c d] w fun e w' => e = .returned (.complex .f32 (nw re) (nw im)) ∧ w' = w := by
  go_enter Try.func47, Try.ntmps47
  go_wp2_with fail
  refine (widenN_c ha hb _).mono ?_
  rintro e _ ⟨rfl, rfl⟩
  go_wp2_with fail
  refine (widenN_c hc hd _).mono ?_
  rintro e _ ⟨rfl, rfl⟩
  go_wp2_with fail
  refine (multiplyN_c h _).mono ?_
  rintro e _ ⟨rfl, rfl⟩
  go_wp2_with fail
  refine (narrowN_c h1 h2 h3 h4 _).mono ?_
  rintro e _ ⟨rfl, rfl⟩
  go_wp2_with fail
  go_ret
  simp
end Go.Proofs.Ytfhaopdaakjghaa
