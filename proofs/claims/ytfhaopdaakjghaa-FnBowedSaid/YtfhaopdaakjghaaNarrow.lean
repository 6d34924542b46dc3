import Derived.Test.YtfhaopdaakjghaaFloat
namespace Go.Fl
open Go
section
variable {P : Program} (w : World)

/-- 'float32(x)' of a float64, whatever it is: some word. -/
theorem run_narrow_any (src dst : TypeId) (X : Nat) (hs : (P.underlying src).isSome = true) (hd : P.underlying dst = some (.float .f32)) :
    ∃ r n p, (convert src dst (.float .f64 X)).run P w = .ok (.float .f32 r) (w.drewN n) ∧ FV .f32 p r := by
  obtain ⟨u, hs'⟩ := run_underlying_some hs
  cases hd' : FloatKind.f64.decode X with
  | nan s t =>
    refine ⟨_, 1, _, ?_, nan_conv .f32 X (w.tape w.drawn (.nanConv .f32 X))⟩
    cases u <;> simp [convert, run_underlying hs', run_underlying hd, Conv.floatToFloat, hd', Question.forced, World.drewN]
  | infinity s =>
    refine ⟨_, 0, _, ?_, FV.of_lt (k := .f32) (write_wlt .f32 (.infinity s))⟩
    cases u <;> simp [convert, run_underlying hs', run_underlying hd, Conv.floatToFloat, hd', World.drewN]
  | number s m e =>
    by_cases hi : (FloatKind.f32.decode (FloatKind.f32.encode (.number s m e))).isInfinity = true
    · refine ⟨_, 1, _, ?_, FV.of_lt (k := .f32) (b := (w.tape w.drawn (.floatToFloat X)) % 2 ^ 32) (Nat.mod_lt _ (Nat.two_pow_pos 32))⟩
      cases u <;> simp [convert, run_underlying hs', run_underlying hd, Conv.floatToFloat, hd', hi, Question.forced, Question.cut, World.drewN]
    · refine ⟨_, 0, _, ?_, FV.of_lt (k := .f32) (write_wlt .f32 (.number s m e))⟩
      cases u <;> simp [convert, run_underlying hs', run_underlying hd, Conv.floatToFloat, hd', hi, World.drewN]

variable {o : Oper} {a : Act} {K : Act → World → Prop} {Q : Exit → Act → World → Prop}
theorem upon_narrow_any {src dst : TypeId} {X : Nat} (hs : (P.underlying src).isSome = true) (hd : P.underlying dst = some (.float .f32))
    (hK : ∀ r n p, FV .f32 p r → K (a.put o.dst (.float .f32 r)) (w.drewN n)) :
    Oper.upon P o a K Q (((convert src dst (.float .f64 X)).run P w).andThen fun v w' => .ok (.value v) w') := by
  obtain ⟨r, n, p, hrun, hv⟩ := run_narrow_any (P := P) w src dst X hs hd
  rw [hrun]
  exact hK r n p hv

theorem run_ftf {b : Nat} {p : Option Nat} (h : FV .f32 p b) :
    ∃ r n, (Conv.floatToFloat .f32 b .f64).run P w = .ok (.float .f64 r) (w.drewN n) ∧ FV .f64 (fconv .f32 .f64 p) r := by
  cases p with
  | none =>
    have hn := h.nan
    cases hd' : FloatKind.f32.decode b with
    | nan s t =>
      refine ⟨_, 1, ?_, nan_conv .f64 b (w.tape w.drawn (.nanConv .f64 b))⟩
      simp [Conv.floatToFloat, hd', Question.forced, World.drewN]
    | _ => rw [hd'] at hn; cases hn
  | some c =>
    obtain ⟨rfl, hn⟩ := h.not_nan
    refine ⟨FloatKind.f64.encode (FloatKind.f32.decode c), 0, ?_, FV.mk (widen_not_nan hn) (write_wlt ..)⟩
    cases hd' : FloatKind.f32.decode c with
    | nan s t => rw [hd'] at hn; cases hn
    | infinity s => simp [Conv.floatToFloat, hd', World.drewN]
    | number s m e =>
      have hle := rg_le_of_not_nan hn
      rcases Nat.lt_or_eq_of_le hle with h1 | h1
      · obtain ⟨r, hw, hr, _⟩ := widen_word h1
        have hw' : FloatKind.f64.encode (.number s m e) = Ieee.double.word (sg Ieee.single c) r := by rw [← hd']; exact hw
        have hsw := Ieee.Format.infRung_lt Ieee.double
        obtain ⟨m', e', hrd, _⟩ := read_fin Ieee.double (b := Ieee.double.word (sg Ieee.single c) r) (by rw [rg_word _ (by omega)]; exact hr)
        have : (FloatKind.f64.decode (FloatKind.f64.encode (.number s m e))).isInfinity = false := by
          rw [hw']; unfold FloatKind.decode; rw [show FloatKind.f64.format = Ieee.double from rfl, hrd]; rfl
        simp [Conv.floatToFloat, hd', this, World.drewN]
      · have := read_inf _ (okf .f32) h1
        rw [FloatKind.decode, this] at hd'
        cases hd'

/-- 'complex128(z)' of a complex64. -/
theorem run_widen_complex (src dst : TypeId) {x y : Nat} {p q : Option Nat} (hs : (P.underlying src).isSome = true) (hd : P.underlying dst = some (.complex .f64)) (hx : FV .f32 p x) (hy : FV .f32 q y) :
    ∃ r s n, (convert src dst (.complex .f32 x y)).run P w = .ok (.complex .f64 r s) (w.drewN n) ∧ FV .f64 (fconv .f32 .f64 p) r ∧ FV .f64 (fconv .f32 .f64 q) s := by
  obtain ⟨u, hs'⟩ := run_underlying_some hs
  obtain ⟨r, n, hr, fr⟩ := run_ftf (P := P) w hx
  obtain ⟨s, m, hs2, fs⟩ := run_ftf (P := P) (w.drewN n) hy
  refine ⟨r, s, n + m, ?_, fr, fs⟩
  rw [World.drewN_drewN] at hs2
  cases u <;> simp [convert, run_underlying hs', run_underlying hd, Conv.complexToComplex, hr, hs2]

theorem upon_widen_complex {src dst : TypeId} {x y : Nat} {p q : Option Nat} (hs : (P.underlying src).isSome = true) (hd : P.underlying dst = some (.complex .f64)) (hx : FV .f32 p x) (hy : FV .f32 q y)
    (hK : ∀ r s n, FV .f64 (fconv .f32 .f64 p) r → FV .f64 (fconv .f32 .f64 q) s → K (a.put o.dst (.complex .f64 r s)) (w.drewN n)) :
    Oper.upon P o a K Q (((convert src dst (.complex .f32 x y)).run P w).andThen fun v w' => .ok (.value v) w') := by
  obtain ⟨r, s, n, hrun, h1, h2⟩ := run_widen_complex (P := P) w src dst hs hd hx hy
  rw [hrun]
  exact hK r s n h1 h2
end
end Go.Fl
