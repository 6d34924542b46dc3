import Derived.Test.YtkckobbmejckiaaAbs
namespace Go.Fl
open Go

theorem iv_word (f : Ieee.Format) {s : Bool} {r : Nat} (h : r < f.signWeight) : iv f (f.word s r) = if s then -(V f r : Int) else (V f r : Int) := by
  unfold iv
  rw [sg_word f h, rg_word f h]

/-- The float64 that a float32 is: the same sign, and a rung that is found by worth alone. -/
theorem widen_eq {b : Nat} (h : rg Ieee.single b ≤ Ieee.single.infRung) : ∃ r, FloatKind.f64.encode (FloatKind.f32.decode b) = Ieee.double.word (sg Ieee.single b) r ∧
    ((rg Ieee.single b < Ieee.single.infRung ∧ r < Ieee.double.infRung ∧ V Ieee.double r = V Ieee.single (rg Ieee.single b) * 2 ^ gap) ∨ (rg Ieee.single b = Ieee.single.infRung ∧ r = Ieee.double.infRung)) := by
  rcases Nat.lt_or_eq_of_le h with h1 | h1
  · obtain ⟨r, hw, hr, hv⟩ := widen_word h1
    exact ⟨r, hw, .inl ⟨h1, hr, hv⟩⟩
  · refine ⟨Ieee.double.infRung, ?_, .inr ⟨h1, rfl⟩⟩
    have := read_inf _ (okf .f32) h1
    unfold FloatKind.decode
    rw [this]
    rfl

/-- Places of infinity above the least place. -/
def xs : Nat := 277
def xd : Nat := 2098
theorem V_inf (f : Ieee.Format) {e n : Nat} (h1 : f.infRung = e * f.binade + 2 * f.binade) (h2 : n = f.fractionBits + 1 + e) : V f f.infRung = 2 ^ n := by
  rw [h1, V_ek _ (.inr (by omega)) (Nat.le_refl _), h2, Nat.pow_add 2 (f.fractionBits + 1), Nat.pow_succ 2 f.fractionBits, Nat.mul_comm 2 f.binade]
  rfl
theorem V_single_inf : V Ieee.single Ieee.single.infRung = 2 ^ xs := V_inf _ (e := 253) (by decide) (by decide)
theorem V_double_inf : V Ieee.double Ieee.double.infRung = 2 ^ xd := V_inf _ (e := 2045) (by decide) (by decide)

theorem word_rung_lt {r : Nat} (h : r ≤ Ieee.double.infRung) : r < Ieee.double.signWeight := Nat.lt_of_le_of_lt h Ieee.double.infRung_lt

/-- Two float32 stand to each other as float64. -/
theorem compare_widen {b c : Nat} (hb : rg Ieee.single b ≤ Ieee.single.infRung) (hc : rg Ieee.single c ≤ Ieee.single.infRung) :
    compare (iv Ieee.double (FloatKind.f64.encode (FloatKind.f32.decode b))) (iv Ieee.double (FloatKind.f64.encode (FloatKind.f32.decode c))) = compare (iv Ieee.single b) (iv Ieee.single c) := by
  have hp : 0 < 2 ^ gap := Nat.two_pow_pos _
  have hbound : ∀ {x : Nat}, rg Ieee.single x < Ieee.single.infRung → V Ieee.single (rg Ieee.single x) * 2 ^ gap < V Ieee.double Ieee.double.infRung ∧ V Ieee.single (rg Ieee.single x) < V Ieee.single Ieee.single.infRung := fun {x} hx => by
    have h1 := V_lt Ieee.single hx
    refine ⟨?_, h1⟩
    rw [V_single_inf] at h1
    rw [V_double_inf]
    have h2 := Nat.mul_lt_mul_of_pos_right h1 hp
    have h3 : 2 ^ xs * 2 ^ gap ≤ 2 ^ xd := by rw [← Nat.pow_add]; exact Nat.pow_le_pow_right (by decide) (by decide)
    omega
  obtain ⟨r, er, hr⟩ := widen_eq hb
  obtain ⟨s, es, hs⟩ := widen_eq hc
  rw [er, es]
  rcases hr with ⟨b1, b2, b3⟩ | ⟨b1, rfl⟩ <;> rcases hs with ⟨c1, c2, c3⟩ | ⟨c1, rfl⟩
  · rw [iv_word _ (word_rung_lt (by omega)), iv_word _ (word_rung_lt (by omega)), b3, c3, ← compare_scale (iv Ieee.single b) (iv Ieee.single c) gap]
    unfold iv
    congr 1 <;> split <;> simp [Int.neg_mul]
  · obtain ⟨g1, g2⟩ := hbound b1
    rw [iv_word _ (word_rung_lt (by omega)), iv_word _ (word_rung_lt (Nat.le_refl _)), b3]
    unfold iv
    rw [c1]
    cases sg Ieee.single b <;> cases sg Ieee.single c <;> simp only [if_true, if_false, Bool.false_eq_true] <;>
      first | (rw [Int.compare_eq_lt.2 (by omega), Int.compare_eq_lt.2 (by omega)]) | (rw [Int.compare_eq_gt.2 (by omega), Int.compare_eq_gt.2 (by omega)])
  · obtain ⟨g1, g2⟩ := hbound c1
    rw [iv_word _ (word_rung_lt (Nat.le_refl _)), iv_word _ (word_rung_lt (by omega)), c3]
    unfold iv
    rw [b1]
    cases sg Ieee.single b <;> cases sg Ieee.single c <;> simp only [if_true, if_false, Bool.false_eq_true] <;>
      first | (rw [Int.compare_eq_lt.2 (by omega), Int.compare_eq_lt.2 (by omega)]) | (rw [Int.compare_eq_gt.2 (by omega), Int.compare_eq_gt.2 (by omega)])
  · have hI : 0 < V Ieee.single Ieee.single.infRung := by rw [V_single_inf]; exact Nat.two_pow_pos _
    have hJ : 0 < V Ieee.double Ieee.double.infRung := by rw [V_double_inf]; exact Nat.two_pow_pos _
    rw [iv_word _ (word_rung_lt (Nat.le_refl _)), iv_word _ (word_rung_lt (Nat.le_refl _))]
    unfold iv
    rw [b1, c1]
    cases sg Ieee.single b <;> cases sg Ieee.single c <;> simp only [if_true, if_false, Bool.false_eq_true] <;>
      first | (rw [Int.compare_eq_lt.2 (by omega), Int.compare_eq_lt.2 (by omega)]) | (rw [Int.compare_eq_gt.2 (by omega), Int.compare_eq_gt.2 (by omega)]) | (rw [Int.compare_eq_eq.2 rfl, Int.compare_eq_eq.2 rfl])

/-- What a call or an operation may ask of a pure value of kind k: the word is no NaN. -/
def okF (k : FloatKind) (p : Option Nat) : Prop := ∀ b, p = some b → (k.decode b).isNaN = false ∧ b < 2 ^ k.format.width

theorem FV.okF {k : FloatKind} {p : Option Nat} {b : Nat} (h : FV k p b) : okF k p := fun c hc => by
  subst hc
  obtain ⟨rfl, hn⟩ := h.not_nan
  exact ⟨hn, h.2⟩

theorem order_widen {p q : Option Nat} {x y X Y : Nat} (hx : FV .f32 p x) (hy : FV .f32 q y) (hX : FV .f64 (fconv .f32 .f64 p) X) (hY : FV .f64 (fconv .f32 .f64 q) Y) :
    FloatKind.f64.format.order X Y = FloatKind.f32.format.order x y := by
  cases p with
  | none => rw [order_nan hx, order_nan_left (FV.nan (k := .f64) hX)]
  | some b =>
    cases q with
    | none => rw [order_nan_right hy.nan, order_nan_right (FV.nan (k := .f64) hY)]
    | some c =>
      obtain ⟨rfl, hb⟩ := hx.not_nan
      obtain ⟨rfl, hc⟩ := hy.not_nan
      obtain ⟨e1, h1⟩ := FV.not_nan (k := .f64) hX
      obtain ⟨e2, h2⟩ := FV.not_nan (k := .f64) hY
      rw [order_iv _ (okf .f64) h1 h2, order_iv _ (okf .f32) hb hc, ← e1, ← e2]
      exact congrArg some (compare_widen (rg_le_of_not_nan hb) (rg_le_of_not_nan hc))

/-- The absolute value of a float32 as a float64. -/
theorem fconv_fabs {p : Option Nat} {x : Nat} (hx : FV .f32 p x) : fconv .f32 .f64 (fabs .f32 p) = fabs .f64 (fconv .f32 .f64 p) := by
  cases p with
  | none => rfl
  | some b =>
    obtain ⟨rfl, hb⟩ := hx.not_nan
    have hle := rg_le_of_not_nan hb
    have hle' : rg Ieee.single (rg Ieee.single b) ≤ Ieee.single.infRung := by rw [rg_rg]; exact hle
    obtain ⟨r, er, hr⟩ := widen_eq hle
    obtain ⟨s, es, hs⟩ := widen_eq hle'
    rw [rg_rg] at hs
    have hsg := sg_rg Ieee.single b
    rw [hsg] at es
    have hrs : r = s := by
      rcases hr with ⟨b1, b2, b3⟩ | ⟨b1, rfl⟩ <;> rcases hs with ⟨c1, c2, c3⟩ | ⟨c1, rfl⟩
      · exact V_inj Ieee.double (by rw [b3, c3])
      · omega
      · omega
      · rfl
    subst hrs
    have hrl : r ≤ Ieee.double.infRung := by rcases hr with ⟨_, h, _⟩ | ⟨_, h⟩ <;> omega
    show some (FloatKind.f64.encode (FloatKind.f32.decode (rg Ieee.single b))) = some (rg Ieee.double (FloatKind.f64.encode (FloatKind.f32.decode b)))
    rw [es, er, rg_word _ (word_rung_lt hrl)]
    rfl

/-- A float32 that was widened is narrowed to itself. -/
theorem narrow_widen {b : Nat} (h : b < 2 ^ FloatKind.f32.format.width) (hle : rg Ieee.single b ≤ Ieee.single.infRung) : FloatKind.f32.encode (FloatKind.f64.decode (FloatKind.f64.encode (FloatKind.f32.decode b))) = b := by
  obtain ⟨r, er, hr⟩ := widen_eq hle
  rw [er]
  rcases hr with ⟨b1, b2, b3⟩ | ⟨b1, rfl⟩
  · obtain ⟨m, e, hrd, hv, he, hm⟩ := read_fin Ieee.double (b := Ieee.double.word (sg Ieee.single b) r) (by rw [rg_word _ (word_rung_lt (by omega))]; exact b2)
    rw [sg_word _ (word_rung_lt (by omega)), rg_word _ (word_rung_lt (by omega))] at *
    unfold FloatKind.decode FloatKind.encode
    rw [show FloatKind.f64.format = Ieee.double from rfl, hrd]
    show Ieee.single.nearest _ _ _ = b
    obtain ⟨e', k', hk, he', hk'⟩ := rung_ek Ieee.single (rg Ieee.single b)
    have hV : V Ieee.single (rg Ieee.single b) = k' * 2 ^ e' := by rw [hk, V_ek _ he' (by omega)]
    by_cases h0 : m = 0
    · subst h0
      have : rg Ieee.single b = 0 := by
        apply V_inj Ieee.single
        rw [V_zero]
        rw [b3] at hv
        have hp : 0 < 2 ^ gap := Nat.two_pow_pos _
        rw [Nat.zero_mul] at hv
        rcases Nat.mul_eq_zero.1 hv.symm with h | h
        · exact h
        · omega
      unfold Ieee.Format.nearest
      rw [if_pos rfl]
      have hw := word_sg_rg Ieee.single h
      rw [this] at hw
      exact hw
    · have hk0 : k' ≠ 0 := by
        rintro rfl
        rw [hV, Nat.zero_mul, Nat.zero_mul] at b3
        rw [b3] at hv
        rcases Nat.mul_eq_zero.1 hv with h | h
        · exact h0 h
        · have := Nat.two_pow_pos e; omega
      have hx := rung_exact Ieee.single (e := e') (k := k') (mag := m) (place := Ieee.double.leastPlace + e) he' hk' hk0 ⟨e, e' + gap, by rw [hv, b3, hV, Nat.mul_assoc, ← Nat.pow_add], by
        have hLs : Ieee.single.leastPlace = -149 := by decide
        have hLd : Ieee.double.leastPlace = -1074 := by decide
        have hg : gap = 925 := rfl
        rw [hLs, hLd]; omega⟩
      rw [nearest_rung _ _ h0, hx, ← hk, Nat.min_eq_left hle]
      exact word_sg_rg Ieee.single h
  · have h2 : Ieee.double.read (Ieee.double.word (sg Ieee.single b) Ieee.double.infRung) = .infinity (sg Ieee.single b) := by
      have := read_inf Ieee.double (okf .f64) (b := Ieee.double.word (sg Ieee.single b) Ieee.double.infRung) (rg_word _ (word_rung_lt (Nat.le_refl _)))
      rw [sg_word _ (word_rung_lt (Nat.le_refl _))] at this
      exact this
    unfold FloatKind.decode FloatKind.encode
    rw [show FloatKind.f64.format = Ieee.double from rfl, h2]
    show Ieee.single.word _ _ = b
    have h3 := word_sg_rg Ieee.single h
    rw [b1] at h3
    exact h3

section
variable {P : Program} (w : World)
/-- 'float32(x)' of what a float32 was widened to. -/
theorem run_narrow_widened (src dst : TypeId) {X : Nat} {p : Option Nat} (hs : (P.underlying src).isSome = true) (hd : P.underlying dst = some (.float .f32)) (hp : okF .f32 p) (h : FV .f64 (fconv .f32 .f64 p) X) :
    ∃ r n, (convert src dst (.float .f64 X)).run P w = .ok (.float .f32 r) (w.drewN n) ∧ FV .f32 p r := by
  cases p with
  | none =>
    have hn := FV.nan (k := .f64) h
    obtain ⟨u, hs'⟩ := run_underlying_some hs
    cases hd' : FloatKind.f64.decode X with
    | nan s t =>
      refine ⟨_, 1, ?_, nan_conv .f32 X (w.tape w.drawn (.nanConv .f32 X))⟩
      cases u <;> simp [convert, run_underlying hs', run_underlying hd, Conv.floatToFloat, hd', Question.forced, World.drewN]
    | _ => rw [hd'] at hn; cases hn
  | some b =>
    obtain ⟨hb, hbw⟩ := hp b rfl
    obtain ⟨e1, h1⟩ := FV.not_nan (k := .f64) h
    have hnw := narrow_widen hbw (rg_le_of_not_nan hb)
    refine ⟨_, 0, run_convert_float_float w src dst .f64 .f32 X b hs hd ?_, FV.mk hb hbw⟩
    unfold floatToFloatBits
    rw [if_neg (by decide)]
    change FloatKind.f64.encode (FloatKind.f32.decode b) = X at e1
    rw [e1] at hnw
    cases hd' : FloatKind.f64.decode X with
    | nan s t => rw [hd'] at h1; cases h1
    | infinity s => rw [hd'] at hnw; exact congrArg some hnw
    | number s m e =>
      rw [hd'] at hnw
      simp only [hnw]
      have hni : (FloatKind.f32.decode b).isInfinity = false := by
        rcases Nat.lt_or_eq_of_le (rg_le_of_not_nan hb) with h2 | h2
        · obtain ⟨m', e', hr, _⟩ := read_fin _ h2
          unfold FloatKind.decode
          rw [hr]; rfl
        · exfalso
          have h3 : FloatKind.f64.decode (FloatKind.f64.encode (FloatKind.f32.decode b)) = .infinity (sg Ieee.single b) := by
            obtain ⟨r, er, hr⟩ := widen_eq (b := b) (Nat.le_of_eq h2)
            rcases hr with ⟨b1, _⟩ | ⟨_, rfl⟩
            · have : rg Ieee.single b = Ieee.single.infRung := h2
              omega
            · rw [er]
              have := read_inf Ieee.double (okf .f64) (b := Ieee.double.word (sg Ieee.single b) Ieee.double.infRung) (rg_word _ (word_rung_lt (Nat.le_refl _)))
              rw [sg_word _ (word_rung_lt (Nat.le_refl _))] at this
              exact this
          rw [e1, hd'] at h3
          cases h3
      rw [hni]
      rfl

variable {o : Oper} {a : Act} {K : Act → World → Prop} {Q : Exit → Act → World → Prop}
theorem upon_narrow_widened {src dst : TypeId} {X : Nat} {p : Option Nat} (hs : (P.underlying src).isSome = true) (hd : P.underlying dst = some (.float .f32)) (hp : okF .f32 p) (h : FV .f64 (fconv .f32 .f64 p) X)
    (hK : ∀ r n, FV .f32 p r → K (a.put o.dst (.float .f32 r)) (w.drewN n)) :
    Oper.upon P o a K Q (((convert src dst (.float .f64 X)).run P w).andThen fun v w' => .ok (.value v) w') := by
  obtain ⟨r, n, hrun, hv⟩ := run_narrow_widened (P := P) w src dst hs hd hp h
  rw [hrun]
  exact hK r n hv
end
end Go.Fl
