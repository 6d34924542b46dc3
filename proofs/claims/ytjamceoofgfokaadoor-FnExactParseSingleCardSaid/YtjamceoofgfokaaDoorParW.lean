import Derived.Test.YtjamceoofgfokaaDoorOpenP
import Derived.Test.YtjamceoofgfokaaDoorNarrow
namespace Go.Fl
open Go Go.Proofs.YtjamceoofgfokaaDoor

abbrev S32 : Ieee.Format := Ieee.single

/-- A number that the narrow format has is written as it is. -/
theorem nearest_single (s : Bool) {mag : Nat} {place : Int} {r : Nat} (h0 : 0 < r) (hr : r < S32.infRung) (hm : ∃ i j : Nat, mag * 2 ^ i = V S32 r * 2 ^ j ∧ place - i = -149 - j) : S32.nearest s mag place = S32.word s r := by
  obtain ⟨i, j, h1, h2⟩ := hm
  obtain ⟨e, k, hrk, he, hk⟩ := rung_ek S32 r
  have hV : V S32 r = k * 2 ^ e := by rw [hrk]; exact V_ek S32 he (by omega)
  have hp : 0 < V S32 r := by have := V_lt S32 h0; omega
  have hk0 : k ≠ 0 := by rintro rfl; rw [Nat.zero_mul] at hV; omega
  have hmag : mag ≠ 0 := by
    rintro rfl
    have : 0 < V S32 r * 2 ^ j := Nat.mul_pos hp (Nat.two_pow_pos _)
    omega
  have hL : S32.leastPlace = -149 := by decide
  rw [nearest_rung S32 s hmag, rung_exact S32 he hk hk0 ⟨i, e + j, by rw [h1, hV, Nat.mul_assoc, ← Nat.pow_add], by rw [hL]; omega⟩, ← hrk, Nat.min_eq_left (Nat.le_of_lt hr)]

/-- The widened word of a finite float32. -/
theorem wide_word {y : Nat} (hy : rg S32 y < S32.infRung) : ∃ r, fconv .f32 .f64 (some y) = some (D64.word (sg S32 y) r) ∧ r < D64.infRung ∧ V D64 r = V S32 (rg S32 y) * 2 ^ gap := by
  obtain ⟨r, h1, h2, h3⟩ := widen_word hy
  exact ⟨r, congrArg some h1, h2, h3⟩

theorem word_lt (s : Bool) {r : Nat} (h : r < D64.infRung) : D64.word s r < 2 ^ 64 ∧ rg D64 (D64.word s r) = r ∧ sg D64 (D64.word s r) = s := by
  have hs : r < D64.signWeight := Nat.lt_trans h (by decide +kernel)
  refine ⟨?_, rg_word D64 hs, sg_word D64 hs⟩
  unfold Ieee.Format.word
  rw [D_S] at hs ⊢
  split <;> omega

/-- To narrow what was widened gives the word again. -/
theorem narrow_wide {y X : Nat} (h : y < 2 ^ 32) (hy : rg S32 y < S32.infRung) (hX : fconv .f32 .f64 (some y) = some X) : ∃ s m e, FloatKind.f64.decode X = .number s m e ∧ FloatKind.f32.encode (.number s m e) = y := by
  obtain ⟨r, h1, h2, h3⟩ := wide_word hy
  rw [h1] at hX
  injection hX with hX
  subst hX
  obtain ⟨m, e, r1, r2, -⟩ := read_word (sg S32 y) h2
  refine ⟨_, m, _, r1, ?_⟩
  show S32.nearest (sg S32 y) m (-1074 + (e : Int)) = y
  by_cases h0 : rg S32 y = 0
  · rw [h0, V_zero, Nat.zero_mul] at h3
    rw [h3] at r2
    have hm : m = 0 := by
      rcases Nat.eq_zero_or_pos m with hm | hm
      · exact hm
      · have := Nat.mul_pos hm (Nat.two_pow_pos e)
        omega
    subst hm
    have e1 := word_sg_rg S32 (b := y) h
    rw [h0] at e1
    unfold Ieee.Format.nearest
    rw [if_pos rfl]
    exact e1
  · rw [nearest_single (sg S32 y) (by omega) hy ⟨e, gap, by rw [r2, h3], by rw [show gap = 925 from rfl]; omega⟩]
    exact word_sg_rg S32 h

theorem fin_decode {y : Nat} (hy : rg S32 y < S32.infRung) : (FloatKind.f32.decode y).isInfinity = false ∧ (FloatKind.f32.decode y).isNaN = false := by
  obtain ⟨m, e, h, -⟩ := read_fin S32 hy
  have : FloatKind.f32.decode y = _ := h
  rw [this]
  exact ⟨rfl, rfl⟩

section
variable {P : Program} (w : World)
/-- 'float32(x)' of a float64: some word, and the word that was widened, if there was one. -/
theorem run_narrow_wide (src dst : TypeId) (X : Nat) (hs : (P.underlying src).isSome = true) (hd : P.underlying dst = some (.float .f32)) :
    ∃ r n p, (convert src dst (.float .f64 X)).run P w = .ok (.float .f32 r) (w.drewN n) ∧ FV .f32 p r ∧ ∀ y, y < 2 ^ 32 → rg S32 y < S32.infRung → fconv .f32 .f64 (some y) = some X → r = y := by
  by_cases hex : ∃ y, y < 2 ^ 32 ∧ rg S32 y < S32.infRung ∧ fconv .f32 .f64 (some y) = some X
  · obtain ⟨y, a, b, c⟩ := hex
    obtain ⟨s, m, e, h1, h2⟩ := narrow_wide a b c
    have hi := (fin_decode b).1
    rw [← h2] at hi
    have hrun := run_convert_float_float (P := P) w src dst .f64 .f32 X y hs hd (by
      unfold floatToFloatBits
      rw [if_neg (by decide), h1]
      dsimp only
      rw [hi, if_neg (by decide), h2])
    refine ⟨y, 0, some y, hrun, FV.mk (fin_decode b).2 a, fun y' a' b' c' => ?_⟩
    obtain ⟨s', m', e', h1', h2'⟩ := narrow_wide a' b' c'
    rw [h1] at h1'
    cases h1'
    rw [← h2, ← h2']
  · obtain ⟨r, n, p, h1, h2⟩ := run_narrow_any (P := P) w src dst X hs hd
    exact ⟨r, n, p, h1, h2, fun y a b c => absurd ⟨y, a, b, c⟩ hex⟩

variable {o : Oper} {a : Act} {K : Act → World → Prop} {Q : Exit → Act → World → Prop}
theorem upon_narrow_wide {src dst : TypeId} {X : Nat} (hs : (P.underlying src).isSome = true) (hd : P.underlying dst = some (.float .f32))
    (hK : ∀ r n p, FV .f32 p r → (∀ y, y < 2 ^ 32 → rg S32 y < S32.infRung → fconv .f32 .f64 (some y) = some X → r = y) → K (a.put o.dst (.float .f32 r)) (w.drewN n)) :
    Oper.upon P o a K Q (((convert src dst (.float .f64 X)).run P w).andThen fun v w' => .ok (.value v) w') := by
  obtain ⟨r, n, p, hrun, hv, hw⟩ := run_narrow_wide (P := P) w src dst X hs hd
  rw [hrun]
  exact hK r n p hv hw
end

/-- The text is that of the finite float32 y. -/
def Fmt32 (y : Nat) (l : List UInt8) : Prop := y < 2 ^ 32 ∧ rg S32 y < S32.infRung ∧ fmtD (fconv .f32 .f64 (some y)) = l

theorem Fmt32.wide {y : Nat} {l : List UInt8} (h : Fmt32 y l) : ∃ X, fconv .f32 .f64 (some y) = some X ∧ Fmt X l := by
  obtain ⟨a, b, c⟩ := h
  obtain ⟨r, h1, h2, h3⟩ := wide_word b
  obtain ⟨w1, w2, w3⟩ := word_lt (sg S32 y) h2
  exact ⟨_, h1, w1, by rw [w2]; exact h2, by rw [← h1]; exact c⟩

theorem Fmt32.inj {y z : Nat} {l : List UInt8} (h : Fmt32 y l) (k : Fmt32 z l) : y = z := by
  obtain ⟨X, h1, h2⟩ := h.wide
  obtain ⟨Y, k1, k2⟩ := k.wide
  obtain rfl := h2.inj k2
  obtain ⟨s, m, e, a1, a2⟩ := narrow_wide h.1 h.2.1 h1
  obtain ⟨s', m', e', b1, b2⟩ := narrow_wide k.1 k.2.1 k1
  rw [a1] at b1
  cases b1
  rw [← a2, ← b2]

/-- What the text of a narrowed number tells. -/
theorem fmt32_acc {r : Nat} {p : Option Nat} {l : List UInt8} (hr : FV .f32 p r) (h : fmtD (fconv .f32 .f64 p) = l) (hl : l ≠ []) : Fmt32 r l := by
  cases p with
  | none => exact absurd h.symm hl
  | some c =>
    obtain ⟨rfl, hn⟩ := hr.not_nan
    have hle := rg_le_of_not_nan hn
    rcases Nat.lt_or_eq_of_le hle with h1 | h1
    · exact ⟨hr.2, h1, h⟩
    · exfalso
      have hi := read_inf _ (okf .f32) h1
      have e : fconv .f32 .f64 (some c) = some (D64.write (.infinity (sg S32 c))) := by
        show some (FloatKind.f64.encode (FloatKind.f32.decode c)) = _
        rw [show FloatKind.f32.decode c = _ from hi]
        rfl
      rw [e] at h
      apply hl
      rw [← h]
      refine fmtD_inf ?_
      generalize sg S32 c = s
      cases s <;> decide +kernel

theorem fmt32_cl {y r : Nat} {p : Option Nat} {l : List UInt8} (h : Fmt32 y l) (hr : FV .f32 p r) (he : r = y) : fmtD (fconv .f32 .f64 p) = l := by
  subst he
  have : p = some r := by
    have h1 := hr.1
    unfold cl at h1
    rw [(fin_decode h.2.1).2] at h1
    exact h1.symm
  rw [this]
  exact h.2.2
end Go.Fl
namespace Go.Proofs.YtjamceoofgfokaaDoor
open Go.RowKit Go.Fl

set_option maxRecDepth 10000 in
set_option maxHeartbeats 400000 in
theorem fmtSingleSpec_c {p : Option Nat} {x : Nat} (hx : FV .f32 p x) (w : World) :
    Calls Tryd.prog 9 #[.float .f32 x] w (RetS (fmtD (fconv .f32 .f64 p)) w) := by
  go_enter Tryd.func9, Tryd.ntmps9
  go_wp2_with (refine upon_widen _ under29 under23 hx ?_; intro y n hy)
  refine (formatSpec_c hy _).mono ?_
  rintro e w1 ⟨rfl, b1⟩
  go_wp2_with fail
  go_ret
  exact ⟨rfl, (below_drewN' (Below.refl _ _) _).trans b1⟩

set_option maxRecDepth 10000 in
set_option maxHeartbeats 400000 in
theorem fmtSingleImpl_c {p : Option Nat} {x : Nat} (hx : FV .f32 p x) (w : World) (hT : Tabs w) :
    Calls Tryd.prog 10 #[.float .f32 x] w (RetS (fmtD (fconv .f32 .f64 p)) w) := by
  have T0 := Lib.hid hT
  clear hT
  go_enter Tryd.func10, Tryd.ntmps10
  go_wp2_with (refine upon_widen _ under29 under23 hx ?_; intro y n hy)
  refine (formatImpl_c hy _ (T0.out.below (below_drewN' (Below.refl _ _) _))).mono ?_
  rintro e w1 ⟨rfl, b1⟩
  go_wp2_with fail
  go_ret
  exact ⟨rfl, (below_drewN' (Below.refl _ _) _).trans b1⟩

/-- A call that reads a float32. -/
def RetPS (l : List UInt8) (w : World) (e : Ending) (w' : World) : Prop :=
  ∃ y t, e = .returned (.tuple #[.float .f32 y, .bool t]) ∧ (t = true → Fmt32 y l) ∧ (t = false → y = 0 ∧ ¬ ∃ z, Fmt32 z l) ∧ Below w.heap.size w w'

theorem RetPS.agree {l : List UInt8} {x y : Nat} {s t : Bool} (h1 : s = true → Fmt32 x l) (h2 : s = false → x = 0 ∧ ¬ ∃ z, Fmt32 z l) (k1 : t = true → Fmt32 y l) (k2 : t = false → y = 0 ∧ ¬ ∃ z, Fmt32 z l) : s = t ∧ x = y ∧ x < 2 ^ 32 := by
  cases s <;> cases t
  · exact ⟨rfl, by rw [(h2 rfl).1, (k2 rfl).1], by rw [(h2 rfl).1]; decide⟩
  · exact absurd ⟨_, k1 rfl⟩ (h2 rfl).2
  · exact absurd ⟨_, h1 rfl⟩ (k2 rfl).2
  · exact ⟨rfl, (h1 rfl).inj (k1 rfl), (h1 rfl).1⟩

set_option maxRecDepth 10000 in
set_option maxHeartbeats 2000000 in
theorem parse32Spec_c {l : List UInt8} (hl : l.length ≤ 1048576) (w : World) :
    Calls Tryd.prog 14 #[.string ⟨l.toArray⟩] w (RetPS l w) := by
  have rej : ∀ w', Below w.heap.size w w' → (¬ ∃ z, Fmt32 z l) → RetPS l w (.returned (.tuple #[.float .f32 0, .bool false])) w' := fun w' hb hn => ⟨0, false, rfl, fun h => (by cases h), fun _ => ⟨rfl, hn⟩, hb⟩
  have acc : ∀ x w', Below w.heap.size w w' → Fmt32 x l → RetPS l w (.returned (.tuple #[.float .f32 x, .bool true])) w' := fun x w' hb hn => ⟨x, true, rfl, fun _ => hn, fun h => (by cases h), hb⟩
  have REJ := Lib.hid rej
  have ACC := Lib.hid acc
  clear rej acc
  have P0 := Lib.hid (fun w => parseSpec_c hl w)
  go_enter Tryd.func14, Tryd.ntmps14
  go_wp2_with fail
  refine (P0.out _).mono ?_
  rintro e w1 ⟨x, t, rfl, h1, h2, b1⟩
  have B1 := Lib.hid b1
  cases t
  case false =>
    have H2 := Lib.hid (h2 rfl)
    obtain rfl := H2.out.1
    clear h1 h2 b1
    go_wp2_with fail
    go_ret2
    exact REJ.out _ B1.out (fun ⟨z, hz⟩ => by obtain ⟨X, -, hX⟩ := hz.wide; exact H2.out.2 ⟨X, hX⟩)
  case true =>
    have HF := Lib.hid (h1 rfl)
    clear h1 h2 b1
    go_wp2_with (refine upon_narrow_wide _ under64s under32 ?_; intro r n1 p hr hrw)
    have RW := Lib.hid hrw
    have FR := Lib.hid hr
    clear hrw
    have FS := Lib.hid (fun w' => fmtSingleSpec_c hr w')
    generalize hz : fmtD (fconv .f32 .f64 p) = z at *
    have ZZ := Lib.hid hz
    clear hz hr
    refine (FS.out _).mono ?_
    rintro e w2 ⟨rfl, b2⟩
    have B2 := Lib.hid ((below_drewN' B1.out n1).trans (b2.mono (below_drewN' B1.out n1).size))
    clear b2
    have NE : l ≠ [] := fun h => not_fmt_nil ⟨x, by rw [← h]; exact HF.out⟩
    by_cases hq : z = l
    · have q1 : (z == l) = true := by simpa using hq
      have FM := Lib.hid (fmt32_acc FR.out (ZZ.out.trans hq) NE)
      clear hq NE
      go_wp2_with (refine upon_narrow_wide _ under64s under32 ?_; intro r2 n2 p2 hr2 hrw2)
      obtain rfl : r2 = r := hrw2 r FM.out.1 FM.out.2.1 (by
        obtain ⟨X, e1, e2⟩ := FM.out.wide
        rw [e1, e2.inj HF.out])
      go_wp2_with fail
      go_ret2
      exact ACC.out _ _ (below_drewN' B2.out n2) FM.out
    · have q1 : (z == l) = false := by simpa using hq
      have HQ := Lib.hid hq
      clear hq NE
      go_wp2_with fail
      go_ret2
      exact REJ.out _ B2.out (fun ⟨y, hy⟩ => HQ.out (by
        obtain ⟨X, e1, e2⟩ := hy.wide
        have hx := e2.inj HF.out
        rw [hx] at e1
        rw [← ZZ.out]
        exact fmt32_cl hy FR.out (RW.out y hy.1 hy.2.1 e1)))

set_option maxRecDepth 10000 in
set_option maxHeartbeats 2000000 in
theorem parse32Impl_c {l : List UInt8} (hl : l.length ≤ 1048576) (w : World) (hL : Laid w) :
    Calls Tryd.prog 15 #[.string ⟨l.toArray⟩] w (RetPS l w) := by
  have rej : ∀ w', Below w.heap.size w w' → (¬ ∃ z, Fmt32 z l) → RetPS l w (.returned (.tuple #[.float .f32 0, .bool false])) w' := fun w' hb hn => ⟨0, false, rfl, fun h => (by cases h), fun _ => ⟨rfl, hn⟩, hb⟩
  have acc : ∀ x w', Below w.heap.size w w' → Fmt32 x l → RetPS l w (.returned (.tuple #[.float .f32 x, .bool true])) w' := fun x w' hb hn => ⟨x, true, rfl, fun _ => hn, fun h => (by cases h), hb⟩
  have REJ := Lib.hid rej
  have ACC := Lib.hid acc
  clear rej acc
  have L0 := Lib.hid hL
  clear hL
  have P0 := Lib.hid (fun w h => parseImpl_c hl w h)
  go_enter Tryd.func15, Tryd.ntmps15
  go_wp2_with fail
  refine (P0.out _ L0.out).mono ?_
  rintro e w1 ⟨x, t, rfl, h1, h2, b1⟩
  have B1 := Lib.hid b1
  cases t
  case false =>
    have H2 := Lib.hid (h2 rfl)
    obtain rfl := H2.out.1
    clear h1 h2 b1
    go_wp2_with fail
    go_ret2
    exact REJ.out _ B1.out (fun ⟨z, hz⟩ => by obtain ⟨X, -, hX⟩ := hz.wide; exact H2.out.2 ⟨X, hX⟩)
  case true =>
    have HF := Lib.hid (h1 rfl)
    clear h1 h2 b1
    go_wp2_with (refine upon_narrow_wide _ under64s under32 ?_; intro r n1 p hr hrw)
    have RW := Lib.hid hrw
    have FR := Lib.hid hr
    clear hrw
    have FS := Lib.hid (fun w' h => fmtSingleImpl_c hr w' h)
    generalize hz : fmtD (fconv .f32 .f64 p) = z at *
    have ZZ := Lib.hid hz
    clear hz hr
    refine (FS.out _ (L0.out.below (below_drewN' B1.out n1)).1).mono ?_
    rintro e w2 ⟨rfl, b2⟩
    have B2 := Lib.hid ((below_drewN' B1.out n1).trans (b2.mono (below_drewN' B1.out n1).size))
    clear b2
    have NE : l ≠ [] := fun h => not_fmt_nil ⟨x, by rw [← h]; exact HF.out⟩
    by_cases hq : z = l
    · have q1 : (z == l) = true := by simpa using hq
      have FM := Lib.hid (fmt32_acc FR.out (ZZ.out.trans hq) NE)
      clear hq NE
      go_wp2_with (refine upon_narrow_wide _ under64s under32 ?_; intro r2 n2 p2 hr2 hrw2)
      obtain rfl : r2 = r := hrw2 r FM.out.1 FM.out.2.1 (by
        obtain ⟨X, e1, e2⟩ := FM.out.wide
        rw [e1, e2.inj HF.out])
      go_wp2_with fail
      go_ret2
      exact ACC.out _ _ (below_drewN' B2.out n2) FM.out
    · have q1 : (z == l) = false := by simpa using hq
      have HQ := Lib.hid hq
      clear hq NE
      go_wp2_with fail
      go_ret2
      exact REJ.out _ B2.out (fun ⟨y, hy⟩ => HQ.out (by
        obtain ⟨X, e1, e2⟩ := hy.wide
        have hx := e2.inj HF.out
        rw [hx] at e1
        rw [← ZZ.out]
        exact fmt32_cl hy FR.out (RW.out y hy.1 hy.2.1 e1)))

end Go.Proofs.YtjamceoofgfokaaDoor
