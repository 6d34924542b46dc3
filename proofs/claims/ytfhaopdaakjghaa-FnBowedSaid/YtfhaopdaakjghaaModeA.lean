import Derived.Test.YtfhaopdaakjghaaTurn
import Derived.Test.YtfhaopdaakjghaaNarrow
namespace Go.Proofs.Ytfhaopdaakjghaa
open Go.RowKit Go.Fl

/-- A mode's four words and what they stand for. -/
structure MW where
  a : Nat
  b : Nat
  c : Nat
  d : Nat

abbrev MQ := CN × CN

/-- The words stand for m. -/
def FM (m : MQ) (x : MW) : Prop := FV .f32 m.1.1 x.a ∧ FV .f32 m.1.2 x.b ∧ FV .f32 m.2.1 x.c ∧ FV .f32 m.2.2 x.d

abbrev MW.val (x : MW) : Value := .agg #[.complex .f32 x.a x.b, .complex .f32 x.c x.d]

set_option maxHeartbeats 400000 in
theorem scaleSpec_c {p q s : Option Nat} {a b c : Nat} (ha : FV .f32 p a) (hb : FV .f32 q b) (hc : FV .f32 s c) (w : World) :
    Calls Try.prog 31 #[.complex .f32 a b, .float .f32 c] w (fun e w' => ∃ r t, e = .returned (.complex .f32 r t) ∧ FV .f32 (fop .mul .f32 p s) r ∧ FV .f32 (fop .mul .f32 q s) t ∧ ∃ n, w' = w.drewN n) := by
  go_enter Try.func31, Try.ntmps31
  go_wp2_with (first | (refine upon_flop _ (by decide) ha hc ?_; intro x n hx) | (refine upon_flop _ (by decide) hb hc ?_; intro y m hy))
  go_ret
  exact ⟨_, _, rfl, hx, hy, _, rfl⟩

set_option maxRecDepth 10000 in
set_option maxHeartbeats 400000 in
theorem l1Single_c {b : Nat} {a : Option Addr} {len cap : Nat} (w : World) (h : CurP w b a len cap) :
    Calls Try.prog 33 #[.pointer (some ⟨b, 0, none⟩)] w (DrawsS b a len cap w) := by
  have H := Lib.hid h
  clear h
  have u1 := under59
  have u2 := under64s
  go_enter Try.func33, Try.ntmps33
  go_wp2_with fail
  refine (l1Any_c _ H.out).mono ?_
  rintro e w1 ⟨r, p, rfl, hr, d1⟩
  have D1 := Lib.hid d1
  clear d1
  go_wp2_with (refine upon_narrow_any _ under64s under59 ?_; intro x n px hx)
  refine (l1Any_c _ (D1.out.drewN n).1).mono ?_
  rintro e w2 ⟨s, q, rfl, hs, d2⟩
  have D2 := Lib.hid ((D1.out.drewN n).trans d2)
  clear d2
  go_wp2_with (refine upon_narrow_any _ under64s under59 ?_; intro y m py hy)
  go_ret
  exact ⟨_, _, _, _, rfl, hx, hy, D2.out.drewN _⟩

def wide (z : CN) : CN := (fconv .f32 .f64 z.1, fconv .f32 .f64 z.2)
def csq (z : CN) : Option Nat := fop .add .f64 (fop .mul .f64 z.1 z.1) (fop .mul .f64 z.2 z.2)
def ple (p q : Option Nat) : Bool := ford .f64 p q == some .lt || ford .f64 p q == some .eq
def one64 : Option Nat := cl .f64 4607182418800017408
def gain64 : Option Nat := cl .f64 4652218415073722368
/-- Is it a mode? -/
def okMode (m : MQ) : Bool := cfin (wide m.1) && cfin (wide m.2) && ple (csq (wide m.1)) one64 && ple (fabs .f64 (wide m.2).1) gain64 && ple (fabs .f64 (wide m.2).2) gain64

/-- A call that gives v; what lay below stays. -/
def RetBel (v : Value) (w : World) (e : Ending) (w' : World) : Prop := e = .returned v ∧ Below w.heap.size w w'

theorem underC : Try.prog.underlying 73 = some (.complex .f64) := by kernel_rfl
theorem underCs : (Try.prog.underlying 53).isSome = true := by kernel_rfl

set_option maxRecDepth 10000 in
set_option maxHeartbeats 400000 in
theorem finiteSingleSpec_c {z : CN} {a b : Nat} (ha : FV .f32 z.1 a) (hb : FV .f32 z.2 b) (w : World) :
    Calls Try.prog 34 #[.complex .f32 a b] w (Ret (.bool (cfin (wide z))) w) := by
  go_enter Try.func34, Try.ntmps34
  go_wp2_with (refine upon_widen_complex _ underCs underC ha hb ?_; intro x y n hx hy)
  refine (finiteSpec_c (z := wide z) ⟨hx, hy⟩ _).mono ?_
  rintro e _ ⟨rfl, m, rfl⟩
  go_wp2_with fail
  go_ret
  exact ⟨rfl, _, rfl⟩

set_option maxHeartbeats 400000 in
theorem l2Square_c {z : CN} {a b : Nat} (h : FC z a b) (w : World) :
    Calls Try.prog 35 #[.complex .f64 a b] w (RetF .f64 (csq z) w) := by
  obtain ⟨ha, hb⟩ := h
  go_enter Try.func35, Try.ntmps35
  go_wp2_with (first | (refine upon_flop _ (by decide) ha ha ?_; intro x n hx) | (refine upon_flop _ (by decide) hb hb ?_; intro y m hy) | (refine upon_flop _ (by decide) hx hy ?_; intro t k ht))
  go_ret
  exact ⟨_, rfl, ht, _, rfl⟩

set_option maxHeartbeats 400000 in
theorem l2Gain_c {z : CN} {a b : Nat} (h : FC z a b) (w : World) :
    Calls Try.prog 36 #[.complex .f64 a b] w (Ret (.bool (ple (fabs .f64 z.1) gain64 && ple (fabs .f64 z.2) gain64)) w) := by
  obtain ⟨ha, hb⟩ := h
  go_enter Try.func36, Try.ntmps36
  go_wp2_with fail
  refine (l1Abs_c ha _).mono ?_
  rintro e _ ⟨r, rfl, hr, n, rfl⟩
  have e1 : (FloatKind.f64.format.order r 4652218415073722368 == some .lt || FloatKind.f64.format.order r 4652218415073722368 == some .eq) = ple (fabs .f64 z.1) gain64 := by
    unfold ple gain64; rw [order_FV hr (FV.of_lt (k := .f64) (b := 4652218415073722368) (by decide))]
  cases h1 : ple (fabs .f64 z.1) gain64 <;> rw [h1] at e1
  · go_wp2_with fail
    go_ret
    exact ⟨by simp [h1], _, rfl⟩
  · go_wp2_with fail
    refine (l1Abs_c hb _).mono ?_
    rintro e _ ⟨s, rfl, hs, m, rfl⟩
    have e2 : (FloatKind.f64.format.order s 4652218415073722368 == some .lt || FloatKind.f64.format.order s 4652218415073722368 == some .eq) = ple (fabs .f64 z.2) gain64 := by
      unfold ple gain64; rw [order_FV hs (FV.of_lt (k := .f64) (b := 4652218415073722368) (by decide))]
    generalize ple (fabs .f64 z.2) gain64 = t at *
    go_wp2_with fail
    go_ret
    exact ⟨by simp [h1], _, rfl⟩

theorem below_new {w w' : World} {o : Obj} {n : Nat} (h : w' = (w.alloc o).drewN n) : Below w.heap.size w w' := by
  subst h
  exact below_drewN' ((Below.refl _ _).alloc (Nat.le_refl _) _) _

set_option maxRecDepth 10000 in
set_option maxHeartbeats 2000000 in
theorem isModeSpec_c {m : MQ} {x : MW} (h : FM m x) (w : World) :
    Calls Try.prog 22 #[x.val] w (RetBel (.bool (okMode m)) w) := by
  obtain ⟨ha, hb, hc, hd⟩ := h
  have OK : okMode m = (cfin (wide m.1) && cfin (wide m.2) && ple (csq (wide m.1)) one64 && ple (fabs .f64 (wide m.2).1) gain64 && ple (fabs .f64 (wide m.2).2) gain64) := rfl
  generalize okMode m = ok at *
  have OKH := Lib.hid OK
  clear OK
  go_enter Try.func22, Try.ntmps22
  go_wp2_with fail
  refine (finiteSingleSpec_c ha hb _).mono ?_
  rintro e _ ⟨rfl, n1, rfl⟩
  cases h1 : cfin (wide m.1)
  · go_wp2_with fail
    go_ret
    exact ⟨by rw [OKH.out, h1]; rfl, below_new rfl⟩
  · go_wp2_with fail
    refine (finiteSingleSpec_c hc hd _).mono ?_
    rintro e _ ⟨rfl, n2, rfl⟩
    cases h2 : cfin (wide m.2)
    · go_wp2_with fail
      go_ret
      exact ⟨by rw [OKH.out, h2]; simp, below_new rfl⟩
    · go_wp2_with (refine upon_widen_complex _ underCs underC ha hb ?_; intro X Y n3 hX hY)
      refine (l2Square_c (z := wide m.1) ⟨hX, hY⟩ _).mono ?_
      rintro e _ ⟨s, rfl, hs, n4, rfl⟩
      have e1 : (FloatKind.f64.format.order s 4607182418800017408 == some .lt || FloatKind.f64.format.order s 4607182418800017408 == some .eq) = ple (csq (wide m.1)) one64 := by
        unfold ple one64; rw [order_FV hs (FV.of_lt (k := .f64) (b := 4607182418800017408) (by decide))]
      cases h3 : ple (csq (wide m.1)) one64 <;> rw [h3] at e1
      · go_wp2_with fail
        go_ret
        exact ⟨by rw [OKH.out, h3]; simp, below_new rfl⟩
      · go_wp2_with (refine upon_widen_complex _ underCs underC hc hd ?_; intro X' Y' n5 hX' hY')
        refine (l2Gain_c (z := wide m.2) ⟨hX', hY'⟩ _).mono ?_
        rintro e _ ⟨rfl, n6, rfl⟩
        go_wp2_with fail
        go_ret
        exact ⟨by rw [OKH.out, h1, h2, h3]; rfl, below_new rfl⟩
end Go.Proofs.Ytfhaopdaakjghaa
