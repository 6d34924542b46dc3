import Derived.Test.YtfhaopdaakjghaaStepG
import Derived.Test.YtfhaopdaakjghaaMul
import Derived.Test.YtfhaopdaakjghaaModeB
import Derived.Test.YtfhaopdaakjghaaNarrow
import Derived.Deep.RegionWith
namespace Go.Proofs.Ytfhaopdaakjghaa
open Go.RowKit Go.Fl Go.BigFrame

/-- A call that gives some complex number. -/
def RetZ (w : World) (e : Ending) (w' : World) : Prop := ∃ p q cp cq, e = .returned (.complex .f32 p q) ∧ FV .f32 cp p ∧ FV .f32 cq q ∧ ∃ n, w' = w.drewN n

set_option maxRecDepth 10000 in
set_option maxHeartbeats 1000000 in
theorem narrowAny_c (a b : Nat) (w : World) : Calls Try.prog 55 #[.complex .f64 a b] w (RetZ w) := by
  go_enter Try.func55, Try.ntmps55
  go_wp2_with (refine upon_narrow_any _ under50s under35 ?_; intro r n p hr)
  rename_i r1 n1 p1 h1
  go_ret
  exact ⟨_, _, _, _, rfl, h1, hr, _, rfl⟩

set_option maxRecDepth 10000 in
set_option maxHeartbeats 1000000 in
theorem scaleAny_c {a b x : Nat} {ca cb cx : Option Nat} (ha : FV .f32 ca a) (hb : FV .f32 cb b) (hx : FV .f32 cx x) (w : World) : Calls Try.prog 48 #[.complex .f32 a b, .float .f32 x] w (RetZ w) := by
  go_enter Try.func48, Try.ntmps48
  go_wp2_with (first | (refine upon_flop _ (by decide) ha hx ?_; intro p n1 hp) | (refine upon_flop _ (by decide) hb hx ?_; intro q n2 hq))
  go_ret
  exact ⟨_, _, _, _, rfl, hp, hq, _, rfl⟩

set_option maxRecDepth 10000 in
set_option maxHeartbeats 1000000 in
theorem addAny_c {a b c d : Nat} {ca cb cc cd : Option Nat} (ha : FV .f32 ca a) (hb : FV .f32 cb b) (hc : FV .f32 cc c) (hd : FV .f32 cd d) (w : World) : Calls Try.prog 46 #[.complex .f32 a b, .complex .f32 c d] w (RetZ w) := by
  go_enter Try.func46, Try.ntmps46
  go_wp2_with (first | (refine upon_flop _ (by decide) ha hc ?_; intro p n1 hp) | (refine upon_flop _ (by decide) hb hd ?_; intro q n2 hq))
  go_ret
  exact ⟨_, _, _, _, rfl, hp, hq, _, rfl⟩

set_option maxRecDepth 10000 in
set_option maxHeartbeats 1000000 in
theorem multiplyAny_c {z u : CN} {a b c d : Nat} (ha : FV .f32 z.1 a) (hb : FV .f32 z.2 b) (hc : FV .f32 u.1 c) (hd : FV .f32 u.2 d) (w : World) :
    Calls Try.prog 47 #[.complex .f32 a b, .complex .f32 c d] w (RetZ w) := by
  go_enter Try.func47, Try.ntmps47
  go_wp2_with fail
  refine (widenNumber_c ha hb _).mono ?_
  rintro e _ ⟨p1, p2, rfl, f1, n1, rfl⟩
  go_wp2_with fail
  refine (widenNumber_c hc hd _).mono ?_
  rintro e _ ⟨q1, q2, rfl, f2, n2, rfl⟩
  go_wp2_with fail
  refine (multiplyDouble_c f1 f2 _).mono ?_
  rintro e _ ⟨m1, m2, rfl, _, n3, rfl⟩
  go_wp2_with fail
  refine (narrowAny_c m1 m2 _).mono ?_
  rintro e _ ⟨r1, r2, c1, c2, rfl, g1, g2, n4, rfl⟩
  go_wp2_with fail
  go_ret
  exact ⟨_, _, _, _, rfl, g1, g2, _, rfl⟩

/-- A call that gives some complex number; what lay below stays. -/
def RetZB (w : World) (e : Ending) (w' : World) : Prop := ∃ p q, e = .returned (.complex .f32 p q) ∧ p < 2 ^ 32 ∧ q < 2 ^ 32 ∧ Below w.heap.size w w'

set_option maxRecDepth 10000 in
set_option maxHeartbeats 2000000 in
theorem stepModeAny_c {m : MW} {z : ZW} {x : Nat} (hm : wfX m) (hz : z.1 < 2 ^ 32 ∧ z.2 < 2 ^ 32) (hx : x < 2 ^ 32) (w : World) :
    Calls Try.prog 40 #[.agg #[.complex .f32 m.a m.b, .complex .f32 m.c m.d], .complex .f32 z.1 z.2, .float .f32 x] w (RetZB w) := by
  obtain ⟨v1, v2, v3, v4⟩ := m
  obtain ⟨z1, z2⟩ := z
  obtain ⟨h1, h2, h3, h4⟩ := hm
  have ha : FV .f32 (cl .f32 v1) v1 := FV.of_lt (k := .f32) h1
  have hb : FV .f32 (cl .f32 v2) v2 := FV.of_lt (k := .f32) h2
  have hc : FV .f32 (cl .f32 v3) v3 := FV.of_lt (k := .f32) h3
  have hd : FV .f32 (cl .f32 v4) v4 := FV.of_lt (k := .f32) h4
  have hz1 : FV .f32 (cl .f32 z1) z1 := FV.of_lt (k := .f32) hz.1
  have hz2 : FV .f32 (cl .f32 z2) z2 := FV.of_lt (k := .f32) hz.2
  have hxx : FV .f32 (cl .f32 x) x := FV.of_lt (k := .f32) hx
  have M1 := Lib.hid (fun W => multiplyAny_c (z := (cl .f32 z1, cl .f32 z2)) (u := (cl .f32 v1, cl .f32 v2)) hz1 hz2 ha hb W)
  have M2 := Lib.hid (fun W => scaleAny_c hc hd hxx W)
  clear h1 h2 h3 h4 hz hx
  dsimp only at *
  go_enter Try.func40, Try.ntmps40
  go_upto_region 1 with fail
  have B0 : Below w.heap.size w (w.alloc (.cells #[.complex .f32 v1 v2, .complex .f32 v3 v4] 55)) := (Below.refl _ _).alloc (Nat.le_refl _) _
  have M0 := heap_alloc_new w (.cells #[.complex .f32 v1 v2, .complex .f32 v3 v4] 55)
  generalize w.alloc (.cells #[.complex .f32 v1 v2, .complex .f32 v3 v4] 55) = W0 at *
  have c0 := cur_cell M0 0
  have c1 := cur_cell M0 1
  simp at c0 c1
  go_region_with (first | (go_at_call 47; refine Calls.mono (M1.out _) ?_; rintro e _ ⟨p1, p2, d1, d2, rfl, f1, f2, n1, rfl⟩) | (go_at_call 48; refine Calls.mono (M2.out _) ?_; rintro e _ ⟨q1, q2, d3, d4, rfl, g1, g2, n2, rfl⟩) | (go_at_call 46; refine Calls.mono (addAny_c f1 f2 g1 g2 _) ?_; rintro e _ ⟨s1, s2, d5, d6, rfl, k1, k2, n3, rfl⟩))
  all_goals
    go_wp2_with fail
    go_ret
    exact ⟨_, _, rfl, k1.2, k2.2, below_drewN' B0 _⟩
end Go.Proofs.Ytfhaopdaakjghaa
