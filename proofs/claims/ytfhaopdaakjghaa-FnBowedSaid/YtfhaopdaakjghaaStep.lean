import Derived.Test.YtfhaopdaakjghaaGain
import Derived.Test.YtfhaopdaakjghaaMulS
import Derived.Test.YtfhaopdaakjghaaDamp
import Derived.Deep.QuietTactic
import Derived.BigQuiet
namespace Go.Proofs.Ytfhaopdaakjghaa
open Go.RowKit Go.Fl Go.BigFrame

abbrev ZW := Nat × Nat
structure ZLim (n : Nat) (z : ZW) : Prop where
  re : Lim .f32 n z.1
  im : Lim .f32 n z.2
theorem ZLim.mono {m n : Nat} {z : ZW} (h : ZLim m z) (hn : m ≤ n) : ZLim n z := ⟨h.re.mono hn, h.im.mono hn⟩

/-- A state multiplied by a mode's pole, in words. -/
def reW (z : ZW) (m : MW) : Nat := fo .sub .f64 (fo .mul .f64 (wd z.1) (wd m.a)) (fo .mul .f64 (wd z.2) (wd m.b))
def imW (z : ZW) (m : MW) : Nat := fo .add .f64 (fo .mul .f64 (wd z.1) (wd m.b)) (fo .mul .f64 (wd z.2) (wd m.a))

/-- One step of a mode, in words. -/
def stepW (m : MW) (z : ZW) (x : Nat) : ZW := (fo .add .f32 (nw (reW z m)) (fo .mul .f32 m.c x), fo .add .f32 (nw (imW z m)) (fo .mul .f32 m.d x))

theorem step_words {m : MW} {z : ZW} {x n : Nat} (hm : MLim m) (hz : ZLim n z) (hx : Lim .f32 1 x) (h0 : 10 ≤ n) (hn : n ≤ 100) :
    CMul (wd z.1) (wd z.2) (wd m.a) (wd m.b) (reW z m) (imW z m) ∧ Lim .f64 (n + 1) (reW z m) ∧ Lim .f64 (n + 1) (imW z m) ∧
    floatBits .mul .f32 m.c x = some (fo .mul .f32 m.c x) ∧ floatBits .mul .f32 m.d x = some (fo .mul .f32 m.d x) ∧
    floatBits .add .f32 (nw (reW z m)) (fo .mul .f32 m.c x) = some (stepW m z x).1 ∧ floatBits .add .f32 (nw (imW z m)) (fo .mul .f32 m.d x) = some (stepW m z x).2 ∧ ZLim (n + 2) (stepW m z x) := by
  have a := lim_wd hz.re (by omega)
  have b := lim_wd hz.im (by omega)
  have c := lim_wd hm.a (by omega)
  have d := lim_wd hm.b (by omega)
  obtain ⟨p1, p2⟩ := lim_mul a c (by omega)
  obtain ⟨q1, q2⟩ := lim_mul b d (by omega)
  obtain ⟨r1, r2⟩ := lim_mul a d (by omega)
  obtain ⟨s1, s2⟩ := lim_mul b c (by omega)
  obtain ⟨u1, u2⟩ := lim_sub p2 q2 (by omega)
  obtain ⟨v1, v2⟩ := lim_add r2 s2 (by omega)
  have g1 := lim_nw u2 (by omega)
  have g2 := lim_nw v2 (by omega)
  obtain ⟨k1, k2⟩ := lim_mul hm.c hx (by omega)
  obtain ⟨l1, l2⟩ := lim_mul hm.d hx (by omega)
  obtain ⟨t1, t2⟩ := lim_add g1 (k2.mono (show 10 + 1 ≤ n + 0 + 1 by omega)) (by omega)
  obtain ⟨w1, w2⟩ := lim_add g2 (l2.mono (show 10 + 1 ≤ n + 0 + 1 by omega)) (by omega)
  exact ⟨⟨_, _, _, _, p1, q1, r1, s1, u1, v1⟩, u2, v2, k1, l1, t1, w1, t2, w2⟩

set_option maxRecDepth 10000 in
set_option maxHeartbeats 1000000 in
theorem stepMode_c {m : MW} {z : ZW} {x n : Nat} (hm : MLim m) (hz : ZLim n z) (hx : Lim .f32 1 x) (h0 : 10 ≤ n) (hn : n ≤ 100) (w : World) :
    Calls Try.prog 40 #[.agg #[.complex .f32 m.a m.b, .complex .f32 m.c m.d], .complex .f32 z.1 z.2, .float .f32 x] w (RetBel (.complex .f32 (stepW m z x).1 (stepW m z x).2) w) := by
  obtain ⟨C, l1, l2, k1, k2, a1, a2, _⟩ := step_words hm hz hx h0 hn
  have M1 := Lib.hid (fun W => multiplyS_c (hz.re.fin (by omega)) (hz.im.fin (by omega)) (hm.a.fin (by omega)) (hm.b.fin (by omega)) C (l1.fin (by omega)) (l2.fin (by omega)) ((lim_nw l1 (by omega)).fin (by omega)) ((lim_nw l2 (by omega)).fin (by omega)) W)
  have M2 := Lib.hid (fun W => scaleSingle_c k1 k2 W)
  have M3 := Lib.hid (fun W => addSingle_c a1 a2 W)
  clear C l1 l2 k1 k2 a1 a2
  generalize (stepW m z x).1 = r1 at *
  generalize (stepW m z x).2 = r2 at *
  generalize nw (reW z m) = p1 at *
  generalize nw (imW z m) = p2 at *
  generalize fo .mul .f32 m.c x = q1 at *
  generalize fo .mul .f32 m.d x = q2 at *
  obtain ⟨v1, v2, v3, v4⟩ := m
  obtain ⟨z1, z2⟩ := z
  clear hm hz hx
  dsimp only at *
  go_enter Try.func40, Try.ntmps40
  go_upto_region 1 with fail
  have B0 : Below w.heap.size w (w.alloc (.cells #[.complex .f32 v1 v2, .complex .f32 v3 v4] 55)) := (Below.refl _ _).alloc (Nat.le_refl _) _
  have M0 := heap_alloc_new w (.cells #[.complex .f32 v1 v2, .complex .f32 v3 v4] 55)
  generalize w.alloc (.cells #[.complex .f32 v1 v2, .complex .f32 v3 v4] 55) = W0 at *
  have c0 := cur_cell M0 0
  have c1 := cur_cell M0 1
  simp at c0 c1
  go_big_quiet ((first | (go_at_call 47; exact Calls.quiet_of_same (M1.out _)) | (go_at_call 48; exact Calls.quiet_of_same (M2.out _)) | (go_at_call 46; exact Calls.quiet_of_same (M3.out _))))
  go_wp2_with fail
  go_ret
  exact ⟨rfl, below_drewN' B0 _⟩
end Go.Proofs.Ytfhaopdaakjghaa
