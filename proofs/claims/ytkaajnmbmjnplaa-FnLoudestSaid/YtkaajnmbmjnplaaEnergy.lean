import Derived.Test.YtkaajnmbmjnplaaSteps
namespace Go.Proofs.Ytkaajnmbmjnplaa
open Go.RowKit Go.Fl Go.BigFrame

theorem pwr_fin64 {n : Nat} (h : n ≤ 1000) : pwr .f64 n < FloatKind.f64.format.infRung := by
  have h1 : pwr .f64 n ≤ pwr .f64 1000 := Nat.add_le_add_right (Nat.mul_le_mul_right _ h) _
  exact Nat.lt_of_le_of_lt h1 (by decide)

theorem Lim.fin64 {n x : Nat} (h : Lim .f64 n x) (hn : n ≤ 1000) : Fl.fin .f64 x := Nat.lt_of_le_of_lt h.2 (pwr_fin64 hn)

theorem lim_mul64 {m n x y : Nat} (hx : Lim .f64 m x) (hy : Lim .f64 n y) (h : m + n ≤ 1000) : floatBits .mul .f64 x y = some (fo .mul .f64 x y) ∧ Lim .f64 (m + n) (fo .mul .f64 x y) := by
  obtain ⟨r, h1, h2, _, h4⟩ := mul_word (hx.fin64 (by omega)) (hy.fin64 (by omega))
  rw [fo_of h1]
  refine ⟨h1, h2, ?_⟩
  obtain ⟨d, hd1, hd2, hd3⟩ := dep_ex .f64
  rw [h4]
  have hle := Nat.mul_le_mul (V_le FloatKind.f64.format hx.2) (V_le FloatKind.f64.format hy.2)
  rw [hd3, hd3, ← Nat.pow_add, show d + m + (d + n) = d + (m + n) + d by omega, Nat.pow_add 2 (d + (m + n)) d, ← hd3] at hle
  have h5 := Rc_mono FloatKind.f64.format hle (c := 2 * FloatKind.f64.format.leastPlace) (by have := least_le .f64; omega)
  rw [hd2] at h5 ⊢
  rw [Rc_exact FloatKind.f64.format (pwr_fin64 h)] at h5
  exact h5

theorem lim_add64 {n x y : Nat} (hx : Lim .f64 n x) (hy : Lim .f64 n y) (h : n + 1 ≤ 1000) : floatBits .add .f64 x y = some (fo .add .f64 x y) ∧ Lim .f64 (n + 1) (fo .add .f64 x y) := by
  obtain ⟨r, h1, h2, _, _, h4⟩ := add_word (hx.fin64 (by omega)) (hy.fin64 (by omega))
  rw [fo_of h1]
  refine ⟨h1, h2, ?_⟩
  obtain ⟨d, hd1, hd2, hd3⟩ := dep_ex .f64
  have g1 := V_le FloatKind.f64.format hx.2
  have g2 := V_le FloatKind.f64.format hy.2
  have h3 : V FloatKind.f64.format (pwr .f64 (n + 1)) = V FloatKind.f64.format (pwr .f64 n) + V FloatKind.f64.format (pwr .f64 n) := by
    rw [hd3, hd3, ← Nat.add_assoc, Nat.pow_succ]; omega
  have hT : (iv FloatKind.f64.format x + iv FloatKind.f64.format y).natAbs ≤ V FloatKind.f64.format (pwr .f64 (n + 1)) := by
    have i1 := iv_abs FloatKind.f64.format x
    have i2 := iv_abs FloatKind.f64.format y
    omega
  have h5 := Rc_mono FloatKind.f64.format hT (c := FloatKind.f64.format.leastPlace) (Int.le_refl _)
  rw [Rc_same (pwr_fin64 h)] at h5
  rw [h4]
  exact h5

/-- The energy of numbers, in words. -/
def energyW (os : List Nat) : Nat := os.foldl (fun s x => fo .add .f64 s (fo .mul .f64 (wd x) (wd x))) 0
theorem energyW_succ {os : List Nat} {i x : Nat} (h : os[i]? = some x) : energyW (os.take (i + 1)) = fo .add .f64 (energyW (os.take i)) (fo .mul .f64 (wd x) (wd x)) := by
  unfold energyW
  rw [List.take_add_one, h, List.foldl_append]
  rfl

theorem energy_lim {os : List Nat} (h : ∀ x ∈ os, Lim .f32 100 x) (hl : os.length ≤ 500) : ∀ i, i ≤ os.length → Lim .f64 (200 + i) (energyW (os.take i)) ∧ (∀ hi : i < os.length, floatBits .mul .f64 (wd os[i]) (wd os[i]) = some (fo .mul .f64 (wd os[i]) (wd os[i])) ∧ floatBits .add .f64 (energyW (os.take i)) (fo .mul .f64 (wd os[i]) (wd os[i])) = some (energyW (os.take (i + 1)))) := by
  have sq : ∀ i (hi : i < os.length), floatBits .mul .f64 (wd os[i]) (wd os[i]) = some (fo .mul .f64 (wd os[i]) (wd os[i])) ∧ Lim .f64 200 (fo .mul .f64 (wd os[i]) (wd os[i])) := fun i hi => by
    have a := lim_wd (h _ (List.getElem_mem hi)) (by omega)
    obtain ⟨p, q⟩ := lim_mul64 a a (by omega)
    exact ⟨p, q.mono (by omega)⟩
  intro i
  induction i with
  | zero =>
    intro _
    have h0 : Lim .f64 200 (energyW (os.take 0)) := Lim.zero _ _
    refine ⟨h0, fun hi => ⟨(sq 0 hi).1, ?_⟩⟩
    rw [energyW_succ (List.getElem?_eq_getElem hi)]
    exact (lim_add64 h0 (sq 0 hi).2 (by omega)).1
  | succ i ih =>
    intro hi
    obtain ⟨a, _⟩ := ih (by omega)
    have h1 : Lim .f64 (200 + (i + 1)) (energyW (os.take (i + 1))) := by
      rw [energyW_succ (List.getElem?_eq_getElem (show i < os.length by omega))]
      exact (lim_add64 a ((sq i (by omega)).2.mono (by omega)) (by omega)).2
    refine ⟨h1, fun hi => ⟨(sq _ hi).1, ?_⟩⟩
    rw [energyW_succ (List.getElem?_eq_getElem hi)]
    exact (lim_add64 h1 ((sq _ hi).2.mono (by omega)) (by omega)).1

set_option maxRecDepth 10000 in
set_option maxHeartbeats 2000000 in
theorem energy_c {a : Option Addr} {cap : Nat} {os : List Nat} (w : World) (h : FsP w .f32 a os.length os) (hl : os.length ≤ 500) (hx : ∀ x ∈ os, Lim .f32 100 x) :
    Calls Try.prog 19 #[.slice a os.length cap] w fun e w' => e = .returned (.float .f64 (energyW os)) ∧ w' = w := by
  have EL := Lib.hid (energy_lim hx hl)
  have HX := Lib.hid hx
  have HS := Lib.hid h.2.1
  clear h hx
  have u3 := under3
  go_enter Try.func19, Try.ntmps19
  go_wp2_with fail
  go_loop [3, 9] (fun s i => ∃ I : Nat, i = .int .i64 I ∧ I ≤ os.length ∧ s = .float .f64 (energyW (os.take I))) (fun _ i => os.length - (intOf i).toNat)
  case atStart => exact ⟨0, rfl, Nat.zero_le _, rfl⟩
  case round =>
    obtain ⟨I, rfl, hI, rfl⟩ := hrel
    rcases Nat.lt_or_eq_of_le hI with hlt | heq
    · have d1 : decide ((I : Int) < (os.length : Int)) = true := by simpa using hlt
      obtain ⟨g, off, rfl, c0, _⟩ := HS.out I hlt
      obtain ⟨m1, m2⟩ := (EL.out I hI).2 hlt
      have fx := (HX.out _ (List.getElem_mem hlt)).fin (by omega)
      have e1 := fun W => run_convert_float_float (P := Try.prog) W 35 50 .f32 .f64 _ _ under35s under50 (conv_wd fx)
      have e2 := fun W => run_float_arith (P := Try.prog) W .mul 50 .f64 _ _ _ m1
      have e3 := fun W => run_float_arith (P := Try.prog) W .add 50 .f64 _ _ _ m2
      clear m1 m2 fx
      generalize fo .mul .f64 (wd os[I]) (wd os[I]) = sq at *
      generalize wd os[I] = wx at *
      generalize os[I] = x at *
      go_wp2_with fail
      exact ⟨⟨I + 1, by go_num, hlt, rfl⟩, by simp [intOf]; omega⟩
    · subst heq
      have d1 : decide ((os.length : Int) < (os.length : Int)) = false := by simp
      go_wp2_with fail
      go_ret
      exact ⟨rfl, rfl⟩
end Go.Proofs.Ytkaajnmbmjnplaa
