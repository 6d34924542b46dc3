import Derived.Test.YtfhaopdaakjghaaAnyS
namespace Go.Proofs.Ytfhaopdaakjghaa
open Go.RowKit Go.Fl Go.BigFrame

/-- States that are words. -/
def ZsW (zs : List ZW) : Prop := ∀ z ∈ zs, z.1 < 2 ^ 32 ∧ z.2 < 2 ^ 32
theorem ZsW.set {zs : List ZW} (h : ZsW zs) (i : Nat) {p q : Nat} (hp : p < 2 ^ 32) (hq : q < 2 ^ 32) : ZsW (zs.set i (p, q)) := fun z hz => by
  rcases List.mem_or_eq_of_mem_set hz with h1 | h1
  · exact h z h1
  · rw [h1]; exact ⟨hp, hq⟩

set_option maxRecDepth 10000 in
set_option maxHeartbeats 4000000 in
theorem stepAny_c {ma za : Option Addr} {mc zc base : Nat} {xs : List MW} {zs : List ZW} {x : Nat} (w : World) (hm : MsP w ma xs) (hl : xs.length ≤ 16) (hw : ∀ m ∈ xs, wfX m) (hz : ZsW zs) (hx : x < 2 ^ 32) (hzl : zs.length = xs.length)
    (hown : w.ownsRow base 53 1 (.slice za xs.length zc) xs.length (zvals zs)) (hne : xs.length ≠ 0 → ∀ a, ma = some a → some a.block ≠ Value.ownBlock (.slice za xs.length zc)) :
    Calls Try.prog 26 #[.slice ma xs.length mc, .slice za xs.length zc, .float .f32 x] w fun e w' =>
      ∃ r c ys, e = .returned (.float .f32 r) ∧ FV .f32 c r ∧ ZsW ys ∧ ys.length = xs.length ∧ w'.ownsRow base 53 1 (.slice za xs.length zc) xs.length (zvals ys) ∧ w.grownBy w' (Value.ownBlock (.slice za xs.length zc)) := by
  have HM := Lib.hid hm
  have HW := Lib.hid hw
  have HO := Lib.hid hown
  have HN := Lib.hid hne
  have HX := Lib.hid hx
  have HZ := Lib.hid hz
  clear hm hown hne hw hx hz
  have t0 := store_new0
  have t1 := store_new1
  have u3 := under3
  go_enter Try.func26, Try.ntmps26
  go_wp2_with fail
  go_loopw [7, 12] (fun s i wr => ∃ (I : Nat) (ys : List ZW), i = .int .i64 I ∧ I ≤ xs.length ∧ (∃ r c, s = .float .f32 r ∧ FV .f32 c r) ∧ Hid (ZsW ys) ∧ ys.length = xs.length ∧ Hid (wr.ownsRow base 53 1 (.slice za xs.length zc) xs.length (zvals ys)) ∧ Hid (w.grownBy wr (Value.ownBlock (.slice za xs.length zc)))) (fun _ i _ => xs.length - (intOf i).toNat)
  case atStart => exact ⟨0, zs, rfl, Nat.zero_le _, ⟨0, _, rfl, FV.of_lt (k := .f32) (b := 0) (by decide)⟩, HZ, hzl, HO, Lib.hid ⟨rfl, rfl, rfl, Nat.le_refl _, fun _ _ _ => rfl⟩⟩
  case round =>
    clear HO HZ
    obtain ⟨I, ys, rfl, hI, ⟨rs, cs, rfl, hrs⟩, hS, hyl, hO, hG⟩ := hrel
    rcases Nat.lt_or_eq_of_le hI with hlt | heq
    · have d1 : decide ((I : Int) < (xs.length : Int)) = true := by simpa using hlt
      have hII : (I : Int) < (xs.length : Int) := by omega
      have hIy : I < ys.length := by omega
      obtain ⟨g, off, rfl, c0, c1, hg⟩ := (HM.out.grown hG.out (HN.out (by omega))) I hlt
      obtain ⟨gz, hza⟩ : ∃ g', za = some ⟨g', 0, none⟩ := by
        rcases hO.out.2 with ⟨e, h0⟩ | ⟨g', c', cur, e, _⟩
        · omega
        · exact ⟨g', by injection e⟩
      subst hza
      have hgz := (hO.out.lt gz rfl).2
      have cz : wr.cell? ⟨gz, I, none⟩ = some (.complex .f32 ys[I].1 ys[I].2) := by rw [hO.out.cellAt _ (by omega)]; exact zvals_get hIy
      have fz := hO.out.frozenAt I
      have CALL := Lib.hid (fun W => stepModeAny_c (HW.out _ (List.getElem_mem hlt)) (hS.out _ (List.getElem_mem hIy)) HX.out W)
      generalize xs[I] = m at *
      generalize ys[I] = z at *
      obtain ⟨m1, m2, m3, m4⟩ := m
      obtain ⟨z1, z2⟩ := z
      go_upto_region 5 with fail
      have M3 := heap_alloc_new wr (.cells #[.complex .f32 m1 m2, .complex .f32 m3 m4] 55)
      have hbel : Below wr.heap.size wr (wr.alloc (.cells #[.complex .f32 m1 m2, .complex .f32 m3 m4] 55)) := (Below.refl _ _).alloc (Nat.le_refl _) _
      have hsz : wr.heap.size < (wr.alloc (.cells #[.complex .f32 m1 m2, .complex .f32 m3 m4] 55)).heap.size := by rw [World.size_alloc]; omega
      have hO3 := Lib.hid (hO.out.alloc (.cells #[.complex .f32 m1 m2, .complex .f32 m3 m4] 55))
      have hG3 := Lib.hid (grownBy_trans hG.out ((show wr.grownBy (wr.alloc (.cells #[.complex .f32 m1 m2, .complex .f32 m3 m4] 55)) (Value.ownBlock (.slice (some ⟨gz, 0, none⟩) xs.length zc)) from grownBy_alloc _ _ _)))
      generalize wr.alloc (.cells #[.complex .f32 m1 m2, .complex .f32 m3 m4] 55) = W3 at *
      have k0 := cur_cell M3 0
      have k1 := cur_cell M3 1
      simp at k0 k1
      have kz : W3.cell? ⟨gz, I, none⟩ = some (.complex .f32 z1 z2) := (hbel.cell (p := ⟨gz, I, none⟩) hgz).trans cz
      have kf : W3.frozen? ⟨gz, I, none⟩ = false := (hbel.frozen (p := ⟨gz, I, none⟩) hgz).trans fz
      generalize wr.heap.size = M at *
      have hgz3 : gz < W3.heap.size := by omega
      go_region_with (first | (go_at_call 40; refine Calls.mono (CALL.out _) ?_; rintro e W8 ⟨r1, r2, rfl, lt1, lt2, b8⟩; have kz8 := (b8.cell (p := ⟨gz, I, none⟩) hgz3).trans kz; have kf8 := (b8.frozen (p := ⟨gz, I, none⟩) hgz3).trans kf; have hst8 := run_store_one (P := Try.prog) (v := .complex .f32 r1 r2) rfl kz8 kf8))
      all_goals
        have g8 : W3.grownBy W8 none := ⟨b8.os, b8.tape, b8.output, b8.size, fun k hk _ => b8.block k hk⟩
        have hO8 := hO3.out.kept g8 (by right; simp [Value.ownBlock])
        have hO9 := (hO8.stored I (.complex .f32 r1 r2)).1
        rw [show (Value.complex .f32 r1 r2) = .complex .f32 (r1, r2).1 (r1, r2).2 from rfl, zvals_set] at hO9
        have hG9 := Lib.hid (grownBy_trans hG3.out (show W3.grownBy (W8.setCell ⟨gz, I, none⟩ (.complex .f32 r1 r2)) (Value.ownBlock (.slice (some ⟨gz, 0, none⟩) xs.length zc)) from
          ⟨b8.os, b8.tape, b8.output, by have := b8.size; simp [World.setCell]; exact this, fun k hk hk2 => (Below.heap_setCell _ _ _ _ (fun e => hk2 (by rw [e]; rfl))).trans (b8.block k hk)⟩))
        have c9 : (W8.setCell ⟨gz, I, none⟩ (.complex .f32 r1 r2)).cell? ⟨gz, I, none⟩ = some (.complex .f32 r1 r2) := by
          have h9 := hO9.cellAt I (by omega)
          rw [zvals_get (show I < (ys.set I (r1, r2)).length by rw [List.length_set]; exact hIy), List.getElem_set_self] at h9
          exact h9
        have hO9 := Lib.hid hO9
        have hr1 : FV .f32 (cl .f32 r1) r1 := FV.of_lt (k := .f32) lt1
        have SS := Lib.hid (hS.out.set I lt1 lt2)
        have SLn : (ys.set I (r1, r2)).length = xs.length := by rw [List.length_set]; exact hyl
        clear hO8 g8 hst8 kf8 kz8 b8 k0 k1 kz kf hbel
        generalize W8.setCell ⟨gz, I, none⟩ (.complex .f32 r1 r2) = W9 at *
        go_wp2_with (refine upon_flop _ (by decide) hrs hr1 ?_; intro y ny hy)
        exact ⟨⟨I + 1, ys.set I (r1, r2), by go_num, hlt, ⟨y, _, rfl, hy⟩, SS, SLn, Lib.hid hO9.out, Lib.hid (grownBy_drewN hG9.out ny)⟩, by simp [intOf]; omega⟩
    · subst heq
      have d1 : decide ((xs.length : Int) < (xs.length : Int)) = false := by simp
      go_wp2_with fail
      go_ret
      exact ⟨rs, cs, ys, rfl, hrs, hS.out, hyl, hO.out, hG.out⟩
end Go.Proofs.Ytfhaopdaakjghaa
