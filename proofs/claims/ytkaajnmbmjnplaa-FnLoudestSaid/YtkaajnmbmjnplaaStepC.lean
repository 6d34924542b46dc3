import Derived.Test.YtkaajnmbmjnplaaSteps
import Derived.Test.YtkaajnmbmjnplaaBodyF
import Derived.Deep.RegionWith
namespace Go.Proofs.Ytkaajnmbmjnplaa
open Go.RowKit Go.Fl Go.BigFrame

theorem MsP.grown {w w' : World} {row : Option Nat} {a : Option Addr} {xs : List MW} (h : MsP w a xs) (hg : w.grownBy w' row) (hne : ∀ x, a = some x → some x.block ≠ row) : MsP w' a xs := fun i hi => by
  obtain ⟨g, off, e, h1, h2, h3⟩ := h i hi
  have hb := hg.block g h3 (hne _ e)
  exact ⟨g, off, e, by rw [World.cell?_of_block hb]; exact h1, by rw [World.cell?_of_block hb]; exact h2, Nat.lt_of_lt_of_le h3 hg.size⟩

set_option maxRecDepth 10000 in
set_option maxHeartbeats 4000000 in
theorem step_c {ma za : Option Addr} {mc zc base : Nat} {xs : List MW} {zs : List ZW} {x n : Nat} (w : World) (hm : MsP w ma xs) (hl : xs.length ≤ 16) (hx : ∀ m ∈ xs, MLim m) (hz : ZsLim n zs) (hzl : zs.length = xs.length) (hX : Lim .f32 1 x) (h0 : 10 ≤ n) (hn : n ≤ 80)
    (hown : w.ownsRow base 31 1 (.slice za xs.length zc) xs.length (zvals zs)) (hne : xs.length ≠ 0 → ∀ a, ma = some a → some a.block ≠ Value.ownBlock (.slice za xs.length zc)) :
    Calls Try.prog 55 #[.slice ma xs.length mc, .slice za xs.length zc, .float .f32 x] w fun e w' =>
      e = .returned (.float .f32 (outW (stepsW xs zs x))) ∧ w'.ownsRow base 31 1 (.slice za xs.length zc) xs.length (zvals (stepsW xs zs x)) ∧ w.grownBy w' (Value.ownBlock (.slice za xs.length zc)) := by
  have SL := stepsW_length (x := x) hzl
  have OL := Lib.hid (outW_lim (n := n + 2) (zs := stepsW xs zs x) (stepsW_lim hx hz hX h0 (by omega)) (by rw [SL]; omega))
  have SG := Lib.hid (fun i (h1 : i < xs.length) (h2 : i < zs.length) => stepsW_get (x := x) h1 h2)
  have SM := Lib.hid (fun i (h1 : i < xs.length) (h2 : i < zs.length) W => stepMode_c (hx _ (List.getElem_mem h1)) (hz _ (List.getElem_mem h2)) hX h0 (by omega) W)
  generalize hss : stepsW xs zs x = ss at *
  clear hss
  have HM := Lib.hid hm
  have HO := Lib.hid hown
  have HN := Lib.hid hne
  clear hm hown hne hx hz hX
  have t0 := store_new0
  have t1 := store_new1
  have u3 := under3
  go_enter Try.func55, Try.ntmps55
  go_wp2_with fail
  go_loopw [7, 12] (fun s i wr => ∃ (I : Nat) (ys : List ZW), i = .int .i64 I ∧ I ≤ xs.length ∧ s = .float .f32 (outW (ss.take I)) ∧ Hid (Stepped I ys ss zs) ∧ Hid (wr.ownsRow base 31 1 (.slice za xs.length zc) xs.length (zvals ys)) ∧ Hid (w.grownBy wr (Value.ownBlock (.slice za xs.length zc)))) (fun _ i _ => xs.length - (intOf i).toNat)
  case atStart => exact ⟨0, zs, rfl, Nat.zero_le _, rfl, Lib.hid (Stepped.start _ _), HO, Lib.hid ⟨rfl, rfl, rfl, Nat.le_refl _, fun _ _ _ => rfl⟩⟩
  case round =>
    clear HO
    obtain ⟨I, ys, rfl, hI, rfl, hS, hO, hG⟩ := hrel
    rcases Nat.lt_or_eq_of_le hI with hlt | heq
    · have d1 : decide ((I : Int) < (xs.length : Int)) = true := by simpa using hlt
      have hII : (I : Int) < (xs.length : Int) := by omega
      have hIz : I < zs.length := by omega
      obtain ⟨g, off, rfl, c0, c1, hg⟩ := (HM.out.grown hG.out (HN.out (by omega))) I hlt
      obtain ⟨gz, hza⟩ : ∃ g', za = some ⟨g', 0, none⟩ := by
        rcases hO.out.2 with ⟨e, h0⟩ | ⟨g', c', cur, e, _⟩
        · omega
        · exact ⟨g', by injection e⟩
      subst hza
      have hgz := (hO.out.lt gz rfl).2
      have hgne : g ≠ gz := fun e => HN.out (by omega) _ rfl (by rw [e]; rfl)
      have yI : (zvals ys)[I]? = some (.complex .f32 zs[I].1 zs[I].2) := by
        unfold zvals; rw [List.getElem?_map, hS.out.rest I (Nat.le_refl _), List.getElem?_eq_getElem hIz]; rfl
      have cz : wr.cell? ⟨gz, I, none⟩ = some (.complex .f32 zs[I].1 zs[I].2) := by rw [hO.out.cellAt _ (by omega)]; exact yI
      have fz := hO.out.frozenAt I
      have ST := Lib.hid (SG.out I hlt hIz)
      have CALL := Lib.hid (SM.out I hlt hIz)
      have SS := Lib.hid (hS.out.next hIz ST.out)
      have AD := Lib.hid ((OL.out I (by omega)).2 (by omega))
      have s_eq : ss[I]'(by omega) = stepW xs[I] zs[I] x := by
        have := ST.out
        rw [List.getElem?_eq_getElem (by omega)] at this
        injection this
      rw [s_eq] at AD
      clear s_eq yI ST
      generalize stepW xs[I] zs[I] x = r at *
      generalize xs[I] = m at *
      generalize zs[I] = z at *
      obtain ⟨m1, m2, m3, m4⟩ := m
      obtain ⟨z1, z2⟩ := z
      obtain ⟨r1, r2⟩ := r
      go_upto_region 5 with fail
      have M3 := heap_alloc_new wr (.cells #[.complex .f32 m1 m2, .complex .f32 m3 m4] 33)
      have hbel : Below wr.heap.size wr (wr.alloc (.cells #[.complex .f32 m1 m2, .complex .f32 m3 m4] 33)) := (Below.refl _ _).alloc (Nat.le_refl _) _
      have hsz : wr.heap.size < (wr.alloc (.cells #[.complex .f32 m1 m2, .complex .f32 m3 m4] 33)).heap.size := by rw [World.size_alloc]; omega
      have hO3 := Lib.hid (hO.out.alloc (.cells #[.complex .f32 m1 m2, .complex .f32 m3 m4] 33))
      have hG3 := Lib.hid (grownBy_trans hG.out ((show wr.grownBy (wr.alloc (.cells #[.complex .f32 m1 m2, .complex .f32 m3 m4] 33)) (Value.ownBlock (.slice (some ⟨gz, 0, none⟩) xs.length zc)) from grownBy_alloc _ _ _)))
      generalize wr.alloc (.cells #[.complex .f32 m1 m2, .complex .f32 m3 m4] 33) = W3 at *
      have k0 := cur_cell M3 0
      have k1 := cur_cell M3 1
      simp at k0 k1
      have kz : W3.cell? ⟨gz, I, none⟩ = some (.complex .f32 z1 z2) := (hbel.cell (p := ⟨gz, I, none⟩) hgz).trans cz
      have kf : W3.frozen? ⟨gz, I, none⟩ = false := (hbel.frozen (p := ⟨gz, I, none⟩) hgz).trans fz
      generalize wr.heap.size = M at *
      have hgz3 : gz < W3.heap.size := by omega
      go_region_with (first | (go_at_call 74; refine Calls.mono (CALL.out _) ?_; rintro e W8 ⟨rfl, b8⟩; have kz8 := (b8.cell (p := ⟨gz, I, none⟩) hgz3).trans kz; have kf8 := (b8.frozen (p := ⟨gz, I, none⟩) hgz3).trans kf; have hst8 := run_store_one (P := Try.prog) (v := .complex .f32 r1 r2) rfl kz8 kf8))
      all_goals
        have g8 : W3.grownBy W8 none := ⟨b8.os, b8.tape, b8.output, b8.size, fun k hk _ => b8.block k hk⟩
        have hO8 := hO3.out.kept g8 (by right; simp [Value.ownBlock])
        have hO9 := (hO8.stored I (.complex .f32 r1 r2)).1
        rw [show (Value.complex .f32 r1 r2) = .complex .f32 (r1, r2).1 (r1, r2).2 from rfl, zvals_set] at hO9
        have hG9 := Lib.hid (grownBy_trans hG3.out (show W3.grownBy (W8.setCell ⟨gz, I, none⟩ (.complex .f32 r1 r2)) (Value.ownBlock (.slice (some ⟨gz, 0, none⟩) xs.length zc)) from
          ⟨b8.os, b8.tape, b8.output, by have := b8.size; simp [World.setCell]; exact this, fun k hk hk2 => (Below.heap_setCell _ _ _ _ (fun e => hk2 (by rw [e]; rfl))).trans (b8.block k hk)⟩))
        have c9 : (W8.setCell ⟨gz, I, none⟩ (.complex .f32 r1 r2)).cell? ⟨gz, I, none⟩ = some (.complex .f32 r1 r2) := by
          have h9 := hO9.cellAt I (by omega)
          rw [zvals_get (show I < (ys.set I (r1, r2)).length by rw [List.length_set, hS.out.len]; exact hIz), List.getElem_set_self] at h9
          exact h9
        have hO9 := Lib.hid hO9
        have e1 := fun W => run_float_arith (P := Try.prog) W .add 35 .f32 _ _ _ AD.out
        clear hO8 g8 hst8 kf8 kz8 b8 k0 k1 kz kf hbel
        generalize W8.setCell ⟨gz, I, none⟩ (.complex .f32 r1 r2) = W9 at *
        go_wp2_with fail
        exact ⟨⟨I + 1, ys.set I (r1, r2), by go_num, hlt, rfl, SS, hO9, hG9⟩, by simp [intOf]; omega⟩
    · subst heq
      have d1 : decide ((xs.length : Int) < (xs.length : Int)) = false := by simp
      go_wp2_with fail
      go_ret
      have e : ys = ss := by
        have h := hS.out
        rw [← hzl] at h
        exact h.all (by rw [SL, hzl])
      refine ⟨?_, ?_, hG.out⟩
      · show Ending.returned (.float .f32 (outW (List.take xs.length ss))) = _
        rw [← SL, List.take_length]
      rw [← e]
      exact hO.out
end Go.Proofs.Ytkaajnmbmjnplaa
