import Derived.Test.YtfhaopdaakjghaaBowW
import Derived.Test.YtfhaopdaakjghaaBodyF
import Derived.Test.YtfhaopdaakjghaaEqS
import Derived.Deep.RegionWith
import Derived.Deep.QuietTactic
import Derived.BigQuiet
namespace Go.Proofs.Ytfhaopdaakjghaa
open Go.RowKit Go.Fl Go.BigFrame

theorem MsP.grown {w w' : World} {row : Option Nat} {a : Option Addr} {xs : List MW} (h : MsP w a xs) (hg : w.grownBy w' row) (hne : ∀ x, a = some x → some x.block ≠ row) : MsP w' a xs := fun i hi => by
  obtain ⟨g, off, e, h1, h2, h3⟩ := h i hi
  have hb := hg.block g h3 (hne _ e)
  exact ⟨g, off, e, by rw [World.cell?_of_block hb]; exact h1, by rw [World.cell?_of_block hb]; exact h2, Nat.lt_of_lt_of_le h3 hg.size⟩


set_option maxRecDepth 10000 in
set_option maxHeartbeats 1000000 in
theorem stepModeX_c {m : MW} {z : ZW} {x : Nat} (h : SReady m z x) (w : World) :
    Calls Try.prog 40 #[.agg #[.complex .f32 m.a m.b, .complex .f32 m.c m.d], .complex .f32 z.1 z.2, .float .f32 x] w (RetBel (.complex .f32 (stepW m z x).1 (stepW m z x).2) w) := by
  have M1 := Lib.hid (fun W => multiplyS_c h.zf.1 h.zf.2.1 h.zf.2.2.1 h.zf.2.2.2 h.mul h.dbl.1 h.dbl.2 h.sgl.1 h.sgl.2 W)
  have M2 := Lib.hid (fun W => scaleSingle_c h.gain.1 h.gain.2 W)
  have M3 := Lib.hid (fun W => addSingle_c h.sum.1 h.sum.2 W)
  clear h
  generalize (stepW m z x).1 = r1 at *
  generalize (stepW m z x).2 = r2 at *
  generalize nw (reW z m) = p1 at *
  generalize nw (imW z m) = p2 at *
  generalize fo .mul .f32 m.c x = q1 at *
  generalize fo .mul .f32 m.d x = q2 at *
  obtain ⟨v1, v2, v3, v4⟩ := m
  obtain ⟨z1, z2⟩ := z
  dsimp only at *
  go_enter Try.func40, Try.ntmps40
  go_upto_region 1 with fail
  have B0 : Below w.heap.size w (w.alloc (.cells #[.complex .f32 v1 v2, .complex .f32 v3 v4] 55)) := (Below.refl _ _).alloc (Nat.le_refl _) _
  have M0 := heap_alloc_new w (.cells #[.complex .f32 v1 v2, .complex .f32 v3 v4] 55)
  generalize w.alloc (.cells #[.complex .f32 v1 v2, .complex .f32 v3 v4] 55) = W0 at *
  have c0 := cur_cell M0 0
  have c1 := cur_cell M0 1
  simp at c0 c1
  go_big_quiet ((first | (go_at_call 47; exact Calls.quiet_of_same (M1.out _)) | (go_at_call 48; exact Calls.quiet_of_same (M2.out _)) | (go_at_call 46; exact Calls.quiet_of_same (M3.out _))))
  go_wp2_with fail
  go_ret
  exact ⟨rfl, below_drewN' B0 _⟩

/-- The sum of the outputs, as what a word stands for. -/
def outC (zs : List ZW) : Option Nat := zs.foldl (fun s z => fop .add .f32 s (cl .f32 z.1)) (some 0)
theorem outC_succ {zs : List ZW} {i : Nat} {z : ZW} (h : zs[i]? = some z) : outC (zs.take (i + 1)) = fop .add .f32 (outC (zs.take i)) (cl .f32 z.1) := by
  unfold outC
  rw [List.take_add_one, h, List.foldl_append]
  rfl

set_option maxRecDepth 10000 in
set_option maxHeartbeats 4000000 in
theorem stepG_c {ma za : Option Addr} {mc zc base : Nat} {xs : List MW} {zs : List ZW} {x : Nat} (w : World) (hm : MsP w ma xs) (hl : xs.length ≤ 16) (hR : ∀ i (h1 : i < xs.length) (h2 : i < zs.length), SReady xs[i] zs[i] x) (hzl : zs.length = xs.length)
    (hown : w.ownsRow base 53 1 (.slice za xs.length zc) xs.length (zvals zs)) (hne : xs.length ≠ 0 → ∀ a, ma = some a → some a.block ≠ Value.ownBlock (.slice za xs.length zc)) :
    Calls Try.prog 26 #[.slice ma xs.length mc, .slice za xs.length zc, .float .f32 x] w fun e w' =>
      ∃ r, e = .returned (.float .f32 r) ∧ FV .f32 (outC (stepsW xs zs x)) r ∧ w'.ownsRow base 53 1 (.slice za xs.length zc) xs.length (zvals (stepsW xs zs x)) ∧ w.grownBy w' (Value.ownBlock (.slice za xs.length zc)) := by
  have SL := stepsW_length (x := x) hzl
  have SG := Lib.hid (fun i (h1 : i < xs.length) (h2 : i < zs.length) => stepsW_get (x := x) h1 h2)
  have SM := Lib.hid (fun i (h1 : i < xs.length) (h2 : i < zs.length) W => stepModeX_c (hR i h1 h2) W)
  have LT := Lib.hid (fun i (h1 : i < xs.length) (h2 : i < zs.length) => (hR i h1 h2).lt)
  generalize hss : stepsW xs zs x = ss at *
  clear hss
  have HM := Lib.hid hm
  have HO := Lib.hid hown
  have HN := Lib.hid hne
  clear hm hown hne hR
  have t0 := store_new0
  have t1 := store_new1
  have u3 := under3
  go_enter Try.func26, Try.ntmps26
  go_wp2_with fail
  go_loopw [7, 12] (fun s i wr => ∃ (I : Nat) (ys : List ZW), i = .int .i64 I ∧ I ≤ xs.length ∧ (∃ r, s = .float .f32 r ∧ FV .f32 (outC (ss.take I)) r) ∧ Hid (Stepped I ys ss zs) ∧ Hid (wr.ownsRow base 53 1 (.slice za xs.length zc) xs.length (zvals ys)) ∧ Hid (w.grownBy wr (Value.ownBlock (.slice za xs.length zc)))) (fun _ i _ => xs.length - (intOf i).toNat)
  case atStart => exact ⟨0, zs, rfl, Nat.zero_le _, ⟨0, rfl, FV.of_lt (k := .f32) (b := 0) (by decide)⟩, Lib.hid (Stepped.start _ _), HO, Lib.hid ⟨rfl, rfl, rfl, Nat.le_refl _, fun _ _ _ => rfl⟩⟩
  case round =>
    clear HO
    obtain ⟨I, ys, rfl, hI, ⟨rs, rfl, hrs⟩, hS, hO, hG⟩ := hrel
    rcases Nat.lt_or_eq_of_le hI with hlt | heq
    · have d1 : decide ((I : Int) < (xs.length : Int)) = true := by simpa using hlt
      have hII : (I : Int) < (xs.length : Int) := by omega
      have hIz : I < zs.length := by omega
      obtain ⟨g, off, rfl, c0, c1, hg⟩ := (HM.out.grown hG.out (HN.out (by omega))) I hlt
      obtain ⟨gz, hza⟩ : ∃ g', za = some ⟨g', 0, none⟩ := by
        rcases hO.out.2 with ⟨e, h0⟩ | ⟨g', c', cur, e, _⟩
        · omega
        · exact ⟨g', by injection e⟩
      subst hza
      have hgz := (hO.out.lt gz rfl).2
      have hgne : g ≠ gz := fun e => HN.out (by omega) _ rfl (by rw [e]; rfl)
      have yI : (zvals ys)[I]? = some (.complex .f32 zs[I].1 zs[I].2) := by
        unfold zvals; rw [List.getElem?_map, hS.out.rest I (Nat.le_refl _), List.getElem?_eq_getElem hIz]; rfl
      have cz : wr.cell? ⟨gz, I, none⟩ = some (.complex .f32 zs[I].1 zs[I].2) := by rw [hO.out.cellAt _ (by omega)]; exact yI
      have fz := hO.out.frozenAt I
      have ST := Lib.hid (SG.out I hlt hIz)
      have CALL := Lib.hid (SM.out I hlt hIz)
      have SS := Lib.hid (hS.out.next hIz ST.out)
      have LL := LT.out I hlt hIz
      have OC := Lib.hid (outC_succ ST.out)
      clear yI ST
      generalize stepW xs[I] zs[I] x = r at *
      generalize xs[I] = m at *
      generalize zs[I] = z at *
      obtain ⟨m1, m2, m3, m4⟩ := m
      obtain ⟨z1, z2⟩ := z
      obtain ⟨r1, r2⟩ := r
      go_upto_region 5 with fail
      have M3 := heap_alloc_new wr (.cells #[.complex .f32 m1 m2, .complex .f32 m3 m4] 55)
      have hbel : Below wr.heap.size wr (wr.alloc (.cells #[.complex .f32 m1 m2, .complex .f32 m3 m4] 55)) := (Below.refl _ _).alloc (Nat.le_refl _) _
      have hsz : wr.heap.size < (wr.alloc (.cells #[.complex .f32 m1 m2, .complex .f32 m3 m4] 55)).heap.size := by rw [World.size_alloc]; omega
      have hO3 := Lib.hid (hO.out.alloc (.cells #[.complex .f32 m1 m2, .complex .f32 m3 m4] 55))
      have hG3 := Lib.hid (grownBy_trans hG.out ((show wr.grownBy (wr.alloc (.cells #[.complex .f32 m1 m2, .complex .f32 m3 m4] 55)) (Value.ownBlock (.slice (some ⟨gz, 0, none⟩) xs.length zc)) from grownBy_alloc _ _ _)))
      generalize wr.alloc (.cells #[.complex .f32 m1 m2, .complex .f32 m3 m4] 55) = W3 at *
      have k0 := cur_cell M3 0
      have k1 := cur_cell M3 1
      simp at k0 k1
      have kz : W3.cell? ⟨gz, I, none⟩ = some (.complex .f32 z1 z2) := (hbel.cell (p := ⟨gz, I, none⟩) hgz).trans cz
      have kf : W3.frozen? ⟨gz, I, none⟩ = false := (hbel.frozen (p := ⟨gz, I, none⟩) hgz).trans fz
      generalize wr.heap.size = M at *
      have hgz3 : gz < W3.heap.size := by omega
      go_region_with (first | (go_at_call 40; refine Calls.mono (CALL.out _) ?_; rintro e W8 ⟨rfl, b8⟩; have kz8 := (b8.cell (p := ⟨gz, I, none⟩) hgz3).trans kz; have kf8 := (b8.frozen (p := ⟨gz, I, none⟩) hgz3).trans kf; have hst8 := run_store_one (P := Try.prog) (v := .complex .f32 r1 r2) rfl kz8 kf8))
      all_goals
        have g8 : W3.grownBy W8 none := ⟨b8.os, b8.tape, b8.output, b8.size, fun k hk _ => b8.block k hk⟩
        have hO8 := hO3.out.kept g8 (by right; simp [Value.ownBlock])
        have hO9 := (hO8.stored I (.complex .f32 r1 r2)).1
        rw [show (Value.complex .f32 r1 r2) = .complex .f32 (r1, r2).1 (r1, r2).2 from rfl, zvals_set] at hO9
        have hG9 := Lib.hid (grownBy_trans hG3.out (show W3.grownBy (W8.setCell ⟨gz, I, none⟩ (.complex .f32 r1 r2)) (Value.ownBlock (.slice (some ⟨gz, 0, none⟩) xs.length zc)) from
          ⟨b8.os, b8.tape, b8.output, by have := b8.size; simp [World.setCell]; exact this, fun k hk hk2 => (Below.heap_setCell _ _ _ _ (fun e => hk2 (by rw [e]; rfl))).trans (b8.block k hk)⟩))
        have c9 : (W8.setCell ⟨gz, I, none⟩ (.complex .f32 r1 r2)).cell? ⟨gz, I, none⟩ = some (.complex .f32 r1 r2) := by
          have h9 := hO9.cellAt I (by omega)
          rw [zvals_get (show I < (ys.set I (r1, r2)).length by rw [List.length_set, hS.out.len]; exact hIz), List.getElem_set_self] at h9
          exact h9
        have hO9 := Lib.hid hO9
        have hr1 : FV .f32 (cl .f32 r1) r1 := FV.of_lt (k := .f32) LL.1
        clear hO8 g8 hst8 kf8 kz8 b8 k0 k1 kz kf hbel
        generalize W8.setCell ⟨gz, I, none⟩ (.complex .f32 r1 r2) = W9 at *
        go_wp2_with (refine upon_flop _ (by decide) hrs hr1 ?_; intro y ny hy)
        exact ⟨⟨I + 1, ys.set I (r1, r2), by go_num, hlt, ⟨y, rfl, by rw [OC.out]; exact hy⟩, SS, Lib.hid hO9.out, Lib.hid (grownBy_drewN hG9.out ny)⟩, by simp [intOf]; omega⟩
    · subst heq
      have d1 : decide ((xs.length : Int) < (xs.length : Int)) = false := by simp
      go_wp2_with fail
      go_ret
      have e : ys = ss := by
        have h := hS.out
        rw [← hzl] at h
        exact h.all (by rw [SL, hzl])
      refine ⟨rs, rfl, ?_, ?_, hG.out⟩
      · rw [← SL, List.take_length] at hrs
        exact hrs
      rw [← e]
      exact hO.out
end Go.Proofs.Ytfhaopdaakjghaa
