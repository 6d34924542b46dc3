import Derived.Test.YtfhaopdaakjghaaModeB
import Derived.Deep.RegionWith
import Derived.Laws.NewBlocks
import Derived.Deep.DeepCutAuto
namespace Go.Proofs.Ytfhaopdaakjghaa
open Go.RowKit Go.Fl

theorem cell_grown {w w' : World} {row : Option Nat} {g k : Nat} (h : w.grownBy w' row) (hg : g < w.heap.size) (hne : row ≠ some g) : w'.cell? ⟨g, k, none⟩ = w.cell? ⟨g, k, none⟩ :=
  World.cell?_of_block (h.block g hg (fun e => hne e.symm))

set_option maxHeartbeats 400000 in
theorem l01Int_c {b : Nat} {a : Option Addr} {len cap g : Nat} {v0 v1 v2 v3 : Int} (w : World) (h : CurP w b a len cap) (hgb : g ≠ b) (hg : w.heap[g]? = some (.cells #[.int .i64 v0, .int .i64 v1, .int .i64 v2, .int .i64 v3] 3 (0, 0))) :
    Calls Try.prog 32 #[.pointer (some ⟨b, 0, none⟩), .slice (some ⟨g, 0, none⟩) 4 4] w (fun e w' => ∃ r : Int, e = .returned (.int .i64 r) ∧ Drawn b a len cap w w') := by
  have H := Lib.hid h
  clear h
  have hsz : g < w.heap.size := by
    rcases Nat.lt_or_ge g w.heap.size with h | h
    · exact h
    · rw [Array.getElem?_eq_none h] at hg; cases hg
  have HG := Lib.hid hg
  clear hg
  go_enter Try.func32, Try.ntmps32
  go_wp2_with fail
  refine (l01Below_c 4 (by decide) (by decide) _ H.out).mono ?_
  rintro e w1 ⟨r, rfl, r0, r1, d1⟩
  have hc : ∃ v : Int, w1.cell? ⟨g, r.toNat, none⟩ = some (.int .i64 v) := by
    rw [cell_grown d1.2 hsz (by intro h; cases h; exact hgb rfl), cur_cell HG.out]
    have : r = 0 ∨ r = 1 ∨ r = 2 ∨ r = 3 := by omega
    rcases this with rfl | rfl | rfl | rfl <;> exact ⟨_, rfl⟩
  obtain ⟨v, hv⟩ := hc
  have D1 := Lib.hid d1
  clear d1
  go_wp2_with fail
  go_ret
  exact ⟨_, rfl, D1.out⟩

theorem grownBy_alloc (w : World) (o : Obj) (row : Option Nat) : w.grownBy (w.alloc o) row := by
  have hb : Below w.heap.size w (w.alloc o) := (Below.refl _ _).alloc (Nat.le_refl _) o
  exact ⟨rfl, rfl, rfl, hb.size, fun i hi _ => hb.block i hi⟩

theorem CurP.lt {w : World} {b : Nat} {a : Option Addr} {len cap : Nat} (h : CurP w b a len cap) : b < w.heap.size := by
  obtain ⟨i, x, hh, _⟩ := h
  rcases Nat.lt_or_ge b w.heap.size with h | h
  · exact h
  · rw [Array.getElem?_eq_none h] at hh; cases hh

theorem CurP.alloc {w : World} {b : Nat} {a : Option Addr} {len cap : Nat} (h : CurP w b a len cap) (o : Obj) : CurP (w.alloc o) b a len cap := by
  have hl := h.lt
  obtain ⟨i, x, hh, h0, h1, h2, h3, h4⟩ := h
  have hb : Below w.heap.size w (w.alloc o) := (Below.refl _ _).alloc (Nat.le_refl _) o
  exact ⟨i, x, by rw [hb.block b hl]; exact hh, h0, h1, h2.alloc o, h3, h4⟩

theorem Drawn.alloc {b : Nat} {a : Option Addr} {len cap : Nat} {w w1 : World} (h : Drawn b a len cap w w1) (o : Obj) : Drawn b a len cap w (w1.alloc o) := ⟨h.1.alloc o, grownBy_trans h.2 (grownBy_alloc _ _ _)⟩

theorem Drawn.setNew {b K : Nat} {a : Option Addr} {len cap : Nat} {w w1 : World} (h0 : CurP w b a len cap) (d : Drawn b a len cap w w1) (hK : w.heap.size ≤ K) (j : Nat) (v : Value) : Drawn b a len cap w (w1.setCell ⟨K, j, none⟩ v) := by
  have hb := h0.lt
  obtain ⟨⟨i, x, hh, i0, i1, hbs, hl, hne⟩, hg⟩ := d
  obtain ⟨_, _, _, _, _, hbs0, _, _⟩ := h0
  have keep : ∀ k, k ≠ K → (w1.setCell ⟨K, j, none⟩ v).heap[k]? = w1.heap[k]? := fun k hk => Below.heap_setCell _ _ _ _ hk
  refine ⟨⟨i, x, by rw [keep b (by omega)]; exact hh, i0, i1, fun n hn => ?_, hl, hne⟩, ⟨hg.os, hg.tape, hg.output, ?_, fun k hk hkb => ?_⟩⟩
  · obtain ⟨b1, off, y, e1, c1, y0, y1, l1⟩ := hbs n hn
    obtain ⟨b2, off2, y2, e2, _, _, _, l2⟩ := hbs0 n hn
    rw [e1] at e2
    cases e2
    refine ⟨b1, off, y, e1, ?_, y0, y1, ?_⟩
    · rw [World.cell?_of_block (w := w1) (keep b1 (by omega))]
      exact c1
    · simpa [World.setCell] using l1
  · simpa [World.setCell] using hg.size
  · rw [keep k (by omega)]
    exact hg.block k hk hkb

theorem store_new0 (W : World) (u0 u1 : Value) (t : TypeId) (p q : Nat) : (store ⟨W.heap.size, 0, none⟩ (.complex .f32 p q)).run Try.prog (W.alloc (.cells #[u0, u1] t)) = .ok () (W.alloc (.cells #[.complex .f32 p q, u1] t)) := by
  rw [run_store_one (u := u0) rfl (by rw [World.cell?_alloc_at _ _ _ _ rfl]; rfl) (World.frozen?_alloc_at _ _ _ _ rfl), World.setCell_alloc_at _ _ _ _ _ rfl]
  rfl

theorem store_new1 (W : World) (u0 u1 : Value) (t : TypeId) (p q : Nat) : (store ⟨W.heap.size, 1, none⟩ (.complex .f32 p q)).run Try.prog (W.alloc (.cells #[u0, u1] t)) = .ok () (W.alloc (.cells #[u0, .complex .f32 p q] t)) := by
  rw [run_store_one (u := u1) rfl (by rw [World.cell?_alloc_at _ _ _ _ rfl]; rfl) (World.frozen?_alloc_at _ _ _ _ rfl), World.setCell_alloc_at _ _ _ _ _ rfl]
  rfl

/-- A call that draws a mode. -/
def DrawsM (b : Nat) (a : Option Addr) (len cap : Nat) (w : World) (e : Ending) (w' : World) : Prop := ∃ m x, e = .returned x.val ∧ FM m x ∧ Drawn b a len cap w w'

set_option maxRecDepth 10000 in
set_option maxHeartbeats 4000000 in
theorem l2Mode_c {b : Nat} {a : Option Addr} {len cap : Nat} (w : World) (h : CurP w b a len cap) :
    Calls Try.prog 21 #[.pointer (some ⟨b, 0, none⟩)] w (DrawsM b a len cap w) := by
  have H := Lib.hid h
  clear h
  have u3 := under3
  have u59 := under59
  have t0 := store_new0
  have t1 := store_new1
  go_enter Try.func21, Try.ntmps21
  go_upto_region 1 with fail
  have C0 := Lib.hid (H.out.alloc (.cells #[.complex .f32 0 0, .complex .f32 0 0] 55))
  have R0 := Lib.hid (heap_alloc_new w (.cells #[.complex .f32 0 0, .complex .f32 0 0] 55))
  have hRb : w.heap.size ≠ b := fun e => by have := H.out.lt; omega
  have G0 := Lib.hid (grownBy_alloc w (.cells #[.complex .f32 0 0, .complex .f32 0 0] 55) (some b))
  have hR0 : w.heap.size < (w.alloc (.cells #[.complex .f32 0 0, .complex .f32 0 0] 55)).heap.size := by rw [World.size_alloc]; omega
  generalize w.alloc (.cells #[.complex .f32 0 0, .complex .f32 0 0] 55) = W0 at *
  go_wp2_with fail
  refine Calls.mono (l2Turn_c _ C0.out) ?_
  rintro e w1 ⟨q1, q2, p1, p2, rfl, f1, f2, d1⟩
  have D1 := Lib.hid d1
  clear d1
  go_wp2_with fail
  refine (l01Below_c 65 (by decide) (by decide) _ D1.out.1).mono ?_
  rintro e w2 ⟨r, rfl, r0, r1, d2⟩
  have D2 := Lib.hid (D1.out.trans d2)
  clear d2
  go_wp2_with (refine upon_flop _ (by decide) (int_FV _ _) (FV.of_lt (by decide)) ?_; intro q3 n1 f3)
  refine Calls.mono (l01Below_c 65 (by decide) (by decide) _ (D2.out.drewN _).1) ?_
  rintro e w3 ⟨s, rfl, s0, s1, d3⟩
  have D3 := Lib.hid ((D2.out.drewN _).trans d3)
  clear d3
  go_upto_region 2 with (refine upon_flop _ (by decide) (int_FV _ _) (FV.of_lt (by decide)) ?_; intro q4 n2 f4; have D4 := Lib.hid (D3.out.drewN n2); generalize w3.drewN n2 = W4 at *)
  have hKs : W4.heap.size ≠ b := fun e => by have := D4.out.1.lt; omega
  have D5 := Lib.hid (D4.out.alloc (.cells #[.complex .f32 q1 q2, .complex .f32 q3 q4] 55))
  have hK := Lib.hid (heap_alloc_new W4 (.cells #[.complex .f32 q1 q2, .complex .f32 q3 q4] 55))
  have hlt : W4.heap.size < (W4.alloc (.cells #[.complex .f32 q1 q2, .complex .f32 q3 q4] 55)).heap.size := by rw [World.size_alloc]; omega
  generalize W4.alloc (.cells #[.complex .f32 q1 q2, .complex .f32 q3 q4] 55) = W5 at *
  have hKw : W0.heap.size ≤ W4.heap.size := D4.out.2.size
  generalize W4.heap.size = K at *
  clear t0 t1 D4
  go_upto_if 19 with (go_at_call 30; refine Calls.mono (l01Once_c 3 (by decide) (by decide) _ D5.out.1) ?_; rintro e W6 ⟨t, rfl, d6⟩)
  have hK6 : W6.heap[K]? = some (.cells #[.complex .f32 q1 q2, .complex .f32 q3 q4] 55 (0, 0)) := by rw [d6.2.block K hlt (by simpa using hKs)]; exact hK.out
  have D6 := Lib.hid (D5.out.trans d6)
  have c0 := cur_cell hK6 0
  have c1 := cur_cell hK6 1
  simp at c0 c1
  clear d6 hK D5
  have HK6 := Lib.hid hK6
  clear hK6
  have hne6 : W6.heap.size ≠ b := fun e => by have := D6.out.1.lt; omega
  have hlt6 : K < W6.heap.size := by
    rcases Nat.lt_or_ge K W6.heap.size with h | h
    · exact h
    · have := HK6.out; rw [Array.getElem?_eq_none h] at this; cases this
  have key : ∀ W7 : World, Drawn b a len cap ((W6.alloc (.cells #[.int .i64 999, .int .i64 990, .int .i64 500, .int .i64 1000] 3)).drew) W7 → Hid (W7.heap[K]? = some (.cells #[.complex .f32 q1 q2, .complex .f32 q3 q4] 55 (0, 0))) ∧ W7.cell? ⟨K, 0, none⟩ = some (.complex .f32 q1 q2) ∧
      (∀ n p q : Nat, (store ⟨K, 0, none⟩ (.complex .f32 p q)).run Try.prog (W7.drewN n) = .ok () ((W7.drewN n).setCell ⟨K, 0, none⟩ (.complex .f32 p q))) := fun W7 d7 => by
    have hk : W7.heap[K]? = some (.cells #[.complex .f32 q1 q2, .complex .f32 q3 q4] 55 (0, 0)) := by
      have hb : Below W6.heap.size W6 (W6.alloc (.cells #[.int .i64 999, .int .i64 990, .int .i64 500, .int .i64 1000] 3)) := (Below.refl _ _).alloc (Nat.le_refl _) _
      have h2 := d7.2.block K (Nat.lt_of_lt_of_le hlt6 hb.size) (by simpa using hKs)
      rw [h2]
      exact (hb.block K hlt6).trans HK6.out
    refine ⟨Lib.hid hk, by rw [cur_cell hk]; rfl, fun n p q => run_store_one rfl (u := .complex .f32 q1 q2) ?_ ?_⟩
    · show W7.cell? _ = _
      rw [cur_cell hk]; rfl
    · show W7.frozen? _ = _
      exact cur_free hk 0
  have KEY := Lib.hid key
  clear key
  go_cut [] (fun wx => ∃ x1 x2 y1 y2, FV .f32 y1 x1 ∧ FV .f32 y2 x2 ∧ Hid (wx.heap[K]? = some (.cells #[.complex .f32 x1 x2, .complex .f32 q3 q4] 55 (0, 0))) ∧ Hid (Drawn b a len cap W0 wx))
  case first =>
    cases t
    · go_wp2_with fail
      go_meet
      exact ⟨q1, q2, _, _, f1, f2, HK6, D6⟩
    · go_upto_region 3 with fail
      have hcc : CurP ((W6.alloc (.cells #[.int .i64 999, .int .i64 990, .int .i64 500, .int .i64 1000] 3)).drew) b a len cap := D6.out.1.alloc _
      have hgg : ((W6.alloc (.cells #[.int .i64 999, .int .i64 990, .int .i64 500, .int .i64 1000] 3)).drew).heap[W6.heap.size]? = some (.cells #[.int .i64 999, .int .i64 990, .int .i64 500, .int .i64 1000] 3 (0, 0)) := heap_alloc_new _ _
      have HCC := Lib.hid hcc
      have HGG := Lib.hid hgg
      clear hcc hgg
      go_region_with (first | (go_at_call 32; refine Calls.mono (l01Int_c (v0 := 999) (v1 := 990) (v2 := 500) (v3 := 1000) _ HCC.out hne6 HGG.out) ?_; rintro e W7 ⟨v, rfl, d7⟩; obtain ⟨hk7, c7, s7⟩ := KEY.out W7 d7; have D7 := Lib.hid d7; clear d7) | (refine upon_flop _ ?_ (int_FV .f32 v) (FV.of_lt (k := .f32) (b := 1148846080) ?_) ?_; decide; decide; intro y ny hy) | (go_at_call 31; refine Calls.mono (scaleSpec_c f1 f2 hy _) ?_; rintro e _ ⟨z1, z2, rfl, g1, g2, nz, rfl⟩))
      all_goals
        go_wp2_with fail
        go_meet
        refine ⟨z1, z2, _, _, g1, g2, Lib.hid (cur_set (w := W7.drewN _) hk7.out 0 (.complex .f32 z1 z2)), Lib.hid ?_⟩
        exact Drawn.setNew C0.out ((((D6.out.alloc _).drewN 1).trans D7.out).drewN _) hKw 0 _
  case rest =>
    obtain ⟨x1, x2, y1, y2, fx1, fx2, hK1, E1⟩ := hcut
    have hltK : ∀ W : World, ∀ o, W.heap[K]? = some o → K < W.heap.size := fun W o h => by
      rcases Nat.lt_or_ge K W.heap.size with h1 | h1
      · exact h1
      · rw [Array.getElem?_eq_none h1] at h; cases h
    go_upto_if 30 with (go_at_call 30; refine Calls.mono (l01Once_c 25 (by decide) (by decide) _ E1.out.1) ?_; rintro e W8 ⟨t8, rfl, d8⟩)
    have hK8 : W8.heap[K]? = some (.cells #[.complex .f32 x1 x2, .complex .f32 q3 q4] 55 (0, 0)) := by rw [d8.2.block K (hltK _ _ hK1.out) (by simpa using hKs)]; exact hK1.out
    have HK8 := Lib.hid hK8
    have D8 := Lib.hid (E1.out.trans d8)
    clear hK8 d8 E1 hK1
    go_cut [] (fun wx => ∃ x1 x2 y1 y2, FV .f32 y1 x1 ∧ FV .f32 y2 x2 ∧ Hid (wx.heap[K]? = some (.cells #[.complex .f32 x1 x2, .complex .f32 q3 q4] 55 (0, 0))) ∧ Hid (Drawn b a len cap W0 wx))
    case first =>
      cases t8
      · go_wp2_with fail
        go_meet
        exact ⟨_, _, _, _, fx1, fx2, HK8, D8⟩
      · go_wp2_with fail
        refine (l1Single_c _ D8.out.1).mono ?_
        rintro e W9 ⟨z1, z2, o1, o2, rfl, g1, g2, d9⟩
        have hK9 : W9.heap[K]? = some (.cells #[.complex .f32 x1 x2, .complex .f32 q3 q4] 55 (0, 0)) := by rw [d9.2.block K (hltK _ _ HK8.out) (by simpa using hKs)]; exact HK8.out
        have hst : (store ⟨K, 0, none⟩ (.complex .f32 z1 z2)).run Try.prog W9 = .ok () (W9.setCell ⟨K, 0, none⟩ (.complex .f32 z1 z2)) := run_store_one rfl (by rw [cur_cell hK9]; rfl) (cur_free hK9 0)
        have HK9 := Lib.hid hK9
        have D9 := Lib.hid (D8.out.trans d9)
        clear hK9 d9
        go_wp2_with fail
        go_meet
        exact ⟨z1, z2, _, _, g1, g2, Lib.hid (cur_set HK9.out 0 (.complex .f32 z1 z2)), Lib.hid (Drawn.setNew C0.out D9.out hKw 0 _)⟩
    case rest =>
      obtain ⟨v1, v2, y5, y6, fv1, fv2, hK2, E2⟩ := hcut
      go_upto_if 35 with (go_at_call 30; refine Calls.mono (l01Once_c 25 (by decide) (by decide) _ E2.out.1) ?_; rintro e W10 ⟨t10, rfl, d10⟩)
      have hK10 : W10.heap[K]? = some (.cells #[.complex .f32 v1 v2, .complex .f32 q3 q4] 55 (0, 0)) := by rw [d10.2.block K (hltK _ _ hK2.out) (by simpa using hKs)]; exact hK2.out
      have HK10 := Lib.hid hK10
      have D10 := Lib.hid (E2.out.trans d10)
      clear hK10 d10 E2 hK2
      go_cut [] (fun wx => ∃ x3 x4 y3 y4, FV .f32 y3 x3 ∧ FV .f32 y4 x4 ∧ Hid (wx.heap[K]? = some (.cells #[.complex .f32 v1 v2, .complex .f32 x3 x4] 55 (0, 0))) ∧ Hid (Drawn b a len cap W0 wx))
      case first =>
        cases t10
        · go_wp2_with fail
          go_meet
          exact ⟨_, _, _, _, f3, f4, HK10, D10⟩
        · go_wp2_with fail
          refine (l1Single_c _ D10.out.1).mono ?_
          rintro e W9 ⟨z1, z2, o1, o2, rfl, g1, g2, d9⟩
          have hK9 : W9.heap[K]? = some (.cells #[.complex .f32 v1 v2, .complex .f32 q3 q4] 55 (0, 0)) := by rw [d9.2.block K (hltK _ _ HK10.out) (by simpa using hKs)]; exact HK10.out
          have hst : (store ⟨K, 1, none⟩ (.complex .f32 z1 z2)).run Try.prog W9 = .ok () (W9.setCell ⟨K, 1, none⟩ (.complex .f32 z1 z2)) := run_store_one rfl (by rw [cur_cell hK9]; rfl) (cur_free hK9 1)
          have HK9 := Lib.hid hK9
          have D9 := Lib.hid (D10.out.trans d9)
          clear hK9 d9
          go_wp2_with fail
          go_meet
          exact ⟨z1, z2, _, _, g1, g2, Lib.hid (cur_set HK9.out 1 (.complex .f32 z1 z2)), Lib.hid (Drawn.setNew C0.out D9.out hKw 1 _)⟩
      case rest =>
      obtain ⟨v3, v4, y7, y8, fv3, fv4, hK3, E3⟩ := hcut
      have hR3 : wc.heap[w.heap.size]? = some (.cells #[.complex .f32 0 0, .complex .f32 0 0] 55 (0, 0)) := by rw [E3.out.2.block _ hR0 (by simpa using hRb)]; exact R0.out
      have c0 := cur_cell hK3.out 0
      have c1 := cur_cell hK3.out 1
      simp at c0 c1
      have s0 : (store ⟨w.heap.size, 0, none⟩ (.complex .f32 v1 v2)).run Try.prog wc = .ok () (wc.setCell ⟨w.heap.size, 0, none⟩ (.complex .f32 v1 v2)) := run_store_one rfl (by rw [cur_cell hR3]; rfl) (cur_free hR3 0)
      have hR4 := cur_set hR3 0 (.complex .f32 v1 v2)
      have s1 : (store ⟨w.heap.size, 1, none⟩ (.complex .f32 v3 v4)).run Try.prog (wc.setCell ⟨w.heap.size, 0, none⟩ (.complex .f32 v1 v2)) = .ok () ((wc.setCell ⟨w.heap.size, 0, none⟩ (.complex .f32 v1 v2)).setCell ⟨w.heap.size, 1, none⟩ (.complex .f32 v3 v4)) := run_store_one rfl (by rw [cur_cell hR4]; rfl) (cur_free hR4 1)
      have hR5 := cur_set hR4 1 (.complex .f32 v3 v4)
      have e0 := cur_cell hR5 0
      have e1 := cur_cell hR5 1
      simp at e0 e1
      have D4 := Lib.hid (Drawn.setNew H.out (Drawn.setNew H.out (show Drawn b a len cap w wc from ⟨E3.out.1, grownBy_trans G0.out E3.out.2⟩) (Nat.le_refl _) 0 (.complex .f32 v1 v2)) (Nat.le_refl _) 1 (.complex .f32 v3 v4))
      have HR5 := Lib.hid hR5
      clear hR3 hR4 hR5
      go_wp2_with fail
      refine bodyPost_ret_by (v := .agg #[.complex .f32 v1 v2, .complex .f32 v3 v4]) ?_ rfl ⟨((_, _), (_, _)), ⟨v1, v2, v3, v4⟩, rfl, ⟨fv1, fv2, fv3, fv4⟩, D4.out⟩
      exact results_cell_row rfl _ _ w.heap.size _ #[.complex .f32 v1 v2, .complex .f32 v3 v4] _ _ rfl HR5.out Try.underlying55 rfl (by kernel_rfl)
end Go.Proofs.Ytfhaopdaakjghaa
