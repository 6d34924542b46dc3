import Derived.Test.YtkaajnmbmjnplaaMerging
import Derived.Laws.OwnMore
namespace Go.Proofs.Ytkaajnmbmjnplaa
open Go.RowKit Go.Fl

theorem three_new (w : World) (o1 o2 o3 : Obj) : Below w.heap.size w (((w.alloc o1).alloc o2).alloc o3) ∧ (((w.alloc o1).alloc o2).alloc o3).heap[w.heap.size]? = some o1 ∧ (((w.alloc o1).alloc o2).alloc o3).heap[w.heap.size + 1]? = some o2 ∧ (((w.alloc o1).alloc o2).alloc o3).heap[w.heap.size + 1 + 1]? = some o3 ∧ w.heap.size + 3 = (((w.alloc o1).alloc o2).alloc o3).heap.size := by
  have h1 := heap_alloc_new w o1
  have h2 := heap_alloc_new (w.alloc o1) o2
  have h3 := heap_alloc_new ((w.alloc o1).alloc o2) o3
  have g2 : ((w.alloc o1).alloc o2).heap[w.heap.size]? = some o1 := (heap_alloc_old _ _ (by rw [World.size_alloc]; omega)).trans h1
  refine ⟨(((Below.refl _ _).alloc (Nat.le_refl _) _).alloc (by simp) _).alloc (by simp; omega) _, (heap_alloc_old _ _ (by simp; omega)).trans g2, ?_, ?_, by simp⟩
  · rw [World.size_alloc] at h2
    exact (heap_alloc_old _ _ (by simp)).trans h2
  · simpa using h3

set_option maxRecDepth 10000 in
set_option maxHeartbeats 4000000 in
theorem mergeImpl_c {a b : Option Addr} {ca cb : Nat} {xs ys : List MW} (w : World) (hx : MsP w a xs) (hy : MsP w b ys) (wx : ∀ x ∈ xs, wfX x) (wy : ∀ x ∈ ys, wfX x) (kx : okL xs = true) (ky : okL ys = true) :
    Calls Try.prog 7 #[.agg #[.slice a xs.length ca], .agg #[.slice b ys.length cb]] w (RetCk (mrgAll (xs ++ ys)) w) := by
  have lenok : ∀ zs, okL zs = true → zs.length ≤ 16 := fun zs hk => by
    unfold okL at hk
    simp only [Bool.and_eq_true, decide_eq_true_eq] at hk
    exact hk.2
  have allok : ∀ zs, okL zs = true → (∀ x ∈ zs, wfX x) → ∀ x ∈ zs, MFin x := fun zs hk hw x hx => by
    unfold okL at hk
    simp only [Bool.and_eq_true, decide_eq_true_eq] at hk
    exact MFin.of (hw x hx) (List.all_eq_true.1 hk.1 x hx)
  have lx := lenok xs kx
  have ly := lenok ys ky
  have GD := Lib.hid (fun i hi => Good.all (xs := xs ++ ys) (fun x hx => by
    rcases List.mem_append.1 hx with h | h
    · exact allok xs kx wx x h
    · exact allok ys ky wy x h) i hi)
  have FI := Lib.hid (fun (x : MW) (hx : x ∈ xs ++ ys) => (show MFin x from by
    rcases List.mem_append.1 hx with h | h
    · exact allok xs kx wx x h
    · exact allok ys ky wy x h))
  have L0 := Lib.hid (fun w' hb => isBodyImpl_c (cap := ca) w' (hx.below hb) wx (by omega))
  have L1 := Lib.hid (fun w' hb => isBodyImpl_c (cap := cb) w' (hy.below hb) wy (by omega))
  rw [kx] at L0
  rw [ky] at L1
  have HX := Lib.hid hx
  have HY := Lib.hid hy
  clear hx hy wx wy kx ky lenok allok
  obtain ⟨i0, hi, hz0, hz1, hz2⟩ := info_parts' info33
  have t0 := store_new0
  have t1 := store_new1
  have u3 := under3
  go_enter Try.func7, Try.ntmps7
  go_upto_region 1 with fail
  obtain ⟨B0, P0, Q0, R0, hs0⟩ := three_new w (.cells #[.slice a xs.length ca] 25) (.cells #[.slice b ys.length cb] 25) (.cells #[.slice none 0 0] 25)
  generalize (((w.alloc (.cells #[.slice a xs.length ca] 25)).alloc (.cells #[.slice b ys.length cb] 25)).alloc (.cells #[.slice none 0 0] 25)) = W0 at *
  have cP := cur_cell P0 0
  simp at cP
  go_wp2_with fail
  refine (L0.out _ B0).mono ?_
  rintro e W1 ⟨rfl, b0⟩
  have B1 := B0.trans (b0.mono (by omega))
  have P1 := (b0.block _ (by omega)).trans P0
  have Q1 := (b0.block _ (by omega)).trans Q0
  have R1 := (b0.block _ (by omega)).trans R0
  have hs1 : w.heap.size + 3 ≤ W1.heap.size := Nat.le_trans (Nat.le_of_eq hs0) b0.size
  clear B0 P0 Q0 R0 hs0 b0 cP
  have cP := cur_cell Q1 0
  simp at cP
  go_wp2_with fail
  refine (L1.out _ B1).mono ?_
  rintro e W2 ⟨rfl, b0⟩
  have B2 := B1.trans (b0.mono (by omega))
  have P2 := (b0.block _ (by omega)).trans P1
  have Q2 := (b0.block _ (by omega)).trans Q1
  have R2 := (b0.block _ (by omega)).trans R1
  have hs2 : w.heap.size + 3 ≤ W2.heap.size := Nat.le_trans hs1 b0.size
  clear B1 P1 Q1 R1 hs1 b0 cP L0 L1
  go_upto_region 4 with fail
  have B3 := B2.alloc (by omega) (.cells #[.slice none 0 0] 25)
  have P3 := (heap_alloc_old W2 (.cells #[.slice none 0 0] 25) (show w.heap.size < W2.heap.size by omega)).trans P2
  have Q3 := (heap_alloc_old W2 (.cells #[.slice none 0 0] 25) (show w.heap.size + 1 < W2.heap.size by omega)).trans Q2
  have R3 := (heap_alloc_old W2 (.cells #[.slice none 0 0] 25) (show w.heap.size + 1 + 1 < W2.heap.size by omega)).trans R2
  have O3 := heap_alloc_new W2 (.cells #[.slice none 0 0] 25)
  have hs3 : W2.heap.size + 1 = (W2.alloc (.cells #[.slice none 0 0] 25)).heap.size := by rw [World.size_alloc]
  generalize W2.alloc (.cells #[.slice none 0 0] 25) = W3 at *
  generalize W2.heap.size = O at *
  clear B2 P2 Q2 R2
  have cP := cur_cell P3 0
  have cQ := cur_cell Q3 0
  simp at cP cQ
  have hHX := Lib.hid (HX.out.below (B3.alloc B3.size (.cells #[.slice a xs.length ca, .slice b ys.length cb] 23)))
  have hHY := Lib.hid (HY.out.below (B3.alloc B3.size (.cells #[.slice a xs.length ca, .slice b ys.length cb] 23)))
  have hB3 := Lib.hid (B3.alloc B3.size (.cells #[.slice a xs.length ca, .slice b ys.length cb] 23))
  have hR3 := Lib.hid ((heap_alloc_old W3 (.cells #[.slice a xs.length ca, .slice b ys.length cb] 23) (show w.heap.size + 1 + 1 < W3.heap.size by omega)).trans R3)
  have hO3 := Lib.hid ((heap_alloc_old W3 (.cells #[.slice a xs.length ca, .slice b ys.length cb] 23) (show O < W3.heap.size by omega)).trans O3)
  have hS3 := Lib.hid (heap_alloc_new W3 (.cells #[.slice a xs.length ca, .slice b ys.length cb] 23))
  have hs4 : W3.heap.size + 1 = (W3.alloc (.cells #[.slice a xs.length ca, .slice b ys.length cb] 23)).heap.size := by rw [World.size_alloc]
  clear B3 R3 O3 P3 Q3 HX HY
  go_wp2_with fail
  clear cP cQ
  generalize (W3.alloc (.cells #[.slice a xs.length ca, .slice b ys.length cb] 23)) = W4 at *
  refine (concat_c W4 hHX.out hHY.out lx ly hS3.out).mono ?_
  rintro e W5 ⟨v, rfl, hown, b5⟩
  obtain ⟨aa, ac, rfl⟩ := owns_slice hown
  have B5 := Lib.hid (hB3.out.trans (b5.mono hB3.out.size))
  have R5 := Lib.hid ((b5.block _ (by omega)).trans hR3.out)
  have O5 := (b5.block _ (by omega)).trans hO3.out
  have hs5 : O < W5.heap.size := by have := b5.size; omega
  have M5 := Lib.hid (show Merging W5 W5 O 0 none 0 [] from ⟨rfl, O5, World.ownsRow_nil _ _ _ _, ⟨rfl, rfl, rfl, Nat.le_refl _, fun _ _ _ => rfl⟩, hs5⟩)
  have SEE := Lib.hid (MsP.of_owns rfl hown)
  have hne := Lib.hid (show ∀ x, aa = some x → x.block ≠ O from fun x e => by subst e; have := (hown.lt x.block rfl).1; omega)
  have hall : (xs ++ ys).length ≤ 32 := by rw [List.length_append]; omega
  clear hHX hHY hB3 hR3 hO3 hS3 hown b5 O5
  generalize xs ++ ys = zs at *
  go_wp2_with fail
  go_loopw [27] (fun i wr => ∃ (I n vc : Nat) (va : Option Addr), i = .int .i64 I ∧ I ≤ zs.length ∧ Hid (Merging W5 wr O n va vc (mrgAll (zs.take I)))) (fun i _ => zs.length - (intOf i).toNat)
  case atStart => exact ⟨0, 0, 0, none, rfl, Nat.zero_le _, M5⟩
  case round =>
    clear M5
    obtain ⟨I, n, vc, va, rfl, hI, hM⟩ := hrel
    have hOl := hM.out.olt
    have hOlt := hM.out.lt
    rcases Nat.lt_or_eq_of_le hI with hlt | heq
    · have d1 : decide ((I : Int) < (zs.length : Int)) = true := by simpa using hlt
      have HG := Lib.hid (GD.out I hI)
      have HF := Lib.hid (FI.out zs[I] (List.getElem_mem hlt))
      have HE := Lib.hid (mrgAll_succ hlt)
      obtain ⟨g, off, rfl, c0, c1, hg⟩ := (hM.out.sees SEE.out hne.out) I hlt
      have hgO := hne.out _ rfl
      generalize hz : zs[I] = m at *
      clear hz
      generalize mrgAll (zs.take I) = out at *
      obtain ⟨m1, m2, m3, m4⟩ := m
      have hn := hM.out.len
      subst hn
      go_upto_region 7 with fail
      have M3 := Lib.hid (heap_alloc_new wr (.cells #[.complex .f32 m1 m2, .complex .f32 m3 m4] 33))
      have hM3 := Lib.hid (hM.out.alloc (.cells #[.complex .f32 m1 m2, .complex .f32 m3 m4] 33))
      have hsz3 : wr.heap.size < (wr.alloc (.cells #[.complex .f32 m1 m2, .complex .f32 m3 m4] 33)).heap.size := by rw [World.size_alloc]; omega
      generalize wr.alloc (.cells #[.complex .f32 m1 m2, .complex .f32 m3 m4] 33) = W6 at *
      generalize wr.heap.size = M at *
      clear hM c0 c1
      have c0 := cur_cell hM3.out.box 0
      simp at c0
      have CALL := Lib.hid (indexFunc_c (cap := vc) (p := hasPole ⟨m1, m2, m3, m4⟩) (caps := #[.pointer (some ⟨M, 0, none⟩)]) W6 hM3.out.shows (fun x hx => (HG.out.num x hx).1) (by have := HG.out.len; omega) enter_merge1 (fun W x hb _ => merge1_c (m := ⟨m1, m2, m3, m4⟩) W ((hb.block _ hsz3).trans M3.out)))
      go_wp2_with fail
      refine CALL.out.mono ?_
      rintro e W7 ⟨⟨i, rfl, hfound⟩, b7⟩
      have M7 := Lib.hid ((b7.block _ hsz3).trans M3.out)
      have hM7 := Lib.hid (hM3.out.below b7)
      have hsz7 := Nat.lt_of_lt_of_le hsz3 b7.size
      clear M3 hM3 b7 CALL c0
      have e0 := cur_cell M7.out 0
      have e1 := cur_cell M7.out 1
      have ck := cur_cell hM7.out.box 0
      simp at e0 e1 ck
      rcases hfound with ⟨rfl, hno⟩ | ⟨k, rfl, hk, hp, hno⟩
      · have HN := Lib.hid (mrg_new hno)
        clear hno
        have hown := hM7.out.own
        have hsz0 := hM7.out.grown.size
        have hol := HG.out.len
        go_wp2_with (at_builtin; refine wpList_append_own _ rfl _ _ 23 rfl W5.heap.size 33 i0 (.agg #[.complex .f32 0 0, .complex .f32 0 0]) 2 16 sliceM hi hz0 hz1 hz2 rfl (by decide) _ _ _ rfl (hown.alloc _) _ 1 1 [_, _] rfl rfl (new_two _ _ _ _) (two_ok rfl rfl) (by unfold maxLen; omega) (by omega) (by simp; omega) ?_; intro v' w1 hown1 hgrow1 _; obtain ⟨va', vc', rfl, hst, hfz, hfin⟩ := hM7.out.push (m := ⟨m1, m2, m3, m4⟩) hown1 hgrow1; have hfin := Lib.hid hfin; clear hown1 hgrow1)
        exact ⟨⟨I + 1, _, vc', va', by go_num, hlt, by rw [HE.out, HN.out]; exact hfin⟩, by simp [intOf]; omega⟩
      · have hol := HG.out.len
        obtain ⟨g', hva⟩ : ∃ g', va = some ⟨g', 0, none⟩ := by
          rcases hM7.out.own.2 with ⟨e, h0⟩ | ⟨g', c', cur, e, _⟩
          · omega
          · exact ⟨g', by injection e⟩
        subst hva
        have HN := Lib.hid (mrg_old hk (hp hk) hno)
        clear hno hp
        have hgO' := (hM7.out.own.lt g' rfl).1
        have hnum := HG.out.num _ (List.getElem_mem hk)
        obtain ⟨s1, _⟩ := gadd_eq hnum.2.2.2.1 HF.out.2.2.2.1
        obtain ⟨s2, _⟩ := gadd_eq hnum.2.2.2.2 HF.out.2.2.2.2
        have hU := Lib.hid (Merging.gain (show Merging W5 W7.drew O out.length _ vc out from hM7.out.drewN 1) hk (gadd out[k].c m3) (gadd out[k].d m4))
        have HJ := Lib.hid (show joined out[k] ⟨m1, m2, m3, m4⟩ = ⟨out[k].a, out[k].b, gadd out[k].c m3, gadd out[k].d m4⟩ from rfl)
        have hd0 : decide ((k : Int) < 0) = false := by simp
        have c0 : W7.cell? ⟨g', k * 2 + 1, none⟩ = some (.complex .f32 out[k].c out[k].d) := by
          rw [hM7.out.own.cellAt _ (by omega), (flat_get hk).2]
        have f0 := hM7.out.own.frozenAt (k * 2 + 1)
        clear hnum
        generalize hgc : gadd out[k].c m3 = gc at *
        generalize hgd : gadd out[k].d m4 = gd at *
        go_upto_region 10 with fail
        clear hgc hgd
        generalize out[k].c = oc at *
        generalize out[k].d = od at *
        go_still_tail 14, (by kernel_rfl)
        still_call (addSingle_c s1 s2 _)
        repeat still_step
        refine wpStill_nil ?_
        change wpList _ _ _ _ _ W7.drew
        have c6 : W7.drew.cell? ⟨g', k * 2 + 1, none⟩ = some (.complex .f32 oc od) := c0
        have f6 : W7.drew.frozen? ⟨g', k * 2 + 1, none⟩ = false := f0
        clear c0 f0 ck e0 e1
        have hM7 := hM7.out.len
        generalize W7.drew = w6 at *
        have hst6 := run_store_one (P := Try.prog) (v := .complex .f32 gc gd) rfl c6 f6
        go_wp2_with fail
        exact ⟨⟨I + 1, _, vc, _, by go_num, hlt, by rw [HE.out, HN.out, HJ.out]; exact hU⟩, by simp [intOf]; omega⟩
    · subst heq
      have d1 : decide ((zs.length : Int) < (zs.length : Int)) = false := by simp
      have HG := Lib.hid (GD.out zs.length (Nat.le_refl _))
      rw [List.take_of_length_le (Nat.le_refl _)] at HG hM
      generalize mrgAll zs = out at *
      have hn := hM.out.len
      subst hn
      have hol := HG.out.len
      have B6 := Lib.hid (show Below w.heap.size w wr from B5.out.trans ⟨hM.out.grown.os, hM.out.grown.tape, hM.out.grown.output, hM.out.grown.size, fun k hk => hM.out.old (by have := B5.out.size; omega) (by omega)⟩)
      have R6 := Lib.hid ((hM.out.old (show w.heap.size + 1 + 1 < W5.heap.size by omega) (by omega)).trans R5.out)
      have CK := Lib.hid (checked_c (cap := vc) wr hM.out.shows (fun x hx => (HG.out.num x hx).1) (by omega))
      have ck := cur_cell hM.out.box 0
      simp at ck
      clear B5 R5 hM HG GD FI SEE hne
      go_wp2_with fail
      refine CK.out.mono ?_
      rintro e w1 ⟨v, rfl, hown, b1⟩
      obtain ⟨va', vc', rfl⟩ := owns_slice hown
      have R7 := (b1.block _ (by omega)).trans R6.out
      have c1 := cur_cell R7 0
      have f1 := cur_free R7 0
      simp at c1
      have hR5 := Lib.hid (cur_set R7 0 (.slice va' (kept out).length vc'))
      have hown5 := Lib.hid (owns_le (base' := w.heap.size) (ownsRow_setCell_other (a := ⟨w.heap.size + 1 + 1, 0, none⟩) hown (fun e => by have := (hown.lt _ e).1; simp at this <;> omega) (.slice va' (kept out).length vc')) (by omega))
      have B7 := Lib.hid (below_set (B6.out.trans (b1.mono (by omega))) (show w.heap.size ≤ w.heap.size + 1 + 1 by omega) 0 (.slice va' (kept out).length vc'))
      clear hown b1 R6 B6 R7 CK ck
      go_wp2_with fail
      refine bodyPost_ret_by (v := .tuple #[.agg #[.slice va' (kept out).length vc'], .bool (okL out)]) ?_ rfl ⟨_, rfl, hown5.out, B7.out⟩
      exact results_body rfl _ _ (w.heap.size + 1 + 1) _ #[.slice va' (kept out).length vc'] _ _ _ rfl rfl hR5.out rfl Try.underlying25 (by kernel_rfl)
end Go.Proofs.Ytkaajnmbmjnplaa
