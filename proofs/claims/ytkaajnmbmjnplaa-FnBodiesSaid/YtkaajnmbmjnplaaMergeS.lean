import Derived.Test.YtkaajnmbmjnplaaMergeI
import Derived.Deep.RegionHeld3
import Derived.Deep.AppendLies
import Derived.Laws.OwnMore
import Derived.Deep.QuietTactic
import Derived.BigQuiet
namespace Go.Proofs.Ytkaajnmbmjnplaa
open Go.RowKit Go.Fl

/-- Modes appended to what is owned. -/
theorem append_modes_run {W : World} {base n c : Nat} {v : Value} {a : Option Addr} {zs xs : List MW} (hn : n = zs.length) (hown : W.ownsRow base 33 2 v n (flat zs)) (hx : MsP W a xs) (hle : n + xs.length ≤ 1000) (hb : base ≤ W.heap.size) (ty : TypeId) :
    ∃ v' w', (Builtin.append_ #[23, 23] ty #[v, .slice a xs.length c]).run Try.prog W = .ok v' w' ∧ w'.ownsRow base 33 2 v' (zs ++ xs).length (flat (zs ++ xs)) ∧ W.grownBy w' v.ownBlock := by
  subst hn
  obtain ⟨i0, hi, hz0, hz1, hz2⟩ := info_parts' info33
  cases a with
  | none =>
    have e := nil_of_none hx
    subst e
    exact ⟨v, W, append_nil hi hown rfl ty, by rw [List.append_nil]; exact hown, ⟨rfl, rfl, rfl, Nat.le_refl _, fun _ _ _ => rfl⟩⟩
  | some ad =>
    obtain ⟨v', w', h1, h2, h3, _⟩ := run_append_own (P := Try.prog) W base 23 ty 33 i0 (.agg #[.complex .f32 0 0, .complex .f32 0 0]) 2 16 sliceM hi hz0 hz1 hz2 rfl (by decide) v zs.length (flat zs) hown ad xs.length c (flat xs) (flat_length xs) hx.cells (flat_one xs) (by unfold maxLen; omega) (by omega) hb
    exact ⟨v', w', h1, by rw [List.length_append, flat_append]; exact h2, h3⟩

/-- The same at a step of a region that draws its order. -/
theorem step_append_modes {ops : Array Oper} {o : Oper} {a : Act} {w : World} {K : Act → World → Prop} {Q : Exit → Act → World → Prop} {E : Prop} (hgd : o.guard = none) (s x : Operand)
    (ho : o.op = .call { callee := .builtin .append, args := #[s, x], argTypes := #[23, 23] }) (base n c : Nat) (v : Value) (ad : Option Addr) (zs xs : List MW) (hn : n = zs.length)
    (hs : a.eval s = v) (hown : w.ownsRow base 33 2 v n (flat zs)) (hx : a.eval x = .slice ad xs.length c) (hm : MsP w ad xs) (hle : n + xs.length ≤ 1000) (hb : base ≤ w.heap.size)
    (h : ∀ v' w', w'.ownsRow base 33 2 v' (zs ++ xs).length (flat (zs ++ xs)) → w.grownBy w' v.ownBlock → K (a.put o.dst v') w') :
    if Region.wanted o (yielded ops a.tmps) = true then Oper.wp Try.prog o a w K Q else E := by
  have hw : Region.wanted o (yielded ops a.tmps) = true := by simp [Region.wanted, hgd]
  rw [if_pos hw]
  obtain ⟨v', w', h1, h2, h3⟩ := append_modes_run (c := c) hn hown hm hle hb o.type
  exact Lib.wp_append_run w s x _ _ ho _ _ hs hx v' w' h1 (h v' w' h2 h3)

/-- The least place above K that fits, or -1. -/
def Least (p : MW → Bool) (xs : List MW) (K A : Int) : Prop := (A = -1 ∧ ∀ j (_ : j < xs.length), K < (j : Int) → p xs[j] = false) ∨ ∃ a : Nat, A = a ∧ K < a ∧ a < xs.length ∧ (∀ h : a < xs.length, p xs[a] = true) ∧ ∀ j (_ : j < xs.length), K < (j : Int) → j < a → p xs[j] = false

theorem Least.start (p : MW → Bool) (xs : List MW) : Least p xs ((xs.length : Int) - 1) (-1) := Or.inl ⟨rfl, fun j h hk => by omega⟩

theorem Least.no {p : MW → Bool} {xs : List MW} {k : Nat} {A : Int} (h : Least p xs k A) (hk : k < xs.length) (hp : p xs[k] = false) : Least p xs ((k : Int) - 1) A := by
  rcases h with ⟨h1, h2⟩ | ⟨a, h1, h2, h3, h4, h5⟩
  · refine Or.inl ⟨h1, fun j hj hlt => ?_⟩
    by_cases e : j = k
    · subst e; exact hp
    · exact h2 j hj (by omega)
  · refine Or.inr ⟨a, h1, by omega, h3, h4, fun j hj hlt hja => ?_⟩
    by_cases e : j = k
    · subst e; exact hp
    · exact h5 j hj (by omega) hja

theorem Least.yes {p : MW → Bool} {xs : List MW} {k : Nat} (hk : k < xs.length) (hp : p xs[k] = true) : Least p xs ((k : Int) - 1) k :=
  Or.inr ⟨k, rfl, by omega, hk, fun _ => hp, fun j _ h1 h2 => by omega⟩

theorem Least.found {p : MW → Bool} {xs : List MW} {A : Int} (h : Least p xs (-1) A) : Found p xs A := by
  rcases h with ⟨h1, h2⟩ | ⟨a, h1, h2, h3, h4, h5⟩
  · refine Or.inl ⟨h1, fun x hx => ?_⟩
    obtain ⟨j, hj, rfl⟩ := List.mem_iff_getElem.1 hx
    exact h2 j hj (by omega)
  · refine Or.inr ⟨a, h1, h3, h4, fun x hx => ?_⟩
    obtain ⟨j, hj, rfl⟩ := List.mem_take_iff_getElem.1 hx
    exact h5 j (by omega) (by omega) (by omega)

set_option maxRecDepth 10000 in
set_option maxHeartbeats 4000000 in
theorem mergeSpec_c {a b : Option Addr} {ca cb : Nat} {xs ys : List MW} (w : World) (hx : MsP w a xs) (hy : MsP w b ys) (wx : ∀ x ∈ xs, wfX x) (wy : ∀ x ∈ ys, wfX x) (kx : okL xs = true) (ky : okL ys = true) :
    Calls Try.prog 8 #[.agg #[.slice a xs.length ca], .agg #[.slice b ys.length cb]] w fun e w' => ∃ va n vc, e = .returned (.tuple #[.agg #[.slice va n vc], .bool (okL (mrgAll (xs ++ ys)))]) ∧ Below w.heap.size w w' := by
  have lenok : ∀ zs, okL zs = true → zs.length ≤ 16 := fun zs hk => by
    unfold okL at hk
    simp only [Bool.and_eq_true, decide_eq_true_eq] at hk
    exact hk.2
  have allok : ∀ zs, okL zs = true → (∀ x ∈ zs, wfX x) → ∀ x ∈ zs, MFin x := fun zs hk hw x hx => by
    unfold okL at hk
    simp only [Bool.and_eq_true, decide_eq_true_eq] at hk
    exact MFin.of (hw x hx) (List.all_eq_true.1 hk.1 x hx)
  have lx := lenok xs kx
  have ly := lenok ys ky
  have GD := Lib.hid (fun i hi => Good.all (xs := xs ++ ys) (fun x hx => by
    rcases List.mem_append.1 hx with h | h
    · exact allok xs kx wx x h
    · exact allok ys ky wy x h) i hi)
  have FI := Lib.hid (fun (x : MW) (hx : x ∈ xs ++ ys) => (show MFin x from by
    rcases List.mem_append.1 hx with h | h
    · exact allok xs kx wx x h
    · exact allok ys ky wy x h))
  have L0 := Lib.hid (fun w' hb => isBodySpec_c (cap := ca) w' (hx.below hb) wx (by omega))
  have L1 := Lib.hid (fun w' hb => isBodySpec_c (cap := cb) w' (hy.below hb) wy (by omega))
  rw [kx] at L0
  rw [ky] at L1
  have HX := Lib.hid hx
  have HY := Lib.hid hy
  clear hx hy wx wy kx ky lenok allok
  obtain ⟨i0, hi, hz0, hz1, hz2⟩ := info_parts' info33
  have t0 := store_new0
  have t1 := store_new1
  have u3 := under3
  go_enter Try.func8, Try.ntmps8
  go_upto_region 1 with fail
  obtain ⟨B0, P0, Q0, R0, hs0⟩ := three_new w (.cells #[.slice a xs.length ca] 25) (.cells #[.slice b ys.length cb] 25) (.cells #[.slice none 0 0] 25)
  generalize (((w.alloc (.cells #[.slice a xs.length ca] 25)).alloc (.cells #[.slice b ys.length cb] 25)).alloc (.cells #[.slice none 0 0] 25)) = W0 at *
  have cP := cur_cell P0 0
  simp at cP
  go_wp2_with fail
  refine (L0.out _ B0).mono ?_
  rintro e W1 ⟨rfl, b0⟩
  have B1 := B0.trans (b0.mono (by omega))
  have P1 := (b0.block _ (by omega)).trans P0
  have Q1 := (b0.block _ (by omega)).trans Q0
  have R1 := (b0.block _ (by omega)).trans R0
  have hs1 : w.heap.size + 3 ≤ W1.heap.size := Nat.le_trans (Nat.le_of_eq hs0) b0.size
  clear B0 P0 Q0 R0 hs0 b0 cP
  have cP := cur_cell Q1 0
  simp at cP
  go_wp2_with fail
  refine (L1.out _ B1).mono ?_
  rintro e W2 ⟨rfl, b0⟩
  have B2 := B1.trans (b0.mono (by omega))
  have P2 := (b0.block _ (by omega)).trans P1
  have Q2 := (b0.block _ (by omega)).trans Q1
  have R2 := (b0.block _ (by omega)).trans R1
  have hs2 : w.heap.size + 3 ≤ W2.heap.size := Nat.le_trans hs1 b0.size
  clear B1 P1 Q1 R1 hs1 b0 cP L0 L1
  go_upto_region 3 with fail
  have cP := cur_cell P2 0
  have cQ := cur_cell Q2 0
  simp at cP cQ
  have BA := (B2.alloc B2.size (.cells #[] 33)).drew
  have cPa : (W2.alloc (.cells #[] 33)).drew.cell? ⟨w.heap.size, 0, none⟩ = some (.slice a xs.length ca) := (World.cell?_of_block (heap_alloc_old W2 _ (show w.heap.size < W2.heap.size by omega))).trans cP
  have cQa : (W2.alloc (.cells #[] 33)).drew.cell? ⟨w.heap.size + 1, 0, none⟩ = some (.slice b ys.length cb) := (World.cell?_of_block (heap_alloc_old W2 _ (show w.heap.size + 1 < W2.heap.size by omega))).trans cQ
  have HXa := HX.out.below BA
  have owna := World.ownsRow.drew (World.ownsRow_made (base := W2.heap.size) (e := 33) (size := 2) (w := W2) #[] 0 (Nat.le_refl _) (by unfold maxLen; omega) (by simp))
  have sza : (W2.alloc (.cells #[] 33)).drew.heap.size = W2.heap.size + 1 := World.size_alloc _ _
  go_region_held3 (fun w' => w'.cell? ⟨w.heap.size, 0, none⟩ = some (.slice a xs.length ca) ∧ w'.cell? ⟨w.heap.size + 1, 0, none⟩ = some (.slice b ys.length cb))
    (first | exact ⟨cP, cQ⟩ | exact ⟨cPa, cQa⟩ | exact ⟨hPc, hQc⟩ | exact ⟨hPd, hQd⟩)
    ((first
      | (refine step_append_modes (by rfl) _ _ (by rfl) W2.heap.size 0 ca _ a [] xs rfl (by rfl) owna (by rfl) HXa (by omega) (by rw [sza]; omega) ?_
         intro v1 w1 hown1 hgrow1
         have hsz1 : W2.heap.size + 1 ≤ w1.heap.size := by have := hgrow1.size; rw [sza] at this; exact this
         have HYb := HY.out.below (BA.grown hgrow1 (by rw [sza]; omega) (fun k hk => by have := (owna.lt k hk).1; omega))
         have hPc := (hgrow1.cell_far ⟨w.heap.size, 0, none⟩ (show w.heap.size < _ by rw [sza]; omega) (fun e => by have := (owna.lt _ e.symm).1; simp at this; omega)).trans cPa
         have hQc := (hgrow1.cell_far ⟨w.heap.size + 1, 0, none⟩ (show w.heap.size + 1 < _ by rw [sza]; omega) (fun e => by have := (owna.lt _ e.symm).1; simp at this; omega)).trans cQa)
      | (refine step_append_modes (by rfl) _ _ (by rfl) W2.heap.size ([] ++ xs).length cb v1 b ([] ++ xs) ys rfl (by rfl) hown1 (by rfl) HYb (by simp; omega) (by omega) ?_
         intro v2 w2 hown2 hgrow2
         have hPd := (hgrow2.cell_far ⟨w.heap.size, 0, none⟩ (show w.heap.size < _ by omega) (fun e => by have := (hown1.lt _ e.symm).1; simp at this; omega)).trans hPc
         have hQd := (hgrow2.cell_far ⟨w.heap.size + 1, 0, none⟩ (show w.heap.size + 1 < _ by omega) (fun e => by have := (hown1.lt _ e.symm).1; simp at this; omega)).trans hQc
         obtain ⟨va, vc, rfl⟩ := owns_slice hown2)))
  have BC := (BA.grown hgrow1 (by rw [sza]; omega) (fun k hk => by have := (owna.lt k hk).1; omega)).grown hgrow2 (by omega) (fun k hk => by have := (hown1.lt k hk).1; omega)
  have R5 : w2.heap[w.heap.size + 1 + 1]? = some (.cells #[.slice none 0 0] 25 (0, 0)) :=
    (hgrow2.block _ (by omega) (fun e => by have := (hown1.lt _ e.symm).1; omega)).trans ((hgrow1.block _ (by rw [sza]; omega) (fun e => by have := (owna.lt _ e.symm).1; omega)).trans ((heap_alloc_old W2 _ (show w.heap.size + 1 + 1 < W2.heap.size by omega)).trans R2))
  have hsz2 : W2.heap.size + 1 ≤ w2.heap.size := by have := hgrow2.size; omega
  have hall : (xs ++ ys).length ≤ 32 := by rw [List.length_append]; omega
  rw [List.nil_append] at hown2
  simp only [List.nil_append]
  rw [← List.length_append]
  clear cP cQ cPa cQa HXa owna sza hown1 hgrow1 HYb hPc hQc hgrow2 hPd hQd HX HY BA B2 P2 Q2 R2
  generalize hzz : xs ++ ys = zs at *
  have HZ := Lib.hid hzz
  clear hzz
  have SEE0 := MsP.of_owns rfl hown2
  have hne := Lib.hid (show ∀ x, va = some x → x.block ≠ w2.heap.size from fun x e => by subst e; have := (hown2.lt x.block rfl).2; omega)
  have BC := Lib.hid BC
  have R5 := Lib.hid R5
  clear hown2
  go_upto_region 5 with fail
  have B5 := Lib.hid (BC.out.alloc BC.out.size (.cells #[.slice none 0 0] 25))
  have R6 := Lib.hid ((heap_alloc_old w2 (.cells #[.slice none 0 0] 25) (show w.heap.size + 1 + 1 < w2.heap.size by omega)).trans R5.out)
  have O5 := heap_alloc_new w2 (.cells #[.slice none 0 0] 25)
  have SEE := Lib.hid (SEE0.below ((Below.refl _ _).alloc (Nat.le_refl _) (.cells #[.slice none 0 0] 25)))
  have hs5 : w2.heap.size < (w2.alloc (.cells #[.slice none 0 0] 25)).heap.size := by rw [World.size_alloc]; omega
  have M5 := Lib.hid (show Merging (w2.alloc (.cells #[.slice none 0 0] 25)) (w2.alloc (.cells #[.slice none 0 0] 25)) w2.heap.size 0 none 0 [] from ⟨rfl, O5, World.ownsRow_nil _ _ _ _, ⟨rfl, rfl, rfl, Nat.le_refl _, fun _ _ _ => rfl⟩, hs5⟩)
  clear SEE0 O5 BC R5
  generalize w2.alloc (.cells #[.slice none 0 0] 25) = W5 at *
  generalize w2.heap.size = O at *
  go_wp2_with fail
  go_loopw [31] (fun i wr => ∃ (I n vc : Nat) (va : Option Addr), i = .int .i64 I ∧ I ≤ zs.length ∧ Hid (Merging W5 wr O n va vc (mrgAll (zs.take I)))) (fun i _ => zs.length - (intOf i).toNat)
  case atStart => exact ⟨0, 0, 0, none, rfl, Nat.zero_le _, M5⟩
  case round =>
    clear M5
    obtain ⟨I, n, vo, wa, rfl, hI, hM⟩ := hrel
    have hOl := hM.out.olt
    have hOlt := hM.out.lt
    rcases Nat.lt_or_eq_of_le hI with hlt | heq
    · have d1 : decide ((I : Int) < (zs.length : Int)) = true := by simpa using hlt
      have HG := Lib.hid (GD.out I hI)
      have HF := Lib.hid (FI.out zs[I] (List.getElem_mem hlt))
      have HE := Lib.hid (mrgAll_succ hlt)
      obtain ⟨g, off, rfl, c0, c1, hg⟩ := (hM.out.sees SEE.out hne.out) I hlt
      have hgO := hne.out _ rfl
      generalize hz : zs[I] = m at *
      clear hz
      generalize mrgAll (zs.take I) = out at *
      obtain ⟨m1, m2, m3, m4⟩ := m
      have hn := hM.out.len
      subst hn
      go_upto_region 8 with fail
      have M3 := Lib.hid (heap_alloc_new wr (.cells #[.complex .f32 m1 m2, .complex .f32 m3 m4] 33))
      have hM3 := Lib.hid (hM.out.alloc (.cells #[.complex .f32 m1 m2, .complex .f32 m3 m4] 33))
      have hsz3 : wr.heap.size < (wr.alloc (.cells #[.complex .f32 m1 m2, .complex .f32 m3 m4] 33)).heap.size := by rw [World.size_alloc]; omega
      generalize wr.alloc (.cells #[.complex .f32 m1 m2, .complex .f32 m3 m4] 33) = W6 at *
      generalize wr.heap.size = M at *
      clear hM c0 c1
      have c0 := cur_cell hM3.out.box 0
      simp at c0
      have hol := HG.out.len
      have hi1 : IntKind.i64.wrap ((out.length : Int) - 1) = (out.length : Int) - 1 := by rw [IntKind.wrap_i64]; omega
      go_wp2_with fail
      go_loopw [10, 11] (fun x k wr => ∃ (K A : Int), x = .int .i64 A ∧ k = .int .i64 K ∧ -1 ≤ K ∧ K < out.length ∧ Hid (Least (hasPole ⟨m1, m2, m3, m4⟩) out K A) ∧ Hid (Merging W5 wr O out.length wa vo out) ∧ Hid (wr.heap[M]? = some (.cells #[.complex .f32 m1 m2, .complex .f32 m3 m4] 33 (0, 0))) ∧ M < wr.heap.size) (fun _ k _ => (intOf k + 1).toNat)
      case atStart => exact ⟨_, -1, rfl, rfl, by omega, by omega, Lib.hid (Least.start _ _), hM3, M3, hsz3⟩
      case round =>
        clear hM3 M3 hsz3 c0
        obtain ⟨K, A, rfl, rfl, hK0, hK1, hLe, hM3, M3, hsz3⟩ := hrel
        have co := cur_cell hM3.out.box 0
        have e0 := cur_cell M3.out 0
        have e1 := cur_cell M3.out 1
        simp at co e0 e1
        rcases (show K = -1 ∨ ∃ k : Nat, K = k ∧ k < out.length from by
          rcases (show K < 0 ∨ 0 ≤ K by omega) with h | h
          · exact Or.inl (by omega)
          · exact Or.inr ⟨K.toNat, by omega, by omega⟩) with rfl | ⟨k, rfl, hk⟩
        · have hfound := hLe.out.found
          clear hLe
          rcases hfound with ⟨rfl, hno⟩ | ⟨k, rfl, hk, hp, hno⟩
          · have HN := Lib.hid (mrg_new hno)
            clear hno
            have hown := hM3.out.own
            have hsz0 := hM3.out.grown.size
            go_wp2_with (at_builtin; refine wpList_append_own _ rfl _ _ 23 rfl W5.heap.size 33 i0 (.agg #[.complex .f32 0 0, .complex .f32 0 0]) 2 16 sliceM hi hz0 hz1 hz2 rfl (by decide) _ _ _ rfl (hown.alloc _) _ 1 1 [_, _] rfl rfl (new_two _ _ _ _) (two_ok rfl rfl) (by unfold maxLen; omega) (by omega) (by simp; omega) ?_; intro v' w1 hown1 hgrow1 _; obtain ⟨va', vc', rfl, hst, hfz, hfin⟩ := hM3.out.push (m := ⟨m1, m2, m3, m4⟩) hown1 hgrow1; have hfin := Lib.hid hfin; clear hown1 hgrow1)
            exact ⟨⟨I + 1, _, vc', va', by go_num, hlt, by rw [HE.out, HN.out]; exact hfin⟩, by simp [intOf]; omega⟩
          · obtain ⟨g', hva⟩ : ∃ g', wa = some ⟨g', 0, none⟩ := by
              rcases hM3.out.own.2 with ⟨e, h0⟩ | ⟨g', c', cur, e, _⟩
              · omega
              · exact ⟨g', by injection e⟩
            subst hva
            have HN := Lib.hid (mrg_old hk (hp hk) hno)
            clear hno hp
            have hgO' := (hM3.out.own.lt g' rfl).1
            have hnum := HG.out.num _ (List.getElem_mem hk)
            obtain ⟨s1, _⟩ := gadd_eq hnum.2.2.2.1 HF.out.2.2.2.1
            obtain ⟨s2, _⟩ := gadd_eq hnum.2.2.2.2 HF.out.2.2.2.2
            have hU := Lib.hid (Merging.gain (show Merging W5 wr.drew O out.length _ vo out from hM3.out.drewN 1) hk (gadd out[k].c m3) (gadd out[k].d m4))
            have HJ := Lib.hid (show joined out[k] ⟨m1, m2, m3, m4⟩ = ⟨out[k].a, out[k].b, gadd out[k].c m3, gadd out[k].d m4⟩ from rfl)
            have hd0 : decide ((k : Int) < 0) = false := by simp
            have c0 : wr.cell? ⟨g', k * 2 + 1, none⟩ = some (.complex .f32 out[k].c out[k].d) := by
              rw [hM3.out.own.cellAt _ (by omega), (flat_get hk).2]
            have f0 := hM3.out.own.frozenAt (k * 2 + 1)
            clear hnum
            generalize hgc : gadd out[k].c m3 = gc at *
            generalize hgd : gadd out[k].d m4 = gd at *
            go_upto_region 16 with fail
            clear hgc hgd
            generalize out[k].c = oc at *
            generalize out[k].d = od at *
            go_still_tail 14, (by kernel_rfl)
            still_call (l2Add_c s1 s2 _)
            repeat still_step
            refine wpStill_nil ?_
            change wpList _ _ _ _ _ wr.drew
            have c6 : wr.drew.cell? ⟨g', k * 2 + 1, none⟩ = some (.complex .f32 oc od) := c0
            have f6 : wr.drew.frozen? ⟨g', k * 2 + 1, none⟩ = false := f0
            clear c0 f0 co e0 e1 hM3 M3 hsz3
            generalize wr.drew = w6 at *
            have hst6 := run_store_one (P := Try.prog) (v := .complex .f32 gc gd) rfl c6 f6
            go_wp2_with fail
            exact ⟨⟨I + 1, _, vo, _, by go_num, hlt, by rw [HE.out, HN.out, HJ.out]; exact hU⟩, by simp [intOf]; omega⟩
        · have dk : decide ((k : Int) ≥ 0) = true := by simp
          obtain ⟨g', hva⟩ : ∃ g', wa = some ⟨g', 0, none⟩ := by
            rcases hM3.out.own.2 with ⟨e, h0⟩ | ⟨g', c', cur, e, _⟩
            · omega
            · exact ⟨g', by injection e⟩
          subst hva
          have c0 : wr.cell? ⟨g', k * 2, none⟩ = some (.complex .f32 out[k].a out[k].b) := by
            rw [hM3.out.own.cellAt _ (by omega), (flat_get hk).1]
          have NO := Lib.hid (fun hp => hLe.out.no hk hp)
          have YES := Lib.hid (fun hp => Least.yes (p := hasPole ⟨m1, m2, m3, m4⟩) hk hp)
          have HP := Lib.hid (show hasPole ⟨m1, m2, m3, m4⟩ out[k] = (weq out[k].a m1 && weq out[k].b m2) from rfl)
          generalize out[k].a = oa at *
          generalize out[k].b = ob at *
          go_upto_region 12 with fail
          have hkI : (k : Int) < (out.length : Int) := by omega
          go_quiet (fail)
          go_wp2_with fail
          · rename_i hc
            have hp : hasPole ⟨m1, m2, m3, m4⟩ out[k] = true := by
              rw [HP.out]; unfold weq
              rw [hc.1, hc.2]; rfl
            exact ⟨⟨_, _, rfl, rfl, by omega, by omega, Lib.hid (YES.out hp), Lib.hid (hM3.out.drewN nq), M3, hsz3⟩, by simp [intOf] <;> omega⟩
          · rename_i hc
            have hp : hasPole ⟨m1, m2, m3, m4⟩ out[k] = false := by
              rw [HP.out]; unfold weq
              rcases hc with h | h <;> rw [h]
              · rfl
              · rw [Bool.and_false]
            exact ⟨⟨_, _, rfl, rfl, by omega, by omega, Lib.hid (NO.out hp), Lib.hid (hM3.out.drewN nq), M3, hsz3⟩, by simp [intOf] <;> omega⟩
    · subst heq
      have d1 : decide ((zs.length : Int) < (zs.length : Int)) = false := by simp
      have HG := Lib.hid (GD.out zs.length (Nat.le_refl _))
      rw [List.take_of_length_le (Nat.le_refl _)] at HG hM
      generalize hoo : mrgAll zs = out at *
      have HO := Lib.hid (show mrgAll (xs ++ ys) = out by rw [HZ.out]; exact hoo)
      clear hoo
      have hn := hM.out.len
      subst hn
      have hol := HG.out.len
      have B6 := Lib.hid (show Below w.heap.size w wr from B5.out.trans ⟨hM.out.grown.os, hM.out.grown.tape, hM.out.grown.output, hM.out.grown.size, fun k hk => hM.out.old (by have := B5.out.size; omega) (by omega)⟩)
      have hRr := Lib.hid ((hM.out.old (show w.heap.size + 1 + 1 < W5.heap.size by omega) (by omega)).trans R6.out)
      have CK := Lib.hid (isBodySpec_c (cap := vo) wr hM.out.shows (fun x hx => (HG.out.num x hx).1) (by omega))
      have ck := cur_cell hM.out.box 0
      simp at ck
      clear B5 R6 HG GD FI SEE hne
      go_wp2_with fail
      refine CK.out.mono ?_
      rintro e w1 ⟨rfl, b1⟩
      have R7 := (b1.block _ (by omega)).trans hRr.out
      have c1 := cur_cell R7 0
      have f1 := cur_free R7 0
      simp at c1
      have c2 := cur_cell (hM.out.below b1).box 0
      simp at c2
      have B7 := Lib.hid (B6.out.trans (b1.mono (by omega)))
      cases hk : okL out
      all_goals have HK := Lib.hid hk
      case false =>
        have hR5 := Lib.hid (cur_set R7 0 (.slice none 0 0))
        have B8 := Lib.hid (below_set B7.out (show w.heap.size ≤ w.heap.size + 1 + 1 by omega) 0 (.slice none 0 0))
        clear b1 hRr B6 R7 CK ck hM hk
        go_wp2_with fail
        refine bodyPost_ret_by (v := .tuple #[.agg #[.slice none 0 0], .bool false]) ?_ rfl ⟨none, 0, 0, by rw [HO.out, HK.out], B8.out⟩
        exact results_body rfl _ _ (w.heap.size + 1 + 1) _ #[.slice none 0 0] _ _ _ rfl rfl hR5.out rfl Try.underlying25 (by kernel_rfl)
      case true =>
        have hR5 := Lib.hid (cur_set R7 0 (.slice wa out.length vo))
        have B8 := Lib.hid (below_set B7.out (show w.heap.size ≤ w.heap.size + 1 + 1 by omega) 0 (.slice wa out.length vo))
        clear b1 hRr B6 R7 CK ck hM hk
        go_wp2_with fail
        refine bodyPost_ret_by (v := .tuple #[.agg #[.slice wa out.length vo], .bool true]) ?_ rfl ⟨wa, out.length, vo, by rw [HO.out, HK.out], B8.out⟩
        exact results_body rfl _ _ (w.heap.size + 1 + 1) _ #[.slice wa out.length vo] _ _ _ rfl rfl hR5.out rfl Try.underlying25 (by kernel_rfl)
end Go.Proofs.Ytkaajnmbmjnplaa
