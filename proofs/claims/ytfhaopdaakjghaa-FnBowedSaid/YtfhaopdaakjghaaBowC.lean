import Derived.Test.YtfhaopdaakjghaaBowL
import Derived.Laws.MakeOwn
namespace Go.Proofs.Ytfhaopdaakjghaa
open Go.RowKit Go.Fl

theorem info31 : (Try.prog.info? 53).map (fun i => (i.zero, i.size, i.bytes)) = some (some (.complex .f32 0 0), 1, 8) := by kernel_rfl
theorem slice82 : Try.prog.underlying 59 = some (.slice 53) := by kernel_rfl
theorem info35 : (Try.prog.info? 25).map (fun i => (i.zero, i.size, i.bytes)) = some (some (.float .f32 0), 1, 4) := by kernel_rfl
theorem slice44 : Try.prog.underlying 23 = some (.slice 25) := by kernel_rfl

theorem make_states (n : Nat) (hn : n ≤ 16) (W : World) : (Instr.makeSlice 59 (.int .i64 n) (.int .i64 n)).run Try.prog W = .ok (.slice (some ⟨W.heap.size, 0, none⟩) n n) (W.alloc (.cells (zvals (List.replicate n (0, 0))).toArray 53)) := by
  obtain ⟨i0, hi, hz0, hz1, hz2⟩ := info_parts' info31
  have h := run_make (P := Try.prog) W 59 53 i0 _ slice82 hi hz0 .i64 .i64 n n (by omega) (by omega) (by rw [hz2]; omega) (by omega)
  rw [h, hz1]
  have e : madeCells (Value.complex .f32 0 0).cells ((n : Int).toNat * 1) = (zvals (List.replicate n (0, 0))).toArray := by
    apply Array.ext'
    simp [madeCells, zvals, Value.cells]
    apply List.ext_getElem
    · simp
    · intro i h1 h2
      simp [Nat.mod_one]
  rw [e]
  simp


/-- What bowing twelve steps gives. -/
def RetBow (P : Option Nat) (w : World) (e : Ending) (w' : World) : Prop :=
  ∃ (v : Value) (l : List Nat) (n : Nat), e = .returned (.tuple #[v, .int .i64 n]) ∧ l.length = 12 ∧ (∀ x ∈ l, x < 2 ^ 32) ∧ (∃ r, l[10]? = some r ∧ FV .f32 P r) ∧ (isFin .f32 P = true → n = 12) ∧ w'.ownsRow w.heap.size 25 1 v 12 (fvals .f32 l) ∧ Below w.heap.size w w'

set_option maxRecDepth 10000 in
set_option maxHeartbeats 4000000 in
theorem bowing_c {ma : Option Addr} {mc bow : Nat} {xs : List MW} (w : World) (hm : MsP w ma xs) (hw : ∀ x ∈ xs, wfX x) (hlim : ∀ m ∈ xs, MLim m) (hl : xs.length ≤ 3) (hb : Bd 1 3 bow) :
    Calls Try.prog 18 #[.agg #[.slice ma xs.length mc], .float .f32 bow, .float .f32 2139095039, .int .i64 12] w (RetBow (lastC xs bow 11) w) := by
  have HM := Lib.hid hm
  have HW := Lib.hid hw
  have SM := Lib.hid (fun I hI => bw_small hlim hl hb I hI)
  have RD := Lib.hid (fun I hI => bw_ready hlim hl hb I hI)
  have LN := Lib.hid (fun I hI => lastC_next hlim hl hb (I := I) hI)
  have fb := hb.fin (rep1 (by omega))
  have FB := Lib.hid (show FV .f32 (some bow) bow from by rw [← cl_fin (k := .f32) fb]; exact FV.of_lt (k := .f32) hb.1)
  have FG := Lib.hid (show FV .f32 (some 2139095039) 2139095039 from by rw [← cl_fin (k := .f32) (x := 2139095039) (by unfold fin; decide)]; exact FV.of_lt (k := .f32) (by decide))
  have SB := Lib.hid (fun v fv => sub_big (v := v) hb fv)
  clear hm hw hlim fb
  have u3 := under3
  obtain ⟨i0, hi, hz0, hz1, hz2⟩ := info_parts' info35
  have mk := make_states xs.length (by omega)
  go_enter Try.func18, Try.ntmps18
  go_upto_region 1 with fail
  have B0 : Below w.heap.size w (w.alloc (.cells #[.slice ma xs.length mc] 30)) := (Below.refl _ _).alloc (Nat.le_refl _) _
  have P0 := heap_alloc_new w (.cells #[.slice ma xs.length mc] 30)
  have hs0 : w.heap.size < (w.alloc (.cells #[.slice ma xs.length mc] 30)).heap.size := by rw [World.size_alloc]; omega
  generalize w.alloc (.cells #[.slice ma xs.length mc] 30) = W2 at *
  have cP := cur_cell P0 0
  simp at cP
  go_upto_region 2 with fail
  have S3 := (World.ownsRow_lit (base := W2.heap.size) (e := 53) (size := 1) W2 (zvals (List.replicate xs.length (0, 0))).toArray xs.length (Nat.le_refl _) (by unfold maxLen; omega) (by simp [zvals])).alloc (.cells #[] 25)
  have O3 := World.ownsRow_made (base := W2.heap.size + 1) (e := 25) (size := 1) (w := W2.alloc (.cells (zvals (List.replicate xs.length (0, 0))).toArray 53)) #[] 0 (by simp) (by unfold maxLen; omega) (by simp)
  rw [World.size_alloc] at O3
  have B3 := (B0.alloc B0.size (.cells (zvals (List.replicate xs.length (0, 0))).toArray 53)).alloc (by rw [World.size_alloc]; have := B0.size; omega) (.cells #[] 25)
  have P3 := (heap_alloc_old (W2.alloc (.cells (zvals (List.replicate xs.length (0, 0))).toArray 53)) (.cells #[] 25) (by rw [World.size_alloc]; omega)).trans ((heap_alloc_old W2 (.cells (zvals (List.replicate xs.length (0, 0))).toArray 53) hs0).trans P0)
  have hZ : W2.heap.size + 2 = ((W2.alloc (.cells (zvals (List.replicate xs.length (0, 0))).toArray 53)).alloc (.cells #[] 25)).heap.size := by rw [World.size_alloc, World.size_alloc]
  generalize ((W2.alloc (.cells (zvals (List.replicate xs.length (0, 0))).toArray 53)).alloc (.cells #[] 25)) = W3 at *
  generalize W2.heap.size = Z at *
  have hRZ0 : w.heap.size < Z := hs0
  have HZ := Lib.hid (show xs.length ≠ 0 → ∀ a, ma = some a → some a.block ≠ Value.ownBlock (.slice (some ⟨Z, 0, none⟩) xs.length xs.length) from fun h0 a ha e => by
    obtain ⟨g, off, e2, _, _, hg⟩ := HM.out 0 (by omega)
    rw [ha] at e2
    injection e2 with e2
    subst e2
    have e3 : g = Z := by injection e
    omega)
  have HS3 := Lib.hid (show W3.ownsRow Z 53 1 (.slice (some ⟨Z, 0, none⟩) xs.length xs.length) xs.length (zvals (List.replicate xs.length (0, 0))) from by simpa using S3)
  have HO3 := Lib.hid O3
  have HB3 := Lib.hid B3
  have HP3 := Lib.hid P3
  clear S3 O3 B3 P3 B0 P0 cP mk
  go_wp2_with fail
  go_loopw [11, 12, 13, 22] (fun v n x i wr => ∃ (I N rl : Nat) (l : List Nat) (zs : List ZW), i = .int .i64 I ∧ I ≤ 12 ∧ n = .int .i64 N ∧ x = .float .f32 rl ∧ l.length = I ∧ zs.length = xs.length ∧
    ((I ≤ 11 ∧ I = N ∧ zs = (bwS xs bow I).1 ∧ FV .f32 (lastC xs bow I) rl) ∨ (I = 12 ∧ N ≤ 12 ∧ (isFin .f32 (lastC xs bow 11) = true → N = 12))) ∧ (11 ≤ I → ∃ r, l[10]? = some r ∧ FV .f32 (lastC xs bow 11) r) ∧ Hid (∀ y ∈ l, y < 2 ^ 32) ∧ Hid (ZsW zs) ∧
    Hid (wr.ownsRow Z 53 1 (.slice (some ⟨Z, 0, none⟩) xs.length xs.length) xs.length (zvals zs)) ∧ Hid (wr.ownsRow (Z + 1) 25 1 v I (fvals .f32 l)) ∧ Hid (wr.heap[w.heap.size]? = some (.cells #[.slice ma xs.length mc] 30 (0, 0))) ∧ Hid (Below w.heap.size w wr) ∧ Z + 2 ≤ wr.heap.size) (fun _ _ _ i _ => 12 - (intOf i).toNat)
  case atStart => exact ⟨0, 0, 0, [], _, rfl, by omega, rfl, rfl, rfl, bwS_length xs bow 0, Or.inl ⟨by omega, rfl, rfl, FV.of_lt (k := .f32) (b := 0) (by decide)⟩, fun h => by omega, Lib.hid (by simp), Lib.hid (fun z hz => by rw [List.eq_of_mem_replicate hz]; exact ⟨by decide, by decide⟩), HS3, HO3, HP3, HB3, Nat.le_of_eq hZ⟩
  case round =>
    clear HS3 HO3 HB3 HP3
    obtain ⟨I, N, rl, l, zs, rfl, hI, rfl, rfl, hll, hzl, hst, h10, hlt32, hzw, hS, hO, hP, hB, hZs⟩ := hrel
    have hne9 : u11.ownBlock = none ∨ u11.ownBlock ≠ some Z := by
      cases ho : u11.ownBlock with
      | none => exact Or.inl rfl
      | some k => right; intro e; injection e with e; have := (hO.out.lt k ho).1; omega
    have cP := cur_cell hP.out 0
    simp at cP
    rcases hst with ⟨hI11, rfl, rfl, hrl⟩ | ⟨rfl, hN, hfin⟩
    · have d1 : decide ((I : Int) < 12) = true := by simp; omega
      rcases Nat.lt_or_eq_of_le hI11 with hI10 | rfl
      · obtain ⟨_, hbd3, hsub, hbd⟩ := SM.out I (by omega)
        have hlc : lastC xs bow I = some (bwS xs bow I).2 := if_pos (by omega)
        obtain ⟨hs1, hf1⟩ := stick_fin hsub (hbd.fin (rep13 (by omega)))
        have RDI := Lib.hid (RD.out I (by omega))
        have LNI := Lib.hid (LN.out I (by omega))
        rw [hlc] at hrl
        have BW := Lib.hid (fun W => bowedImpl_c FB.out hrl FG.out W)
        rw [hs1, hf1] at BW
        have hlen := bwS_length xs bow I
        have hSt := Lib.hid (show (bwS xs bow (I + 1)).1 = stepsW xs (bwS xs bow I).1 (fo .sub .f32 bow (bwS xs bow I).2) from rfl)
        clear hs1 hf1 hsub hbd hbd3 hlc hrl
        generalize fo .sub .f32 bow (bwS xs bow I).2 = d at *
        go_wp2_with fail
        refine (BW.out _).mono ?_
        rintro e _ ⟨r', rfl, hr', nq, rfl⟩
        obtain ⟨rfl, _⟩ := hr'.not_nan
        have hBd : Below w.heap.size w (wr.drewN nq) := below_drewN' hB.out nq
        have hSd : (wr.drewN nq).ownsRow Z 53 1 (.slice (some ⟨Z, 0, none⟩) xs.length xs.length) xs.length (zvals (bwS xs bow I).1) := hS.out
        have hOd : (wr.drewN nq).ownsRow (Z + 1) 25 1 u11 I (fvals .f32 l) := hO.out
        have hPd : (wr.drewN nq).heap[w.heap.size]? = some (.cells #[.slice ma xs.length mc] 30 (0, 0)) := hP.out
        have hZd : Z + 2 ≤ (wr.drewN nq).heap.size := hZs
        go_wp2_with fail
        refine (stepG_c (base := Z) (wr.drewN nq) (HM.out.below hBd) (by omega) RDI.out hlen hSd HZ.out).mono ?_
        rintro e W8 ⟨ro, rfl, fro, s8, g8⟩
        rw [← LNI.out] at fro
        rw [← hSt.out] at s8
        have hzw8 := Lib.hid (show ZsW (bwS xs bow (I + 1)).1 from by
          rw [hSt.out]
          intro z hz
          unfold stepsW at hz
          obtain ⟨k, hk, rfl⟩ := List.getElem_of_mem hz
          rw [List.length_zipWith] at hk
          rw [List.getElem_zipWith]
          exact (RDI.out k (by omega) (by omega)).lt)
        have hlen8 := bwS_length xs bow (I + 1)
        have hz8 : Z + 2 ≤ W8.heap.size := Nat.le_trans hZd g8.size
        have hRZ : w.heap.size < Z := hRZ0
        have P8 := (g8.block w.heap.size (by omega) (fun e => absurd (show w.heap.size = Z from by injection e) (by omega))).trans hPd
        have O8 := hOd.kept g8 hne9
        have B8 := hBd.grown g8 hBd.size (fun k hk => by
          have e3 : Z = k := by injection hk
          omega)
        go_wp2_with (at_builtin; refine wpList_append_own _ rfl _ _ 23 rfl (Z + 1) 25 i0 (.float .f32 0) 1 4 slice44 hi hz0 hz1 hz2 rfl (by decide) _ _ _ rfl (O8.alloc _) _ 1 1 [_] rfl rfl (new_one _ _ _) (one_ok rfl) (by unfold maxLen; omega) (by omega) (by rw [World.size_alloc]; omega) ?_; intro v' w1 hown1 hgrow1 _)
        have hgrow2 : (W8.alloc (.cells #[.float .f32 ro] 25)).grownBy w1 u11.ownBlock := hgrow1
        have hsa : (W8.alloc (.cells #[.float .f32 ro] 25)).heap.size = W8.heap.size + 1 := World.size_alloc _ _
        have N0 := Lib.hid (show ∀ y ∈ l ++ [ro], y < 2 ^ 32 from fun y hy => by
          rcases List.mem_append.1 hy with h | h
          · exact hlt32.out y h
          · rw [List.mem_singleton.1 h]; exact fro.2)
        have N1 := Lib.hid (show w1.ownsRow (Z + 1) 25 1 v' (I + 1) (fvals .f32 (l ++ [ro])) from by
          unfold fvals
          rw [List.map_append]
          exact hown1)
        have N2 := Lib.hid ((s8.alloc (.cells #[.float .f32 ro] 25)).kept hgrow2 (by
          right
          intro e
          rcases hne9 with h | h
          · rw [h] at e; cases e
          · exact h e.symm))
        have N3 := Lib.hid (show w1.heap[w.heap.size]? = some (.cells #[.slice ma xs.length mc] 30 (0, 0)) from
          (hgrow2.block w.heap.size (by rw [hsa]; omega) (fun e => by have := (O8.lt _ e.symm).1; omega)).trans ((heap_alloc_old W8 _ (show w.heap.size < W8.heap.size by omega)).trans P8))
        have N4 := Lib.hid ((B8.alloc B8.size (.cells #[.float .f32 ro] 25)).grown hgrow2 (by rw [hsa]; omega) (fun k hk => by have := (O8.lt k hk).1; omega))
        have N5 : Z + 2 ≤ w1.heap.size := by have := hgrow2.size; rw [hsa] at this; omega
        refine ⟨⟨I + 1, I + 1, ro, l ++ [ro], _, by go_num, by omega, by go_num, rfl, by simp [hll], hlen8, Or.inl ⟨by omega, rfl, rfl, fro⟩, fun h11 => ?_, N0, hzw8, N2, N1, N3, N4, N5⟩, by simp [intOf]; omega⟩
        have : I = 10 := by omega
        subst this
        exact ⟨ro, by rw [List.getElem?_append_right (by omega), hll]; rfl, fro⟩
      · have BW := Lib.hid (fun W => bowedImpl_c FB.out hrl FG.out W)
        have STK := Lib.hid (show isFin .f32 (lastC xs bow 11) = true → bowSticks (some bow) (lastC xs bow 11) (some 2139095039) = true from fun hf => by
          cases hp : lastC xs bow 11 with
          | none => rw [hp] at hf; cases hf
          | some v =>
            rw [hp] at hf
            unfold isFin at hf
            obtain ⟨d, hd, fd⟩ := SB.out v (show fin .f32 v from by simp at hf; exact hf)
            exact (stick_fin hd fd).1)
        have HRL := Lib.hid hrl
        clear hrl
        generalize bowSticks (some bow) (lastC xs bow 11) (some 2139095039) = tb at *
        generalize bowForce (some bow) (lastC xs bow 11) (some 2139095039) = pf at *
        go_wp2_with fail
        refine (BW.out _).mono ?_
        rintro e _ ⟨r', rfl, hr', nq, rfl⟩
        have hBd : Below w.heap.size w (wr.drewN nq) := below_drewN' hB.out nq
        have hSd : (wr.drewN nq).ownsRow Z 53 1 (.slice (some ⟨Z, 0, none⟩) xs.length xs.length) xs.length (zvals (bwS xs bow 11).1) := hS.out
        have hOd : (wr.drewN nq).ownsRow (Z + 1) 25 1 u11 11 (fvals .f32 l) := hO.out
        have hPd : (wr.drewN nq).heap[w.heap.size]? = some (.cells #[.slice ma xs.length mc] 30 (0, 0)) := hP.out
        have hZd : Z + 2 ≤ (wr.drewN nq).heap.size := hZs
        cases tb
        all_goals
          go_wp2_with fail
          refine (stepAny_c (base := Z) (wr.drewN nq) (HM.out.below hBd) (by omega) HW.out hzw.out hr'.2 hzl hSd HZ.out).mono ?_
          rintro e W8 ⟨ro, co, ys, rfl, fro, hyw, hyl, s8, g8⟩
          have hzw8 := Lib.hid hyw
          have hz8 : Z + 2 ≤ W8.heap.size := Nat.le_trans hZd g8.size
          have hRZ : w.heap.size < Z := hRZ0
          have P8 := (g8.block w.heap.size (by omega) (fun e => absurd (show w.heap.size = Z from by injection e) (by omega))).trans hPd
          have O8 := hOd.kept g8 hne9
          have B8 := hBd.grown g8 hBd.size (fun k hk => by
            have e3 : Z = k := by injection hk
            omega)
          go_wp2_with (at_builtin; refine wpList_append_own _ rfl _ _ 23 rfl (Z + 1) 25 i0 (.float .f32 0) 1 4 slice44 hi hz0 hz1 hz2 rfl (by decide) _ _ _ rfl (O8.alloc _) _ 1 1 [_] rfl rfl (new_one _ _ _) (one_ok rfl) (by unfold maxLen; omega) (by omega) (by rw [World.size_alloc]; omega) ?_; intro v' w1 hown1 hgrow1 _)
          have hgrow2 : (W8.alloc (.cells #[.float .f32 ro] 25)).grownBy w1 u11.ownBlock := hgrow1
          have hsa : (W8.alloc (.cells #[.float .f32 ro] 25)).heap.size = W8.heap.size + 1 := World.size_alloc _ _
          have N0 := Lib.hid (show ∀ y ∈ l ++ [ro], y < 2 ^ 32 from fun y hy => by
            rcases List.mem_append.1 hy with h | h
            · exact hlt32.out y h
            · rw [List.mem_singleton.1 h]; exact fro.2)
          have N1 := Lib.hid (show w1.ownsRow (Z + 1) 25 1 v' (11 + 1) (fvals .f32 (l ++ [ro])) from by
            unfold fvals
            rw [List.map_append]
            exact hown1)
          have N2 := Lib.hid ((s8.alloc (.cells #[.float .f32 ro] 25)).kept hgrow2 (by
            right
            intro e
            rcases hne9 with h | h
            · rw [h] at e; cases e
            · exact h e.symm))
          have N3 := Lib.hid (show w1.heap[w.heap.size]? = some (.cells #[.slice ma xs.length mc] 30 (0, 0)) from
            (hgrow2.block w.heap.size (by rw [hsa]; omega) (fun e => by have := (O8.lt _ e.symm).1; omega)).trans ((heap_alloc_old W8 _ (show w.heap.size < W8.heap.size by omega)).trans P8))
          have N4 := Lib.hid ((B8.alloc B8.size (.cells #[.float .f32 ro] 25)).grown hgrow2 (by rw [hsa]; omega) (fun k hk => by have := (O8.lt k hk).1; omega))
          have N5 : Z + 2 ≤ w1.heap.size := by have := hgrow2.size; rw [hsa] at this; omega
          obtain ⟨rt, ht1, ht2⟩ := h10 (by omega)
          first
            | exact ⟨⟨12, 12, ro, l ++ [ro], ys, by go_num, by omega, by go_num, rfl, by simp [hll], hyl, Or.inr ⟨rfl, by omega, fun _ => rfl⟩, fun _ => ⟨rt, by rw [List.getElem?_append_left (by omega)]; exact ht1, ht2⟩, N0, hzw8, N2, N1, N3, N4, N5⟩, by simp [intOf]⟩
            | exact ⟨⟨12, 11, ro, l ++ [ro], ys, by go_num, by omega, by go_num, rfl, by simp [hll], hyl, Or.inr ⟨rfl, by omega, fun h => absurd (STK.out h) (by decide)⟩, fun _ => ⟨rt, by rw [List.getElem?_append_left (by omega)]; exact ht1, ht2⟩, N0, hzw8, N2, N1, N3, N4, N5⟩, by simp [intOf]⟩
    · have d1 : decide (((12 : Nat) : Int) < 12) = false := by decide
      go_wp2_with fail
      go_ret2
      exact ⟨u11, l, N, rfl, hll, hlt32.out, h10 (by omega), hfin, owns_le hO.out (by have := hB.out.size; omega), hB.out⟩
end Go.Proofs.Ytfhaopdaakjghaa
