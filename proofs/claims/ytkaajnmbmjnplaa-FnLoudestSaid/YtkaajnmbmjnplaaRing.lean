import Derived.Test.YtkaajnmbmjnplaaStepC
import Derived.StillTailTactics
import Derived.Laws.MakeOwn
import Derived.Deep.RegionHeld3
import Derived.Deep.AppendLies
import Derived.Test.YtkaajnmbmjnplaaConcat
namespace Go.Proofs.Ytkaajnmbmjnplaa
open Go.RowKit Go.Fl Go.BigFrame

/-- An element of a list of numbers, 0 if there is none. -/
def elW (bs : List Nat) (i : Nat) : Nat := bs.getD i 0

set_option maxRecDepth 10000 in
set_option maxHeartbeats 1000000 in
theorem element_c {a : Option Addr} {cap i : Nat} {bs : List Nat} (w : World) (h : FsP w .f32 a bs.length bs) :
    Calls Try.prog 56 #[.slice a bs.length cap, .int .i64 i] w fun e w' => e = .returned (.float .f32 (elW bs i)) ∧ w' = w := by
  have u3 := under3
  rcases Nat.lt_or_ge i bs.length with hlt | hge
  · have d1 : decide ((i : Int) < (bs.length : Int)) = true := by simpa using hlt
    have e : elW bs i = bs[i] := by unfold elW; rw [List.getD_eq_getElem?_getD, List.getElem?_eq_getElem hlt]; rfl
    rw [e]
    obtain ⟨g, off, rfl, c0, _⟩ := h.2.1 i hlt
    generalize bs[i] = x at *
    clear h e
    go_enter Try.func56, Try.ntmps56
    go_wp2_with fail
    go_ret
    exact ⟨rfl, rfl⟩
  · have d1 : decide ((i : Int) < (bs.length : Int)) = false := by simp; omega
    have e : elW bs i = 0 := by unfold elW; rw [List.getD_eq_getElem?_getD, List.getElem?_eq_none hge]; rfl
    rw [e]
    clear h e
    go_enter Try.func56, Try.ntmps56
    go_wp2_with fail
    go_ret
    exact ⟨rfl, rfl⟩

set_option maxRecDepth 10000 in
set_option maxHeartbeats 1000000 in
theorem count20_c (w : World) : Calls Try.prog 54 #[.int .i64 20] w fun e w' => e = .returned (.bool true) ∧ w' = w := by
  go_enter Try.func54, Try.ntmps54
  go_wp2_with fail
  go_ret
  exact ⟨rfl, rfl⟩

/-- The states behind i steps, and the outputs, in words. -/
def stW (xs : List MW) (inp : List Nat) : Nat → List ZW
  | 0 => List.replicate xs.length (0, 0)
  | i + 1 => stepsW xs (stW xs inp i) (elW inp i)
def ringW (xs : List MW) (inp : List Nat) (n : Nat) : List Nat := (List.range n).map fun i => outW (stW xs inp (i + 1))
theorem ringW_succ (xs : List MW) (inp : List Nat) (n : Nat) : ringW xs inp (n + 1) = ringW xs inp n ++ [outW (stepsW xs (stW xs inp n) (elW inp n))] := by
  unfold ringW
  rw [List.range_succ, List.map_append]
  rfl
theorem ringW_length (xs : List MW) (inp : List Nat) (n : Nat) : (ringW xs inp n).length = n := by unfold ringW; simp

theorem stW_length (xs : List MW) (inp : List Nat) (n : Nat) : (stW xs inp n).length = xs.length := by
  induction n with
  | zero => simp [stW]
  | succ n ih => exact stepsW_length ih

theorem stW_lim {xs : List MW} {inp : List Nat} (hm : ∀ m ∈ xs, MLim m) (hi : ∀ x ∈ inp, Lim .f32 1 x) (n : Nat) (hn : n ≤ 20) : ZsLim (10 + 2 * n) (stW xs inp n) ∧ Lim .f32 1 (elW inp n) := by
  have hel : ∀ n, Lim .f32 1 (elW inp n) := fun n => by
    unfold elW
    rw [List.getD_eq_getElem?_getD]
    rcases Nat.lt_or_ge n inp.length with h | h
    · rw [List.getElem?_eq_getElem h]; exact hi _ (List.getElem_mem h)
    · rw [List.getElem?_eq_none h]; exact Lim.zero _ _
  refine ⟨?_, hel n⟩
  induction n with
  | zero =>
    intro z hz
    rw [List.eq_of_mem_replicate hz]
    exact ⟨Lim.zero _ _, Lim.zero _ _⟩
  | succ n ih =>
    exact (stepsW_lim hm (ih (by omega)) (hel n) (by omega) (by omega)).mono (by omega)

theorem info31 : (Try.prog.info? 31).map (fun i => (i.zero, i.size, i.bytes)) = some (some (.complex .f32 0 0), 1, 8) := by kernel_rfl
theorem slice82 : Try.prog.underlying 82 = some (.slice 31) := by kernel_rfl
theorem info35 : (Try.prog.info? 35).map (fun i => (i.zero, i.size, i.bytes)) = some (some (.float .f32 0), 1, 4) := by kernel_rfl
theorem slice44 : Try.prog.underlying 44 = some (.slice 35) := by kernel_rfl

theorem make_states (n : Nat) (hn : n ≤ 16) (W : World) : (Instr.makeSlice 82 (.int .i64 n) (.int .i64 n)).run Try.prog W = .ok (.slice (some ⟨W.heap.size, 0, none⟩) n n) (W.alloc (.cells (zvals (List.replicate n (0, 0))).toArray 31)) := by
  obtain ⟨i0, hi, hz0, hz1, hz2⟩ := info_parts' info31
  have h := run_make (P := Try.prog) W 82 31 i0 _ slice82 hi hz0 .i64 .i64 n n (by omega) (by omega) (by rw [hz2]; omega) (by omega)
  rw [h, hz1]
  have e : madeCells (Value.complex .f32 0 0).cells ((n : Int).toNat * 1) = (zvals (List.replicate n (0, 0))).toArray := by
    apply Array.ext'
    simp [madeCells, zvals, Value.cells]
    apply List.ext_getElem
    · simp
    · intro i h1 h2
      simp [Nat.mod_one]
  rw [e]
  simp

/-- A number is appended to what is owned, at a step of a region that draws its order. -/
theorem step_append_float {ops : Array Oper} {o : Oper} {a : Act} {w : World} {K : Act → World → Prop} {Q : Exit → Act → World → Prop} {E : Prop} (hgd : o.guard = none) (s x : Operand)
    (ho : o.op = .call { callee := .builtin .append, args := #[s, x], argTypes := #[44, 44] }) (base n r : Nat) (v : Value) (ad : Addr) (xs : List Value)
    (hs : a.eval s = v) (hown : w.ownsRow base 35 1 v n xs) (hx : a.eval x = .slice (some ad) 1 1) (hnews : ∀ j u, [Value.float .f32 r][j]? = some u → w.cell? (ad.add j) = some u) (hle : n ≤ 1000) (hb : base ≤ w.heap.size)
    (h : ∀ v' w', w'.ownsRow base 35 1 v' (n + 1) (xs ++ [.float .f32 r]) → w.grownBy w' v.ownBlock → K (a.put o.dst v') w') :
    if Region.wanted o (yielded ops a.tmps) = true then Oper.wp Try.prog o a w K Q else E := by
  have hw : Region.wanted o (yielded ops a.tmps) = true := by simp [Region.wanted, hgd]
  rw [if_pos hw]
  obtain ⟨i0, hi, hz0, hz1, hz2⟩ := info_parts' info35
  obtain ⟨v', w', h1, h2, h3, _⟩ := run_append_own (P := Try.prog) w base 44 o.type 35 i0 (.float .f32 0) 1 4 slice44 hi hz0 hz1 hz2 rfl (by decide) v n xs hown ad 1 1 [.float .f32 r] rfl hnews (one_ok rfl) (by unfold maxLen; omega) (by omega) hb
  exact Lib.wp_append_run w s x _ _ ho _ _ hs hx v' w' h1 (h v' w' h2 h3)

/-- A call that gives a new list of numbers, and true. -/
def RetFs (os : List Nat) (w : World) (e : Ending) (w' : World) : Prop :=
  ∃ v, e = .returned (.tuple #[v, .bool true]) ∧ w'.ownsRow w.heap.size 35 1 v os.length (fvals .f32 os) ∧ Below w.heap.size w w'

set_option maxRecDepth 10000 in
set_option maxHeartbeats 4000000 in
theorem ringBody_c {ma ia : Option Addr} {mc ic : Nat} {xs : List MW} {inp : List Nat} (w : World) (hm : MsP w ma xs) (hw : ∀ x ∈ xs, wfX x) (hk : okL xs = true) (hi : FsP w .f32 ia inp.length inp) (hin : ∀ x ∈ inp, Lim .f32 1 x) :
    Calls Try.prog 38 #[.agg #[.slice ma xs.length mc], .slice ia inp.length ic, .int .i64 20] w (RetFs (ringW xs inp 20) w) := by
  have hl : xs.length ≤ 16 := by
    unfold okL at hk
    simp only [Bool.and_eq_true, decide_eq_true_eq] at hk
    exact hk.2
  have hlim : ∀ m ∈ xs, MLim m := fun m h => by
    unfold okL at hk
    simp only [Bool.and_eq_true] at hk
    exact MLim.of (hw m h) (List.all_eq_true.1 hk.1 m h)
  have L1 := Lib.hid (fun w' hb => isBodyImpl_c (cap := mc) w' (hm.below hb) hw (by omega))
  rw [hk] at L1
  have HM := Lib.hid hm
  have HI := Lib.hid hi
  have SL := Lib.hid (fun n hn => stW_lim (inp := inp) hlim hin n hn)
  have HL := Lib.hid hlim
  clear hm hw hk hi hlim hin
  have u3 := under3
  have mk := make_states xs.length hl
  go_enter Try.func38, Try.ntmps38
  go_upto_region 1 with fail
  have B0 : Below w.heap.size w (w.alloc (.cells #[.slice ma xs.length mc] 25)) := (Below.refl _ _).alloc (Nat.le_refl _) _
  have P0 := heap_alloc_new w (.cells #[.slice ma xs.length mc] 25)
  have hs0 : w.heap.size < (w.alloc (.cells #[.slice ma xs.length mc] 25)).heap.size := by rw [World.size_alloc]; omega
  generalize w.alloc (.cells #[.slice ma xs.length mc] 25) = W0 at *
  have cP := cur_cell P0 0
  simp at cP
  go_wp2_with fail
  refine (L1.out _ B0).mono ?_
  rintro e W1 ⟨rfl, b0⟩
  have B1 := B0.trans (b0.mono (by omega))
  have P1 := (b0.block _ hs0).trans P0
  have hs1 := Nat.lt_of_lt_of_le hs0 b0.size
  clear B0 P0 hs0 b0 cP L1
  have cP := cur_cell P1 0
  simp at cP
  go_wp2_with fail
  refine (count20_c _).mono ?_
  rintro e W2 ⟨rfl, e2⟩
  rw [← e2] at B1 P1 hs1 cP
  clear e2
  go_upto_region 4 with fail
  have S3 := (World.ownsRow_lit (base := W2.heap.size) (e := 31) (size := 1) W2 (zvals (List.replicate xs.length (0, 0))).toArray xs.length (Nat.le_refl _) (by unfold maxLen; omega) (by simp [zvals])).alloc (.cells #[] 35)
  have O3 := World.ownsRow_made (base := W2.heap.size + 1) (e := 35) (size := 1) (w := W2.alloc (.cells (zvals (List.replicate xs.length (0, 0))).toArray 31)) #[] 0 (by simp) (by unfold maxLen; omega) (by simp)
  rw [World.size_alloc] at O3
  have B3 := (B1.alloc B1.size (.cells (zvals (List.replicate xs.length (0, 0))).toArray 31)).alloc (by rw [World.size_alloc]; have := B1.size; omega) (.cells #[] 35)
  have P3 := (heap_alloc_old (W2.alloc (.cells (zvals (List.replicate xs.length (0, 0))).toArray 31)) (.cells #[] 35) (by rw [World.size_alloc]; omega)).trans ((heap_alloc_old W2 (.cells (zvals (List.replicate xs.length (0, 0))).toArray 31) hs1).trans P1)
  have hZ : W2.heap.size + 2 = ((W2.alloc (.cells (zvals (List.replicate xs.length (0, 0))).toArray 31)).alloc (.cells #[] 35)).heap.size := by rw [World.size_alloc, World.size_alloc]
  generalize ((W2.alloc (.cells (zvals (List.replicate xs.length (0, 0))).toArray 31)).alloc (.cells #[] 35)) = W3 at *
  generalize W2.heap.size = Z at *
  have HZ := Lib.hid (show xs.length ≠ 0 → ∀ a, ma = some a → some a.block ≠ Value.ownBlock (.slice (some ⟨Z, 0, none⟩) xs.length xs.length) from fun h0 a ha e => by
    obtain ⟨g, off, e2, _, _, hg⟩ := HM.out 0 (by omega)
    rw [ha] at e2
    injection e2 with e2
    subst e2
    have e3 : g = Z := by injection e
    omega)
  have HS3 := Lib.hid S3
  have HO3 := Lib.hid O3
  have HB3 := Lib.hid B3
  have HP3 := Lib.hid P3
  clear S3 O3 B3 P3 B1 P1 cP mk
  go_wp2_with fail
  go_loopw [9, 25] (fun v i wr => ∃ I : Nat, i = .int .i64 I ∧ I ≤ 20 ∧ Hid (wr.ownsRow Z 31 1 (.slice (some ⟨Z, 0, none⟩) xs.length xs.length) xs.length (zvals (stW xs inp I))) ∧ Hid (wr.ownsRow (Z + 1) 35 1 v I (fvals .f32 (ringW xs inp I))) ∧ Hid (wr.heap[w.heap.size]? = some (.cells #[.slice ma xs.length mc] 25 (0, 0))) ∧ Hid (Below w.heap.size w wr) ∧ Z + 2 ≤ wr.heap.size) (fun _ i _ => 20 - (intOf i).toNat)
  case atStart => exact ⟨0, rfl, by omega, Lib.hid (show W3.ownsRow Z 31 1 (.slice (some ⟨Z, 0, none⟩) xs.length xs.length) xs.length (zvals (List.replicate xs.length (0, 0))) from by simpa using HS3.out), HO3, HP3, HB3, Nat.le_of_eq hZ⟩
  case round =>
    clear HS3 HO3 HB3 HP3
    obtain ⟨I, rfl, hI, hS, hO, hP, hB, hZs⟩ := hrel
    rcases Nat.lt_or_eq_of_le hI with hlt | heq
    · have d1 : decide ((I : Int) < 20) = true := by simp; omega
      have cP := cur_cell hP.out 0
      simp at cP
      have hBd : Below w.heap.size w wr.drew := below_drewN' hB.out 1
      have hSd : wr.drew.ownsRow Z 31 1 (.slice (some ⟨Z, 0, none⟩) xs.length xs.length) xs.length (zvals (stW xs inp I)) := World.ownsRow.drew hS.out
      have hOd : wr.drew.ownsRow (Z + 1) 35 1 u9 I (fvals .f32 (ringW xs inp I)) := World.ownsRow.drew hO.out
      have hPd : wr.drew.heap[w.heap.size]? = some (.cells #[.slice ma xs.length mc] 25 (0, 0)) := hP.out
      have hZd : Z + 2 ≤ wr.drew.heap.size := hZs
      have hRS := Lib.hid (ringW_succ xs inp I)
      have hST := Lib.hid (show stW xs inp (I + 1) = stepsW xs (stW xs inp I) (elW inp I) from rfl)
      have hne9 : u9.ownBlock = none ∨ u9.ownBlock ≠ some Z := by
        cases ho : u9.ownBlock with
        | none => exact Or.inl rfl
        | some k => right; intro e; injection e with e; have := (hO.out.lt k ho).1; omega
      go_upto_region 7 with fail
      go_region_held3 (fun w' => w'.cell? ⟨w.heap.size, 0, none⟩ = some (.slice ma xs.length mc))
        (first | exact cP | exact cP8 | exact cP9 | exact cPa)
        ((first
          | (go_at_call 56
             refine Calls.mono (element_c (i := I) _ (HI.out.below hBd)) ?_
             rintro e _ ⟨rfl, rfl⟩)
          | (go_at_call 55
             refine Calls.mono (step_c (n := 10 + 2 * I) (base := Z) _ (HM.out.below hBd) hl HL.out (SL.out I hI).1 (stW_length _ _ _) (SL.out I hI).2 (by omega) (by omega) hSd HZ.out) ?_
             rintro e W8 ⟨rfl, s8, g8⟩
             have hz8 : Z + 2 ≤ W8.heap.size := Nat.le_trans hZd g8.size
             have P8 := (g8.block w.heap.size (by omega) (fun e => by have e3 : w.heap.size = Z := by injection e
                                                                      omega)).trans hPd
             have cP8 : W8.cell? ⟨w.heap.size, 0, none⟩ = some (.slice ma xs.length mc) := by rw [cur_cell P8]; rfl
             have O8 := hOd.kept g8 hne9
             have B8 := hBd.grown g8 (by omega) (fun k hk => by have e3 : Z = k := by injection hk
                                                                omega)
             have cP9 : (W8.alloc (.cells #[.float .f32 (outW (stepsW xs (stW xs inp I) (elW inp I)))] 35)).cell? ⟨w.heap.size, 0, none⟩ = some (.slice ma xs.length mc) := (World.cell?_of_block (heap_alloc_old W8 _ (show w.heap.size < W8.heap.size by omega))).trans cP8)
          | (refine step_append_float (by rfl) _ _ (by rfl) (Z + 1) I _ u9 _ _ (by rfl) (O8.alloc _) (by rfl) (new_one _ _ _) (by omega) (by rw [World.size_alloc]; omega) ?_
             intro v' w1 hown1 hgrow1
             have cPa : w1.cell? ⟨w.heap.size, 0, none⟩ = some (.slice ma xs.length mc) := (hgrow1.cell_far ⟨w.heap.size, 0, none⟩ (by rw [World.size_alloc]; show w.heap.size < _; omega) (fun e => by have := (O8.lt _ e.symm).1; simp at this; omega)).trans cP9)))
      have hsa : (W8.alloc (.cells #[.float .f32 (outW (stepsW xs (stW xs inp I) (elW inp I)))] 35)).heap.size = W8.heap.size + 1 := World.size_alloc _ _
      have N1 := Lib.hid (show w1.ownsRow (Z + 1) 35 1 v' (I + 1) (fvals .f32 (ringW xs inp (I + 1))) from by
        rw [hRS.out]
        unfold fvals
        rw [List.map_append]
        exact hown1)
      have N2 := Lib.hid (show w1.ownsRow Z 31 1 (.slice (some ⟨Z, 0, none⟩) xs.length xs.length) xs.length (zvals (stW xs inp (I + 1))) from by
        rw [hST.out]
        refine (s8.alloc _).kept hgrow1 ?_
        right
        intro e
        rcases hne9 with h | h
        · rw [h] at e; cases e
        · exact h e.symm)
      have N3 := Lib.hid (show w1.heap[w.heap.size]? = some (.cells #[.slice ma xs.length mc] 25 (0, 0)) from
        (hgrow1.block w.heap.size (by rw [hsa]; omega) (fun e => by have := (O8.lt _ e.symm).1; omega)).trans ((heap_alloc_old W8 _ (show w.heap.size < W8.heap.size by omega)).trans P8))
      have N4 := Lib.hid ((B8.alloc B8.size (.cells #[.float .f32 (outW (stepsW xs (stW xs inp I) (elW inp I)))] 35)).grown hgrow1 (by rw [hsa]; omega) (fun k hk => by have := (O8.lt k hk).1; omega))
      have N5 : Z + 2 ≤ w1.heap.size := by have := hgrow1.size; rw [hsa] at this; omega
      clear hown1 hgrow1 cPa cP9 O8 B8 cP8 P8 s8 g8 hBd hSd hOd hPd hS hO hP hB cP
      go_wp2_with fail
      exact ⟨⟨I + 1, by go_num, hlt, N2, N1, N3, N4, N5⟩, by simp [intOf]; omega⟩
    · subst heq
      have d1 : decide (((20 : Nat) : Int) < 20) = false := by decide
      go_wp2_with fail
      go_ret2
      refine ⟨u9, rfl, ?_, hB.out⟩
      rw [ringW_length]
      exact owns_le hO.out (by omega)
end Go.Proofs.Ytkaajnmbmjnplaa
