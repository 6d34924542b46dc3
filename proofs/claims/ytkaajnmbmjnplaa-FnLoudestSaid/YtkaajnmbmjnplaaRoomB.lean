import Derived.Test.YtkaajnmbmjnplaaRoom
import Derived.Test.YtkaajnmbmjnplaaSteps
import Derived.Test.YtkaajnmbmjnplaaDamp
import Derived.Deep.QuietTactic
import Derived.BigQuiet
import Derived.StillTailTactics
namespace Go.Proofs.Ytkaajnmbmjnplaa
open Go.RowKit Go.Fl Go.BigFrame

/-- A mode whose gain is scaled. -/
def gainW (x : MW) (v : Nat) : MW := ⟨x.a, x.b, fo .mul .f32 x.c v, fo .mul .f32 x.d v⟩
def weightsW (ls le : List Nat) : List Nat := List.zipWith (fo .mul .f32) ls le
def roomW (xs : List MW) (ls le : List Nat) : List MW := List.zipWith gainW xs (weightsW ls le)

/-- A list is filled as far as I. -/
structure Part {α : Type} (I : Nat) (ys ss zs : List α) : Prop where
  len : ys.length = zs.length
  done : ∀ i, i < I → ys[i]? = ss[i]?
  rest : ∀ i, I ≤ i → ys[i]? = zs[i]?
theorem Part.start {α : Type} (ss zs : List α) : Part 0 zs ss zs := ⟨rfl, fun i h => by omega, fun _ _ => rfl⟩
theorem Part.next {α : Type} {I : Nat} {ys ss zs : List α} {z : α} (h : Part I ys ss zs) (hI : I < zs.length) (hz : ss[I]? = some z) : Part (I + 1) (ys.set I z) ss zs := by
  refine ⟨by rw [List.length_set]; exact h.len, fun i hi => ?_, fun i hi => ?_⟩
  · by_cases e : i = I
    · subst e
      rw [List.getElem?_set_self (by rw [h.len]; exact hI), hz]
    · rw [List.getElem?_set_ne (fun h => e h.symm)]
      exact h.done i (by omega)
  · rw [List.getElem?_set_ne (by omega)]
    exact h.rest i (by omega)
theorem Part.all {α : Type} {ys ss zs : List α} (h : Part zs.length ys ss zs) (hl : ss.length = zs.length) : ys = ss := by
  apply List.ext_getElem?
  intro i
  rcases Nat.lt_or_ge i zs.length with hi | hi
  · exact h.done i hi
  · rw [List.getElem?_eq_none (by rw [h.len]; exact hi), List.getElem?_eq_none (by rw [hl]; exact hi)]

theorem gain_words {x : MW} {a b : Nat} (hw : wfX x) (hk : okB x = true) (ha : Lim .f32 0 a) (hb : Lim .f32 0 b) :
    floatBits .mul .f32 a b = some (fo .mul .f32 a b) ∧ floatBits .mul .f32 x.c (fo .mul .f32 a b) = some (fo .mul .f32 x.c (fo .mul .f32 a b)) ∧ floatBits .mul .f32 x.d (fo .mul .f32 a b) = some (fo .mul .f32 x.d (fo .mul .f32 a b)) ∧
    wfX (gainW x (fo .mul .f32 a b)) ∧ okB (gainW x (fo .mul .f32 a b)) = true := by
  obtain ⟨w1, w2⟩ := lim_mul ha hb (by omega)
  have h1 : rg FloatKind.f32.format (fo .mul .f32 a b) ≤ oneW .f32 := by
    have := w2.2
    rw [show pwr .f32 (0 + 0) = oneW .f32 by unfold pwr; rw [Nat.zero_add, Nat.zero_mul, Nat.zero_add]] at this
    exact this
  obtain ⟨_, _, fc, fd⟩ := okB_fin hk
  have fw := w2.fin (by omega)
  obtain ⟨p, p1, p2, _, p4⟩ := mul_word fc fw
  obtain ⟨q, q1, q2, _, q4⟩ := mul_word fd fw
  have g := okB_gain hw hk p2 q2 (mul_small fc h1 p4) (mul_small fd h1 q4)
  unfold gainW
  rw [fo_of p1, fo_of q1]
  exact ⟨w1, p1, q1, g.1, g.2⟩

theorem roomW_get {xs : List MW} {ls le : List Nat} {i : Nat} (h : i < xs.length) (hs : i < ls.length) (he : i < le.length) : (roomW xs ls le)[i]? = some (gainW xs[i] (fo .mul .f32 ls[i] le[i])) := by
  unfold roomW weightsW
  rw [List.getElem?_zipWith, List.getElem?_eq_getElem h, List.getElem?_zipWith, List.getElem?_eq_getElem hs, List.getElem?_eq_getElem he]
theorem roomW_length {xs : List MW} {ls le : List Nat} (hs : ls.length = xs.length) (he : le.length = xs.length) : (roomW xs ls le).length = xs.length := by
  unfold roomW weightsW
  simp [hs, he]

theorem roomW_ok {xs : List MW} {ls le : List Nat} (hk : okL xs = true) (hw : ∀ x ∈ xs, wfX x) (hs : ls.length = xs.length) (he : le.length = xs.length) (h1 : ∀ x ∈ ls, Lim .f32 0 x) (h2 : ∀ x ∈ le, Lim .f32 0 x) :
    okL (roomW xs ls le) = true ∧ ∀ x ∈ roomW xs ls le, wfX x := by
  have hl := roomW_length hs he
  unfold okL at hk
  simp only [Bool.and_eq_true, decide_eq_true_eq] at hk
  have key : ∀ y ∈ roomW xs ls le, wfX y ∧ okB y = true := fun y hy => by
    obtain ⟨i, hi, rfl⟩ := List.getElem_of_mem hy
    have g := roomW_get (xs := xs) (ls := ls) (le := le) (i := i) (by omega) (by omega) (by omega)
    rw [List.getElem?_eq_getElem hi] at g
    injection g with g
    rw [g]
    obtain ⟨_, _, _, a, b⟩ := gain_words (hw _ (List.getElem_mem (show i < xs.length by omega))) (List.all_eq_true.1 hk.1 _ (List.getElem_mem (show i < xs.length by omega))) (h1 _ (List.getElem_mem (show i < ls.length by omega))) (h2 _ (List.getElem_mem (show i < le.length by omega)))
    exact ⟨a, b⟩
  refine ⟨?_, fun y hy => (key y hy).1⟩
  unfold okL
  simp only [Bool.and_eq_true, decide_eq_true_eq]
  exact ⟨List.all_eq_true.2 fun y hy => (key y hy).2, by omega⟩

theorem two_new (w : World) (o1 o2 : Obj) : Below w.heap.size w ((w.alloc o1).alloc o2) ∧ ((w.alloc o1).alloc o2).heap[w.heap.size]? = some o1 ∧ ((w.alloc o1).alloc o2).heap[w.heap.size + 1]? = some o2 ∧ w.heap.size + 2 = ((w.alloc o1).alloc o2).heap.size := by
  have h1 := heap_alloc_new w o1
  have h2 := heap_alloc_new (w.alloc o1) o2
  rw [World.size_alloc] at h2
  exact ⟨((Below.refl _ _).alloc (Nat.le_refl _) _).alloc (by simp) _, (heap_alloc_old _ _ (by simp)).trans h1, h2, by simp⟩

set_option maxRecDepth 10000 in
set_option maxHeartbeats 4000000 in
theorem roomBody_c {ma sa : Option Addr} {mc sc s e : Nat} {xs : List MW} {sh : List (List Nat)} (w : World) (h : RoomP w ma xs sa sh) (ok : RoomOk xs sh) (hs : s < sh.length) (he : e < sh.length) :
    Calls Try.prog 37 #[.agg #[.slice ma xs.length mc, .slice sa sh.length sc], .int .i64 s, .int .i64 e] w (RetCk (roomW xs sh[s] sh[e]) w) := by
  have hlen := ok.len
  have hpl := ok.places
  have hls := ok.row _ (List.getElem_mem hs)
  have hle := ok.row _ (List.getElem_mem he)
  have RS := Lib.hid (fun w' hb => (h.below (w' := w') hb).rows s hs)
  have RE := Lib.hid (fun w' hb => (h.below (w' := w') hb).rows e he)
  generalize sh[s] = ls at *
  generalize sh[e] = le at *
  have hlsl := hls.1
  have hlel := hle.1
  have RO := Lib.hid (roomW_ok ok.ok ok.wf hls.1 hle.1 hls.2 hle.2)
  have RL := roomW_length (xs := xs) hls.1 hle.1
  have hok := ok.ok
  unfold okL at hok
  simp only [Bool.and_eq_true] at hok
  have hal := List.all_eq_true.1 hok.1
  have STP := Lib.hid (show ∀ i (h1 : i < xs.length) (h2 : i < ls.length) (h3 : i < le.length), (roomW xs ls le)[i]? = some (gainW xs[i] (fo .mul .f32 ls[i] le[i])) ∧ floatBits .mul .f32 ls[i] le[i] = some (fo .mul .f32 ls[i] le[i]) ∧ floatBits .mul .f32 xs[i].c (fo .mul .f32 ls[i] le[i]) = some (fo .mul .f32 xs[i].c (fo .mul .f32 ls[i] le[i])) ∧ floatBits .mul .f32 xs[i].d (fo .mul .f32 ls[i] le[i]) = some (fo .mul .f32 xs[i].d (fo .mul .f32 ls[i] le[i])) from fun i h1 h2 h3 => by
    obtain ⟨a, b, c, _, _⟩ := gain_words (ok.wf _ (List.getElem_mem h1)) (hal _ (List.getElem_mem h1)) (hls.2 _ (List.getElem_mem h2)) (hle.2 _ (List.getElem_mem h3))
    exact ⟨roomW_get h1 h2 h3, a, b, c⟩)
  have L0 := Lib.hid (fun w' hb => isRoomImpl_c (mc := mc) (sc := sc) w' (h.below hb) ok)
  have L1 := Lib.hid (fun w' hb => clone_c (cap := mc) w' (h.modes.below hb) (by omega))
  have ds : decide (s < sh.length) = true := by simpa using hs
  have de : decide (e < sh.length) = true := by simpa using he
  have hsI : (s : Int) < (sh.length : Int) := by omega
  have heI : (e : Int) < (sh.length : Int) := by omega
  clear hal hok
  generalize hrw : roomW xs ls le = rw_ at *
  clear hrw h ok hls hle
  have u3 := under3
  go_enter Try.func37, Try.ntmps37
  go_upto_region 1 with fail
  obtain ⟨B0, P0, Q0, hs0⟩ := two_new w (.cells #[.slice ma xs.length mc, .slice sa sh.length sc] 42) (.cells #[.slice none 0 0] 25)
  generalize ((w.alloc (.cells #[.slice ma xs.length mc, .slice sa sh.length sc] 42)).alloc (.cells #[.slice none 0 0] 25)) = W0 at *
  have c0 := cur_cell P0 0
  have c1 := cur_cell P0 1
  simp at c0 c1
  go_wp2_with fail
  refine (L0.out _ B0).mono ?_
  rintro e_ W1 ⟨rfl, b0⟩
  have B1 := B0.trans (b0.mono (by omega))
  have P1 := (b0.block _ (by omega)).trans P0
  have Q1 := (b0.block _ (by omega)).trans Q0
  have hs1 : w.heap.size + 2 ≤ W1.heap.size := Nat.le_trans (Nat.le_of_eq hs0) b0.size
  clear B0 P0 Q0 hs0 b0 c0 c1 L0
  have c0 := cur_cell P1 0
  have c1 := cur_cell P1 1
  simp at c0 c1
  go_wp2_with fail
  refine (isPlace_c _).mono ?_
  rintro e_ W2 ⟨rfl, b0⟩
  rw [ds]
  have B2 := B1.trans (b0.mono (by omega))
  have P2 := (b0.block _ (by omega)).trans P1
  have Q2 := (b0.block _ (by omega)).trans Q1
  have hs2 : w.heap.size + 2 ≤ W2.heap.size := Nat.le_trans hs1 b0.size
  clear B1 P1 Q1 hs1 b0 c0 c1
  have c0 := cur_cell P2 0
  have c1 := cur_cell P2 1
  simp at c0 c1
  go_wp2_with fail
  refine (isPlace_c _).mono ?_
  rintro e_ W3 ⟨rfl, b0⟩
  rw [de]
  have B3 := B2.trans (b0.mono (by omega))
  have P3 := (b0.block _ (by omega)).trans P2
  have Q3 := (b0.block _ (by omega)).trans Q2
  have hs3 : w.heap.size + 2 ≤ W3.heap.size := Nat.le_trans hs2 b0.size
  clear B2 P2 Q2 hs2 b0 c0 c1
  have c0 := cur_cell P3 0
  have c1 := cur_cell P3 1
  simp at c0 c1
  go_wp2_with fail
  refine (L1.out _ B3).mono ?_
  rintro e_ W4 ⟨v, rfl, hown, b1⟩
  obtain ⟨va, vc, rfl⟩ := owns_slice hown
  have B4 := B3.trans (b1.mono (by omega))
  have P4 := (b1.block _ (by omega)).trans P3
  have Q4 := (b1.block _ (by omega)).trans Q3
  have hs4 : w.heap.size + 2 ≤ W4.heap.size := Nat.le_trans hs3 b1.size
  clear B3 P3 Q3 b1 c0 c1
  go_upto_region 4 with fail
  have O5 := Lib.hid (heap_alloc_new W4 (.cells #[.slice va xs.length vc] 25))
  have B5 := Lib.hid (B4.alloc (B4.size) (.cells #[.slice va xs.length vc] 25))
  have P5 := Lib.hid ((heap_alloc_old W4 (.cells #[.slice va xs.length vc] 25) (show w.heap.size < W4.heap.size by omega)).trans P4)
  have Q5 := Lib.hid ((heap_alloc_old W4 (.cells #[.slice va xs.length vc] 25) (show w.heap.size + 1 < W4.heap.size by omega)).trans Q4)
  have hown5 := Lib.hid (owns_le (base' := w.heap.size + 2) (hown.alloc (.cells #[.slice va xs.length vc] 25)) (by omega))
  have HV := Lib.hid (show ∀ g, Value.ownBlock (.slice va xs.length vc) = some g → g < W4.heap.size from fun g e => (hown.lt g e).2)
  have hOs : W4.heap.size < (W4.alloc (.cells #[.slice va xs.length vc] 25)).heap.size := by rw [World.size_alloc]; omega
  generalize W4.alloc (.cells #[.slice va xs.length vc] 25) = W5 at *
  generalize W4.heap.size = O at *
  clear hown B4 P4 Q4
  have co := cur_cell O5.out 0
  simp at co
  go_wp2_with fail
  go_loopw [34] (fun i wr => ∃ (I : Nat) (ys : List MW), i = .int .i64 I ∧ I ≤ xs.length ∧ Hid (Part I ys rw_ xs) ∧ Hid (wr.ownsRow (w.heap.size + 2) 33 2 (.slice va xs.length vc) xs.length (flat ys)) ∧ Hid (wr.heap[O]? = some (.cells #[.slice va xs.length vc] 25 (0, 0))) ∧ Hid (wr.heap[w.heap.size]? = some (.cells #[.slice ma xs.length mc, .slice sa sh.length sc] 42 (0, 0))) ∧ Hid (wr.heap[w.heap.size + 1]? = some (.cells #[.slice none 0 0] 25 (0, 0))) ∧ Hid (Below w.heap.size w wr) ∧ O < wr.heap.size) (fun i _ => xs.length - (intOf i).toNat)
  case atStart => exact ⟨0, xs, rfl, Nat.zero_le _, Lib.hid (Part.start _ _), hown5, O5, P5, Q5, B5, hOs⟩
  case round =>
    clear hown5 O5 P5 Q5 B5 hOs co
    obtain ⟨I, ys, rfl, hI, hU, hown, hO, hP, hQ, hB, hOs⟩ := hrel
    rcases Nat.lt_or_eq_of_le hI with hlt | heq
    · have d1 : decide ((I : Int) < (xs.length : Int)) = true := by simpa using hlt
      obtain ⟨gs, offs, ra, rca, rfl, csh, _, frs⟩ := RS.out _ hB.out
      obtain ⟨ge, offe, re, rce, e2, ceh, _, fre⟩ := RE.out _ hB.out
      cases e2
      obtain ⟨ga, offa, rfl, cwa, _⟩ := frs.2.1 I (by omega)
      obtain ⟨gb, offb, rfl, cwb, _⟩ := fre.2.1 I (by omega)
      obtain ⟨st0, st1, st2, st3⟩ := STP.out I hlt (by omega) (by omega)
      have ST := Lib.hid st0
      have f1 := fun W => run_float_arith (P := Try.prog) W .mul 35 .f32 _ _ _ st1
      have hIa : (I : Int) < (ls.length : Int) := by omega
      have hIb : (I : Int) < (le.length : Int) := by omega
      have c0 := cur_cell hP.out 0
      have c1 := cur_cell hP.out 1
      simp at c0 c1
      clear frs fre st0 st1
      generalize fo .mul .f32 (ls[I]'(by omega)) (le[I]'(by omega)) = wt at *
      generalize ls[I]'(by omega) = wa at *
      generalize le[I]'(by omega) = wb at *
      go_upto_region 7 with fail
      go_big_quiet (fail)
      have hown6 := Lib.hid (show (wr.drewN nq).ownsRow (w.heap.size + 2) 33 2 (.slice va xs.length vc) xs.length (flat ys) from hown.out)
      have hO6 := Lib.hid (show (wr.drewN nq).heap[O]? = some (.cells #[.slice va xs.length vc] 25 (0, 0)) from hO.out)
      have hP6 := Lib.hid (show (wr.drewN nq).heap[w.heap.size]? = _ from hP.out)
      have hQ6 := Lib.hid (show (wr.drewN nq).heap[w.heap.size + 1]? = _ from hQ.out)
      have hB6 := Lib.hid (show Below w.heap.size w (wr.drewN nq) from below_drewN' hB.out nq)
      have hOs6 : O < (wr.drewN nq).heap.size := hOs
      clear hown hO hP hQ hB c0 c1 csh ceh cwa cwb f1 hOs
      generalize wr.drewN nq = W6 at *
      obtain ⟨g, hva⟩ : ∃ g, va = some ⟨g, 0, none⟩ := by
        rcases hown6.out.2 with ⟨e, h0⟩ | ⟨g, c', cur, e, _⟩
        · omega
        · exact ⟨g, by injection e⟩
      subst hva
      have hgO := HV.out g rfl
      have hgR := (hown6.out.lt g rfl).1
      have hy : I < ys.length := by rw [hU.out.len]; exact hlt
      have ey : ys[I] = xs[I] := by
        have := hU.out.rest I (Nat.le_refl _)
        rw [List.getElem?_eq_getElem hy, List.getElem?_eq_getElem hlt] at this
        injection this
      have c0 : W6.cell? ⟨g, I * 2 + 1, none⟩ = some (.complex .f32 xs[I].c xs[I].d) := by
        rw [hown6.out.cellAt _ (by omega), (flat_get hy).2, ey]
      have f0 := hown6.out.frozenAt (I * 2 + 1)
      have co := cur_cell hO6.out 0
      simp at co
      have SET := Lib.hid (show ∀ c d, (flat ys).set (I * 2 + 1) (.complex .f32 c d) = flat (ys.set I ⟨xs[I].a, xs[I].b, c, d⟩) from fun c d => by rw [flat_set1 hy c d, ey])
      have SS := Lib.hid (hU.out.next hlt ST.out)
      unfold gainW at SS
      have SS' := SS
      clear SS
      generalize fo .mul .f32 xs[I].c wt = p at *
      generalize fo .mul .f32 xs[I].d wt = q at *
      generalize xs[I].c = xc at *
      generalize xs[I].d = xd at *
      go_upto_region 8 with fail
      go_still_tail 13, (by kernel_rfl)
      still_call (scaleSingle_c st2 st3 _)
      repeat still_step
      refine wpStill_nil ?_
      change wpList _ _ _ _ _ W6.drew
      have c6 : W6.drew.cell? ⟨g, I * 2 + 1, none⟩ = some (.complex .f32 xc xd) := c0
      have f6 : W6.drew.frozen? ⟨g, I * 2 + 1, none⟩ = false := f0
      have hown7 := Lib.hid (World.ownsRow.drew hown6.out)
      have hO7 := Lib.hid (show W6.drew.heap[O]? = _ from hO6.out)
      have hP7 := Lib.hid (show W6.drew.heap[w.heap.size]? = _ from hP6.out)
      have hQ7 := Lib.hid (show W6.drew.heap[w.heap.size + 1]? = _ from hQ6.out)
      have hB7 := Lib.hid (show Below w.heap.size w W6.drew from below_drewN' hB6.out 1)
      have hOs7 : O < W6.drew.heap.size := hOs6
      clear hown6 hO6 hP6 hQ6 hB6 c0 f0 co hOs6
      generalize W6.drew = w6 at *
      have hst6 := run_store_one (P := Try.prog) (v := .complex .f32 p q) rfl c6 f6
      have hown8 := (hown7.out.stored (I * 2 + 1) (.complex .f32 p q)).1
      rw [SET.out] at hown8
      have hown8 := Lib.hid hown8
      have hO8 := Lib.hid ((Below.heap_setCell w6 ⟨g, I * 2 + 1, none⟩ (.complex .f32 p q) O (show O ≠ g by omega)).trans hO7.out)
      have hP8 := Lib.hid ((Below.heap_setCell w6 ⟨g, I * 2 + 1, none⟩ (.complex .f32 p q) w.heap.size (show w.heap.size ≠ g by omega)).trans hP7.out)
      have hQ8 := Lib.hid ((Below.heap_setCell w6 ⟨g, I * 2 + 1, none⟩ (.complex .f32 p q) (w.heap.size + 1) (show w.heap.size + 1 ≠ g by omega)).trans hQ7.out)
      have hB8 := Lib.hid (below_set hB7.out (show w.heap.size ≤ g by omega) (I * 2 + 1) (.complex .f32 p q))
      have hOs8 : O < (w6.setCell ⟨g, I * 2 + 1, none⟩ (.complex .f32 p q)).heap.size := by simp [World.setCell]; exact hOs7
      clear hown7 hO7 hP7 hQ7 hB7 c6 f6
      go_wp2_with fail
      exact ⟨⟨I + 1, _, by go_num, hlt, SS', hown8, hO8, hP8, hQ8, hB8, hOs8⟩, by simp [intOf]; omega⟩
    · subst heq
      have d1 : decide ((xs.length : Int) < (xs.length : Int)) = false := by simp
      have e : ys = rw_ := hU.out.all RL
      subst e
      have co := cur_cell hO.out 0
      simp at co
      have SH := MsP.of_owns RL.symm hown.out
      have CK := checked_c (cap := vc) wr SH RO.out.2 (by omega)
      rw [RL] at CK
      have CK := Lib.hid CK
      have hsB := hB.out.size
      go_wp2_with fail
      refine CK.out.mono ?_
      rintro e_ w1 ⟨v, rfl, hown2, b1⟩
      rw [show kept ys = ys by unfold kept; rw [RO.out.1]; rfl, RL] at hown2
      obtain ⟨va', vc', rfl⟩ := owns_slice hown2
      have R7 := (b1.block _ (by omega)).trans hQ.out
      have c1 := cur_cell R7 0
      have f1 := cur_free R7 0
      simp at c1
      have hR5 := Lib.hid (cur_set R7 0 (.slice va' xs.length vc'))
      have hown5 := Lib.hid (owns_le (base' := w.heap.size) (ownsRow_setCell_other (a := ⟨w.heap.size + 1, 0, none⟩) hown2 (fun e => by have := (hown2.lt _ e).1; simp at this <;> omega) (.slice va' xs.length vc')) (by omega))
      have B7 := Lib.hid (below_set (hB.out.trans (b1.mono hsB)) (show w.heap.size ≤ w.heap.size + 1 by omega) 0 (.slice va' xs.length vc'))
      have OK2 := Lib.hid RO.out.1
      rw [OK2.out]
      clear hown2 b1 R7 CK co hown hO hP hQ hB
      go_wp2_with fail
      refine bodyPost_ret_by (v := .tuple #[.agg #[.slice va' xs.length vc'], .bool true]) ?_ rfl ⟨_, by rw [OK2.out], by rw [show kept ys = ys by unfold kept; rw [OK2.out]; rfl, RL]; exact hown5.out, B7.out⟩
      exact results_body rfl _ _ (w.heap.size + 1) _ #[.slice va' xs.length vc'] _ _ _ rfl rfl hR5.out rfl Try.underlying25 (by kernel_rfl)
end Go.Proofs.Ytkaajnmbmjnplaa
