import Derived.Test.YtkaajnmbmjnplaaRoomG
import Derived.Test.YtkaajnmbmjnplaaDraw
namespace Go.Proofs.Ytkaajnmbmjnplaa
open Go.RowKit Go.Fl

/-- The weight for a drawn number. -/
def wgt (r : Nat) : Nat := (floatBits .quo .f32 (floatOfInt .f32 ((r : Int) - 32)) 1107296256).getD 0
theorem wgt_all : ∀ r : Fin 65, floatBits .quo .f32 (floatOfInt .f32 ((r.val : Int) - 32)) 1107296256 = some (wgt r.val) ∧ wgt r.val < 2 ^ 32 ∧ rg Ieee.single (wgt r.val) ≤ 1065353216 := by decide +kernel
theorem wgt_eq {r : Nat} (h : r < 65) : floatBits .quo .f32 (floatOfInt .f32 ((r : Int) - 32)) 1107296256 = some (wgt r) ∧ Lim .f32 0 (wgt r) := by
  have := wgt_all ⟨r, h⟩
  refine ⟨this.1, this.2.1, ?_⟩
  show rg Ieee.single (wgt r) ≤ pwr .f32 0
  rw [show pwr .f32 0 = 1065353216 by decide]
  exact this.2.2

theorem info35' : (Try.prog.info? 35).map (fun i => (i.zero, i.size, i.bytes)) = some (some (.float .f32 0), 1, 4) := by kernel_rfl
theorem slice44' : Try.prog.underlying 44 = some (.slice 35) := by kernel_rfl
theorem info44 : (Try.prog.info? 44).map (fun i => (i.zero, i.size, i.bytes)) = some (some (.slice none 0 0), 1, 24) := by kernel_rfl
theorem slice40 : Try.prog.underlying 40 = some (.slice 44) := by kernel_rfl

theorem run_modes (W : World) (a : Option Addr) (n c : Nat) : (Instr.field 25 (.agg #[.slice a n c]) 0).run Try.prog W = .ok (.slice a n c) W := by kernel_rfl

/-- The rows of a made room: as many weights as modes, none greater than one. -/
def RowsOk (xs : List MW) (sh : List (List Nat)) : Prop := ∀ l ∈ sh, l.length = xs.length ∧ ∀ x ∈ l, Lim .f32 0 x

/-- A room in rows of its own, from a block on. -/
structure RoomOwn (W : World) (base : Nat) (ma : Option Addr) (mc : Nat) (xs : List MW) (sa : Option Addr) (sc : Nat) (sh : List (List Nat)) : Prop where
  modes : W.ownsRow base 33 2 (.slice ma xs.length mc) xs.length (flat xs)
  shapes : ∃ vals, W.ownsRow base 44 1 (.slice sa sh.length sc) sh.length vals ∧ RowsAt W base vals sh

theorem RoomOwn.set {W : World} {base mc sc K j : Nat} {ma sa : Option Addr} {xs : List MW} {sh : List (List Nat)} (h : RoomOwn W base ma mc xs sa sc sh) (hK : K < base) (v : Value) : RoomOwn (W.setCell ⟨K, j, none⟩ v) base ma mc xs sa sc sh := by
  have key : ∀ {e : TypeId} {size n : Nat} {u : Value} {ys : List Value}, W.ownsRow base e size u n ys → (W.setCell ⟨K, j, none⟩ v).ownsRow base e size u n ys := fun {e size n u ys} hh =>
    ownsRow_setCell_other hh (fun e3 => absurd (show base ≤ K from (hh.lt _ e3).1) (by omega)) _
  obtain ⟨vals, h1, h2⟩ := h.shapes
  exact ⟨key h.modes, vals, key h1, fun p hp => by
    obtain ⟨ra, rc, e, ho⟩ := h2 p hp
    exact ⟨ra, rc, e, key ho⟩⟩

theorem RoomOwn.le {W : World} {base base' mc sc : Nat} {ma sa : Option Addr} {xs : List MW} {sh : List (List Nat)} (h : RoomOwn W base ma mc xs sa sc sh) (hb : base' ≤ base) : RoomOwn W base' ma mc xs sa sc sh := by
  obtain ⟨vals, h1, h2⟩ := h.shapes
  exact ⟨owns_le h.modes hb, vals, owns_le h1 hb, fun p hp => by
    obtain ⟨ra, rc, e, ho⟩ := h2 p hp
    exact ⟨ra, rc, e, owns_le ho hb⟩⟩

theorem RoomOwn.shows {W : World} {base mc sc : Nat} {ma sa : Option Addr} {xs : List MW} {sh : List (List Nat)} (h : RoomOwn W base ma mc xs sa sc sh) (hr : RowsOk xs sh) : RoomP W ma xs sa sh := by
  obtain ⟨vals, hv, h2⟩ := h.shapes
  refine ⟨MsP.of_owns rfl h.modes, fun p hp => ?_⟩
  obtain ⟨ra, rc, hvp, ho⟩ := h2 p hp
  rcases hv.2 with ⟨_, h1⟩ | ⟨g, c', cur, e3, _⟩
  · omega
  · have : sa = some ⟨g, 0, none⟩ := by injection e3
    subst this
    refine ⟨g, 0, ra, rc, rfl, ?_, (hv.lt g rfl).2, fsP_own ho (fun x hx => ((hr _ (List.getElem_mem hp)).2 x hx).1)⟩
    rw [Nat.zero_add, hv.cellAt p (by omega)]
    exact hvp

/-- A call that gives a room. -/
def DrawsR (most : Nat) (b : Nat) (a : Option Addr) (len cap : Nat) (w : World) (e : Ending) (w' : World) : Prop :=
  ∃ ma mc xs sa sc sh, e = .returned (.agg #[.slice ma xs.length mc, .slice sa sh.length sc]) ∧ RoomOwn w' w.heap.size ma mc xs sa sc sh ∧ xs.length ≤ most ∧ (∀ x ∈ xs, okX x) ∧ sh.length ≤ 4 ∧ RowsOk xs sh ∧ Drawn b a len cap w w'

set_option maxRecDepth 10000 in
set_option maxHeartbeats 4000000 in
theorem l4Room_c {most : Nat} (hmost : most ≤ 16) {b : Nat} {a : Option Addr} {len cap : Nat} (w : World) (h : CurP w b a len cap) :
    Calls Try.prog 33 #[.pointer (some ⟨b, 0, none⟩), .int .i64 most] w (DrawsR most b a len cap w) := by
  have H := Lib.hid h
  have hbl := h.lt
  clear h
  obtain ⟨i0, hi, hz0, hz1, hz2⟩ := info_parts' info35'
  obtain ⟨i1, hj, hy0, hy1, hy2⟩ := info_parts' info44
  have u3 := under3
  have rm := run_modes
  go_enter Try.func33, Try.ntmps33
  go_upto_region 1 with fail
  have D0 : Drawn b a len cap w (w.alloc (.cells #[.slice none 0 0, .slice none 0 0] 42)) := Drawn.alloc ⟨H.out, ⟨rfl, rfl, rfl, Nat.le_refl _, fun _ _ _ => rfl⟩⟩ _
  have R0 := heap_alloc_new w (.cells #[.slice none 0 0, .slice none 0 0] 42)
  have hs0 : w.heap.size + 1 = (w.alloc (.cells #[.slice none 0 0, .slice none 0 0] 42)).heap.size := by rw [World.size_alloc]
  generalize w.alloc (.cells #[.slice none 0 0, .slice none 0 0] 42) = W0 at *
  go_wp2_with fail
  refine (l2Body_c hmost _ D0.1).mono ?_
  rintro e W1 ⟨v, xs, rfl, hown, hxl, hxo, d1⟩
  obtain ⟨ma, mc, rfl⟩ := owns_slice hown
  have hs1 : w.heap.size + 1 ≤ W1.heap.size := Nat.le_trans (Nat.le_of_eq hs0) d1.2.size
  have R1 := (d1.2.block w.heap.size (by omega) (by simp; omega)).trans R0
  have D1 := D0.trans d1
  have M1 := owns_le (base' := w.heap.size + 1) hown (by omega)
  have XO := Lib.hid hxo
  clear D0 R0 d1 hown hxo
  go_upto_region 2 with fail
  have G2 := Lib.hid (show RoomG w (W1.alloc (.cells #[.slice ma xs.length mc, .slice none 0 0] 42)) b a len cap w.heap.size W1.heap.size ma mc xs none 0 [] from
    ⟨H.out, D1.alloc _, (heap_alloc_old W1 _ (show w.heap.size < W1.heap.size by omega)).trans R1, heap_alloc_new W1 _, M1.alloc _, ⟨[], World.ownsRow_nil _ _ _ _, fun p hp => by simp at hp⟩, hbl, by omega, rfl, by rw [World.size_alloc]; omega⟩)
  generalize W1.alloc (.cells #[.slice ma xs.length mc, .slice none 0 0] 42) = W2 at *
  generalize W1.heap.size = K at *
  clear R1 D1 M1
  go_wp2_with fail
  refine (l01Below_c 5 (by omega) (by omega) _ G2.out.drawn.1).mono ?_
  rintro e W3 ⟨r, rfl, r0, r1, d3⟩
  have G3 := Lib.hid (G2.out.grown d3.2 d3.1)
  obtain ⟨j0, rfl⟩ : ∃ j : Nat, r = j := ⟨r.toNat, by omega⟩
  clear G2 d3
  go_wp2_with fail
  go_loopw [6] (fun p wr => ∃ (j sc : Nat) (sa : Option Addr) (sh : List (List Nat)), p = .int .i64 j ∧ sh.length + j ≤ 4 ∧ Hid (RowsOk xs sh) ∧ Hid (RoomG w wr b a len cap w.heap.size K ma mc xs sa sc sh)) (fun p _ => (intOf p).toNat)
  case atStart => exact ⟨j0, 0, none, [], rfl, by simp; omega, Lib.hid (fun l hl => by simp at hl), G3⟩
  case round =>
    clear G3
    obtain ⟨j, sc, sa, sh, rfl, hjl, hrows, hG⟩ := hrel
    rcases Nat.eq_zero_or_pos j with h0 | h0
    · subst h0
      have d1 : decide (((0 : Nat) : Int) > 0) = false := by decide
      have G := hG.out
      obtain ⟨o1, o2, o3, o4⟩ := G.ord
      obtain ⟨vals, hv, hr⟩ := G.shapes
      have k0 := cur_cell G.box 0
      have k1 := cur_cell G.box 1
      have r0' := cur_cell G.res 0
      have r1' := cur_cell G.res 1
      simp at k0 k1 r0' r1'
      have f0 := cur_free G.res 0
      have f1 := cur_free G.res 1
      have hM := G.modes
      have e1 := cur_set G.res 0 (.slice ma xs.length mc)
      have q1 := cur_cell e1 1
      have q2 := cur_free e1 1
      simp at q1
      have e2 := Lib.hid (cur_set e1 1 (.slice sa sh.length sc))
      have RP := Lib.hid ((RoomOwn.set (RoomOwn.set (K := w.heap.size) (j := 0) (show RoomOwn wr (w.heap.size + 1) ma mc xs sa sc sh from ⟨hM, vals, hv, hr⟩) (by omega) (.slice ma xs.length mc)) (K := w.heap.size) (j := 1) (by omega) (.slice sa sh.length sc)).le (show w.heap.size ≤ w.heap.size + 1 by omega))
      have DD := Lib.hid (Drawn.setNew G.cur (Drawn.setNew G.cur G.drawn (Nat.le_refl _) 0 (.slice ma xs.length mc)) (Nat.le_refl _) 1 (.slice sa sh.length sc))
      clear hG G hv hr hM e1
      go_wp2_with fail
      refine bodyPost_ret_by (v := .agg #[.slice ma xs.length mc, .slice sa sh.length sc]) ?_ rfl ⟨ma, mc, xs, sa, sc, sh, rfl, RP.out, hxl, XO.out, by omega, hrows.out, DD.out⟩
      exact results_cell_row rfl _ _ w.heap.size _ #[.slice ma xs.length mc, .slice sa sh.length sc] _ _ rfl e2.out Try.underlying42 rfl (by kernel_rfl)
    · have d1 : decide ((j : Int) > 0) = true := by simp; omega
      go_upto_region 6 with fail
      have RW := Lib.hid (World.ownsRow_made (base := wr.heap.size) (e := 35) (size := 1) (w := wr) #[] 0 (Nat.le_refl _) (by unfold maxLen; omega) (by simp))
      have gA : wr.grownBy (wr.alloc (.cells #[] 35)) (some b) := grownBy_alloc _ _ _
      have CA := Lib.hid (hG.out.drawn.1.alloc (.cells #[] 35))
      have G4 := hG.out.grown gA CA.out
      have c0 := cur_cell G4.box 0
      simp at c0
      have GA := Lib.hid gA
      have hsz : wr.heap.size < (wr.alloc (.cells #[] 35)).heap.size := by rw [World.size_alloc]; omega
      generalize wr.alloc (.cells #[] 35) = W4 at *
      clear gA G4
      obtain ⟨W9, rfl⟩ : ∃ x, x = wr := ⟨_, rfl⟩
      go_wp2_with fail
      go_loopw [7, 23] (fun v i wx => ∃ (I : Nat) (l : List Nat), i = .int .i64 I ∧ I ≤ xs.length ∧ l.length = I ∧ Hid (∀ x ∈ l, Lim .f32 0 x) ∧ Hid (wx.ownsRow W9.heap.size 35 1 v I (fvals .f32 l)) ∧ Hid (W9.grownBy wx (some b)) ∧ Hid (CurP wx b a len cap)) (fun _ i _ => xs.length - (intOf i).toNat)
      case atStart => exact ⟨0, [], rfl, Nat.zero_le _, rfl, Lib.hid (by simp), RW, GA, CA⟩
      case round =>
        clear RW GA CA c0
        obtain ⟨I, l, rfl, hI, hll, hlim, hown, hg, hc⟩ := hrel
        rcases Nat.lt_or_eq_of_le hI with hlt | heq
        · have d2 : decide ((I : Int) < (xs.length : Int)) = true := by simpa using hlt
          go_wp2_with fail
          refine (l01Below_c 65 (by omega) (by omega) _ hc.out).mono ?_
          rintro e W5 ⟨r, rfl, r0, r1, d5⟩
          obtain ⟨k, rfl⟩ : ∃ k : Nat, r = k := ⟨r.toNat, by omega⟩
          obtain ⟨q1, q2⟩ := wgt_eq (r := k) (by omega)
          have hq := fun W => run_float_arith (P := Try.prog) W .quo 35 .f32 _ _ _ q1
          have hw : IntKind.i64.wrap ((k : Int) - 32) = (k : Int) - 32 := by rw [IntKind.wrap_i64]; omega
          have Q2 := Lib.hid q2
          have hbr : b < W9.heap.size := by have := hG.out.ord; have := hG.out.drawn.1.lt; omega
          have own5 := own_grown hown.out d5.2 (fun g e => by injection e; omega)
          have G5 := Lib.hid (grownBy_trans hg.out d5.2)
          have C5 := Lib.hid d5.1
          have hz5 : W9.heap.size ≤ W5.heap.size := (grownBy_trans hg.out d5.2).size
          clear q1 q2 d5 hown hg hc
          generalize wgt k = wk at *
          go_wp2_with (at_builtin; refine wpList_append_own _ rfl _ _ 44 rfl W9.heap.size 35 i0 (.float .f32 0) 1 4 slice44' hi hz0 hz1 hz2 rfl (by decide) _ _ _ rfl (own5.alloc _) _ 1 1 [_] rfl rfl (new_one _ _ _) (one_ok rfl) (by unfold maxLen; omega) (by omega) (by rw [World.size_alloc]; omega) ?_; intro v' w1 hown1 hgrow1 _)
          have hgrow2 : (W5.alloc (.cells #[.float .f32 wk] 35)).grownBy w1 u7.ownBlock := hgrow1
          have hsz5 : W5.heap.size ≤ w1.heap.size := by have := hgrow2.size; rw [World.size_alloc] at this; omega
          have hne : ∀ k, k < W9.heap.size → some k ≠ u7.ownBlock := fun k hk e => by have := (own5.lt k e.symm).1; omega
          have hold : ∀ k, k < W9.heap.size → w1.heap[k]? = W5.heap[k]? := fun k hk => by
            rw [hgrow2.block k (by rw [World.size_alloc]; omega) (hne k hk), heap_alloc_old W5 _ (by omega)]
          have g9 : W9.grownBy w1 (some b) := ⟨hgrow2.os.trans G5.out.os, hgrow2.tape.trans G5.out.tape, hgrow2.output.trans G5.out.output, by omega, fun k hk hkb => (hold k hk).trans (G5.out.block k hk hkb)⟩
          have c9 : CurP w1 b a len cap := curP_moved hG.out.drawn.1 C5.out (hold b hbr) (fun k hk hkb => (hold k hk).trans (G5.out.block k hk (fun e => hkb (by injection e)))) (by omega)
          refine ⟨⟨I + 1, l ++ [wk], by go_num, hlt, by simp [hll], Lib.hid (fun x hx => ?_), Lib.hid ?_, Lib.hid g9, Lib.hid c9⟩, by simp [intOf]; omega⟩
          · rcases List.mem_append.1 hx with h | h
            · exact hlim.out x h
            · rw [List.mem_singleton.1 h]; exact Q2.out
          · unfold fvals
            rw [List.map_append]
            exact hown1
        · subst heq
          have d2 : decide ((xs.length : Int) < (xs.length : Int)) = false := by simp
          have G6 := hG.out.grown hg.out hc.out
          obtain ⟨vals, hv, hr⟩ := G6.shapes
          obtain ⟨ra, rc, rfl⟩ := owns_slice hown.out
          have hR9 : w.heap.size + 1 ≤ W9.heap.size := by have := hG.out.ord; omega
          have hsz9 := hg.out.size
          have hrow : wr.ownsRow (w.heap.size + 1) 35 1 (.slice ra l.length rc) l.length (fvals .f32 l) := by
            rw [hll]; exact owns_le hown.out hR9
          have c1 := cur_cell G6.box 1
          simp at c1
          have HG6 := Lib.hid G6
          have hlim2 := hlim
          clear G6 hG
          rw [hll] at hrow
          go_wp2_with (at_builtin; refine wpList_append_own _ rfl _ _ 40 rfl (w.heap.size + 1) 44 i1 (.slice none 0 0) 1 24 slice40 hj hy0 hy1 hy2 rfl (by decide) _ _ _ rfl (hv.alloc _) _ 1 1 [_] rfl rfl (new_one _ _ _) (one_ok rfl) (by unfold maxLen; omega) (by omega) (by rw [World.size_alloc]; omega) ?_; intro v' w1 hown1 hgrow1 _; obtain ⟨sa', sc', rfl, hst, hfz, hfin⟩ := HG6.out.push (l := l) (by rw [hll]; exact hrow) hv hr (by rw [hll]; exact hown1) hgrow1; have hfin := Lib.hid hfin; clear hown1 hgrow1)
          refine ⟨⟨j - 1, sc', sa', sh ++ [l], by go_num, by simp; omega, Lib.hid (fun y hy => ?_), hfin⟩, by simp [intOf]; omega⟩
          rcases List.mem_append.1 hy with h | h
          · exact hrows.out y h
          · rw [List.mem_singleton.1 h]; exact ⟨hll, hlim2.out⟩

/-- A call that gives a room; what lay below stays. -/
def RetRoom (most : Nat) (w : World) (e : Ending) (w' : World) : Prop :=
  ∃ ma mc xs sa sc sh, e = .returned (.agg #[.slice ma xs.length mc, .slice sa sh.length sc]) ∧ RoomP w' ma xs sa sh ∧ xs.length ≤ most ∧ (∀ x ∈ xs, okX x) ∧ sh.length ≤ 4 ∧ RowsOk xs sh ∧ Below w.heap.size w w'

theorem l4Room_zero (most : Nat) {b : Nat} {a : Option Addr} {len cap : Nat} (w : World) (h : CurP w b a len cap) :
    Calls Try.prog 33 #[.pointer (some ⟨b, 0, none⟩), .int .i64 0] w (DrawsR most b a len cap w) :=
  (l4Room_c (most := 0) (by omega) w h).mono fun e w' ⟨ma, mc, xs, sa, sc, sh, h1, h2, h3, h4⟩ => ⟨ma, mc, xs, sa, sc, sh, h1, h2, by omega, h4⟩

set_option maxRecDepth 10000 in
set_option maxHeartbeats 2000000 in
theorem makeRoom_c {most : Nat} (hmost : most ≤ 16) {a : Option Addr} {len cap : Nat} (w : World) (h : BsP w a len) (hl : len ≤ 1048576) :
    Calls Try.prog 14 #[.slice a len cap, .int .i64 most] w (RetRoom most w) := by
  have H := Lib.hid h
  clear h
  have m1 : min (most : Int) 16 = most := by omega
  have m2 : max (0 : Int) (most : Int) = most := by omega
  go_enter Try.func14, Try.ntmps14
  go_upto_region 1 with fail
  have C0 := Lib.hid (H.out.alloc (.cells #[.slice none 0 0, .slice none 0 0] 42))
  have R0 := Lib.hid (heap_alloc_new w (.cells #[.slice none 0 0, .slice none 0 0] 42))
  have B0 : Below w.heap.size w (w.alloc (.cells #[.slice none 0 0, .slice none 0 0] 42)) := (Below.refl _ _).alloc (Nat.le_refl _) _
  have hR0 : w.heap.size < (w.alloc (.cells #[.slice none 0 0, .slice none 0 0] 42)).heap.size := by rw [World.size_alloc]; omega
  generalize w.alloc (.cells #[.slice none 0 0, .slice none 0 0] 42) = W0 at *
  generalize hR : w.heap.size = R at *
  have HR := Lib.hid hR
  have hbR := Lib.hid hR0
  go_wp2_with fail
  refine (l01New_c _ C0.out hl).mono ?_
  rintro e W1 ⟨rfl, c1, b1⟩
  have R1 := Lib.hid ((b1.block _ hR0).trans R0.out)
  have B1 := B0.trans (b1.mono (Nat.le_of_lt hR0))
  have C1 := Lib.hid c1
  have hR1 : R < W1.heap.size := Nat.lt_of_lt_of_le hR0 b1.size
  clear c1 b1 R0
  go_wp2_with fail
  case inl =>
    refine (l4Room_c hmost _ C1.out).mono ?_
    rintro e W2 ⟨ma, mc, xs, sa, sc, sh, rfl, own2, hxl, hxo, hshl, hro, d2⟩
    have R2 := (d2.2.block R hR1 (by have := hbR.out; simp; omega)).trans R1.out
    have B2 : Below R w W2 := B1.trans ((Below.refl _ _).grown d2.2 (Nat.le_of_lt hR1) (fun k hk => by cases hk; exact Nat.le_of_lt hbR.out))
    have q0 := cur_cell R2 0
    have f0 := cur_free R2 0
    have e1 := cur_set R2 0 (.slice ma xs.length mc)
    have q1 := cur_cell e1 1
    have f1 := cur_free e1 1
    have q1' := cur_cell R2 1
    have f1' := cur_free R2 1
    simp at q0 q1 q1'
    have e2 := Lib.hid (cur_set e1 1 (.slice sa sh.length sc))
    have RP := Lib.hid ((RoomOwn.set (RoomOwn.set (K := R) (j := 0) own2 hR1 (.slice ma xs.length mc)) (K := R) (j := 1) hR1 (.slice sa sh.length sc)).shows hro)
    have BB := Lib.hid (below_set (below_set B2 (Nat.le_refl _) 0 (.slice ma xs.length mc)) (Nat.le_refl _) 1 (.slice sa sh.length sc))
    have XO := Lib.hid hxo
    have RR := Lib.hid hro
    clear own2 hxo hro d2 R2 B2 e1 B1
    go_wp2_with fail
    refine bodyPost_ret_by (v := .agg #[.slice ma xs.length mc, .slice sa sh.length sc]) ?_ rfl ⟨ma, mc, xs, sa, sc, sh, rfl, RP.out, hxl, XO.out, by omega, RR.out, by rw [HR.out]; exact BB.out⟩
    exact results_cell_row rfl _ _ R _ #[.slice ma xs.length mc, .slice sa sh.length sc] _ _ rfl e2.out Try.underlying42 rfl (by kernel_rfl)
  case inr =>
    refine (l4Room_zero most _ C1.out).mono ?_
    rintro e W2 ⟨ma, mc, xs, sa, sc, sh, rfl, own2, hxl, hxo, hshl, hro, d2⟩
    have R2 := (d2.2.block R hR1 (by have := hbR.out; simp; omega)).trans R1.out
    have B2 : Below R w W2 := B1.trans ((Below.refl _ _).grown d2.2 (Nat.le_of_lt hR1) (fun k hk => by cases hk; exact Nat.le_of_lt hbR.out))
    have q0 := cur_cell R2 0
    have f0 := cur_free R2 0
    have e1 := cur_set R2 0 (.slice ma xs.length mc)
    have q1 := cur_cell e1 1
    have f1 := cur_free e1 1
    have q1' := cur_cell R2 1
    have f1' := cur_free R2 1
    simp at q0 q1 q1'
    have e2 := Lib.hid (cur_set e1 1 (.slice sa sh.length sc))
    have RP := Lib.hid ((RoomOwn.set (RoomOwn.set (K := R) (j := 0) own2 hR1 (.slice ma xs.length mc)) (K := R) (j := 1) hR1 (.slice sa sh.length sc)).shows hro)
    have BB := Lib.hid (below_set (below_set B2 (Nat.le_refl _) 0 (.slice ma xs.length mc)) (Nat.le_refl _) 1 (.slice sa sh.length sc))
    have XO := Lib.hid hxo
    have RR := Lib.hid hro
    clear own2 hxo hro d2 R2 B2 e1 B1
    go_wp2_with fail
    refine bodyPost_ret_by (v := .agg #[.slice ma xs.length mc, .slice sa sh.length sc]) ?_ rfl ⟨ma, mc, xs, sa, sc, sh, rfl, RP.out, hxl, XO.out, by omega, RR.out, by rw [HR.out]; exact BB.out⟩
    exact results_cell_row rfl _ _ R _ #[.slice ma xs.length mc, .slice sa sh.length sc] _ _ rfl e2.out Try.underlying42 rfl (by kernel_rfl)
end Go.Proofs.Ytkaajnmbmjnplaa
