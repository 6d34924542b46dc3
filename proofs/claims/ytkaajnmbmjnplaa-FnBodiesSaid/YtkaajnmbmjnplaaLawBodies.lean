/- The law FnBodies holds for every slice of bytes: merged bodies have no pole twice, and as many modes at most as both; damping keeps bodies valid and makes no part of a pole greater; tuning by 1 changes no pole. No condition. -/
import Derived.Test.YtkaajnmbmjnplaaMergeS
import Derived.Test.YtkaajnmbmjnplaaTuneB
import Derived.Test.YtkaajnmbmjnplaaOpenB
import Derived.Deep.QuietTactic
import Derived.BigQuiet
import Derived.Deep.DeepCutAuto
import Derived.Deep.RegionWith
namespace Go.Proofs.Ytkaajnmbmjnplaa
open Go.RowKit Go.Fl Go.BigFrame

/-- The law's walk: true, and what was there is as it was. -/
def LawEnds (w : World) (e : Ending) (w' : World) : Prop := e = .returned (.bool true) ∧ Below w.heap.size w w'

/-- A variable of type Body, in block O. -/
structure Shown (W : World) (O : Nat) (a : Option Addr) (c : Nat) (xs : List MW) : Prop where
  box : W.heap[O]? = some (.cells #[.slice a xs.length c] 25 (0, 0))
  shows : MsP W a xs
  lt : O < W.heap.size

theorem Shown.below {W W' : World} {O c : Nat} {a : Option Addr} {xs : List MW} (h : Shown W O a c xs) (hb : Below W.heap.size W W') : Shown W' O a c xs :=
  ⟨(hb.block O h.lt).trans h.box, h.shows.below hb, Nat.lt_of_lt_of_le h.lt hb.size⟩

theorem Shown.alloc {W : World} {O c : Nat} {a : Option Addr} {xs : List MW} (h : Shown W O a c xs) (o : Obj) : Shown (W.alloc o) O a c xs := h.below ((Below.refl _ _).alloc (Nat.le_refl _) o)

theorem Shown.new {W : World} {c : Nat} {a : Option Addr} {xs : List MW} (h : MsP W a xs) : Shown (W.alloc (.cells #[.slice a xs.length c] 25)) W.heap.size a c xs :=
  ⟨heap_alloc_new _ _, h.below ((Below.refl _ _).alloc (Nat.le_refl _) _), by rw [World.size_alloc]; omega⟩

theorem Shown.cell {W : World} {O c : Nat} {a : Option Addr} {xs : List MW} (h : Shown W O a c xs) : W.cell? ⟨O, 0, none⟩ = some (.slice a xs.length c) := by rw [cur_cell h.box]; rfl

/-- The modes of a made body. -/
structure Made (most : Nat) (xs : List MW) : Prop where
  ok : okL xs = true
  wf : ∀ x ∈ xs, wfX x
  len : xs.length ≤ most

theorem Made.of {most : Nat} (hm : most ≤ 16) {xs : List MW} (hl : xs.length ≤ most) (h : ∀ x ∈ xs, okX x) : Made most xs := by
  refine ⟨?_, fun x hx => (h x hx).wf.1, hl⟩
  unfold okL
  rw [show xs.all okB = true from List.all_eq_true.2 fun x hx => (h x hx).wf.2]
  simp; omega

/-- What the law asks of each mode. -/
theorem law_words {x d t : MW} (hk : okB x = true) (hd : Damped d x) (ht : Tuned t x) : ∃ r1 s1 r2 s2, floatBits .mul .f32 d.a d.a = some r1 ∧ floatBits .mul .f32 x.a x.a = some s1 ∧ (FloatKind.f32.format.order r1 s1 == some .gt) = false ∧
    floatBits .mul .f32 d.b d.b = some r2 ∧ floatBits .mul .f32 x.b x.b = some s2 ∧ (FloatKind.f32.format.order r2 s2 == some .gt) = false ∧ ceq t.a t.b x.a x.b = true := by
  obtain ⟨fa, fb, _, _⟩ := okB_fin hk
  have ga : fin .f32 d.a := Nat.lt_of_le_of_lt hd.2.1 fa
  have gb : fin .f32 d.b := Nat.lt_of_le_of_lt hd.2.2.1 fb
  obtain ⟨r1, h1, _⟩ := mul_word ga ga
  obtain ⟨s1, h2, _⟩ := mul_word fa fa
  obtain ⟨r2, h3, _⟩ := mul_word gb gb
  obtain ⟨s2, h4, _⟩ := mul_word fb fb
  refine ⟨r1, s1, r2, s2, h1, h2, sq_not_gt ga fa hd.2.1 h1 h2, h3, h4, sq_not_gt gb fb hd.2.2.1 h3 h4, ?_⟩
  unfold ceq
  rw [weq_of fa ht.1.2.1 ht.1.2.2, weq_of fb ht.2.1.2.1 ht.2.1.2.2]
  rfl

/-- What the damping leaves. -/
structure AfterDamp (wr W : World) (D dc : Nat) (da : Option Addr) (ds xs : List MW) : Prop where
  len : ds.length = xs.length
  up : UpTo Damped xs.length ds xs
  shown : Shown W D da dc ds
  bel : Below wr.heap.size wr W

theorem afterDamp1 {wr W9 : World} {dc : Nat} {da : Option Addr} {ds xs : List MW} (b9 : Below wr.drew.heap.size wr.drew W9) (hown : W9.ownsRow wr.drew.heap.size 33 2 (.slice da xs.length dc) xs.length (flat ds)) (hup : UpTo Damped xs.length ds xs) :
    AfterDamp wr (W9.alloc (.cells #[.slice da xs.length dc] 25)) W9.heap.size dc da ds xs := by
  have hb : Below wr.heap.size wr W9 := Below.trans (below_drewN' (Below.refl _ _) 1) b9
  refine ⟨hup.1, hup, ?_, hb.alloc hb.size _⟩
  rw [← hup.1] at hown ⊢
  exact Shown.new (MsP.of_owns rfl hown)

theorem afterDamp2 {wr W9 : World} {dc : Nat} {da : Option Addr} {ds xs : List MW} (b9 : Below (wr.alloc (.cells #[.slice none 0 0] 25)).drew.heap.size (wr.alloc (.cells #[.slice none 0 0] 25)).drew W9) (hown : W9.ownsRow (wr.alloc (.cells #[.slice none 0 0] 25)).drew.heap.size 33 2 (.slice da xs.length dc) xs.length (flat ds)) (hup : UpTo Damped xs.length ds xs)
    (hDb : W9.heap[wr.heap.size]? = some (.cells #[.slice none 0 0] 25 (0, 0))) :
    AfterDamp wr (W9.setCell ⟨wr.heap.size, 0, none⟩ (.slice da xs.length dc)) wr.heap.size dc da ds xs := by
  have hs : (wr.alloc (.cells #[.slice none 0 0] 25)).drew.heap.size = wr.heap.size + 1 := World.size_alloc _ _
  have hb : Below wr.heap.size wr W9 := Below.trans (Below.drew ((Below.refl _ _).alloc (Nat.le_refl _) _)) (b9.mono (by omega))
  have hsz := b9.size
  refine ⟨hup.1, hup, ⟨?_, ?_, ?_⟩, below_set hb (Nat.le_refl _) 0 _⟩
  · rw [hup.1]; exact cur_set hDb 0 _
  · refine MsP.of_owns (base := wr.heap.size + 1) hup.1.symm (ownsRow_setCell_other (owns_le hown (by omega)) (fun e => ?_) _)
    have h1 : (wr.alloc (.cells #[.slice none 0 0] 25)).drew.heap.size ≤ wr.heap.size := (hown.lt _ e).1
    omega
  · simp [World.setCell]; omega

/-- The factor that the law takes, for each byte. -/
def fac (r : Nat) : Nat := (floatBits .quo .f32 (floatOfInt .f32 r) 1132396544).getD 0

theorem fac_all : ∀ r : Fin 256, floatBits .quo .f32 (floatOfInt .f32 r.val) 1132396544 = some (fac r.val) ∧ sg Ieee.single (fac r.val) = false ∧ rg Ieee.single (fac r.val) ≤ oneW .f32 ∧ fac r.val < 2 ^ 32 := by decide +kernel

theorem fac_eq {r : Nat} (h : r ≤ 255) : floatBits .quo .f32 (floatOfInt .f32 r) 1132396544 = some (fac r) ∧ Factor (fac r) := by
  have := fac_all ⟨r, by omega⟩
  exact ⟨this.1, ⟨this.2.1, this.2.2.1, this.2.2.2⟩⟩

set_option maxRecDepth 10000 in
set_option maxHeartbeats 4000000 in
theorem law_FnBodies (w : World) {a : Option Addr} {len cap : Nat} (h : BsP w a len) :
    Calls Try.prog 3 #[.slice a len cap] w (LawEnds w) := by
  by_cases hl : len ≤ 1048576
  · have H := Lib.hid h
    have d0 : decide ((len : Int) > 1048576) = false := by simp; omega
    clear h
    go_enter Try.func3, Try.ntmps3
    go_wp2_with fail
    refine (makeBody_c (most := 6) (by omega) _ H.out hl).mono ?_
    rintro e w1 ⟨v, xs, rfl, hown, hxl, hxo, b1⟩
    obtain ⟨xa, xc, rfl⟩ := owns_slice hown
    have MX := Lib.hid (Made.of (by omega) hxl hxo)
    have SX := MsP.of_owns rfl hown
    clear hown hxo
    go_upto_region 4 with fail
    have A1 := Lib.hid (Shown.new (c := xc) SX)
    have B1 := b1.alloc b1.size (.cells #[.slice xa xs.length xc] 25)
    generalize w1.alloc (.cells #[.slice xa xs.length xc] 25) = W1 at *
    generalize w1.heap.size = A at *
    clear b1 SX
    go_wp2_with fail
    refine (fresh_c _ (H.out.below B1) 3 (by decide) (by decide)).mono ?_
    rintro e w2 ⟨a2, len2, cap2, rfl, bs2, l2, m2, b2⟩
    have A2 := Lib.hid (A1.out.below b2)
    have B2 := B1.trans (b2.mono B1.size)
    have S2 := Lib.hid bs2
    clear bs2 b2 B1 A1
    go_wp2_with fail
    refine (makeBody_c (most := 6) (by omega) _ S2.out m2).mono ?_
    rintro e w3 ⟨v, ys, rfl, hown, hyl, hyo, b3⟩
    obtain ⟨ya, yc, rfl⟩ := owns_slice hown
    have MY := Lib.hid (Made.of (by omega) hyl hyo)
    have SY := MsP.of_owns rfl hown
    have A3 := Lib.hid (A2.out.below b3)
    have B3 := B2.trans (b3.mono B2.size)
    clear hown hyo b3 B2 A2 S2
    go_upto_region 5 with fail
    have A4 := Lib.hid (A3.out.alloc (.cells #[.slice ya ys.length yc] 25))
    have Y4 := Lib.hid (Shown.new (c := yc) SY)
    have B4 := B3.alloc B3.size (.cells #[.slice ya ys.length yc] 25)
    generalize w3.alloc (.cells #[.slice ya ys.length yc] 25) = W4 at *
    generalize w3.heap.size = Y at *
    clear A3 B3 SY
    have cA := A4.out.cell
    have cY := Y4.out.cell
    go_wp2_with fail
    refine (mergeImpl_c _ A4.out.shows Y4.out.shows MX.out.wf MY.out.wf MX.out.ok MY.out.ok).mono ?_
    rintro e w5 ⟨v, rfl, hown, b5⟩
    have GD := Good.all (xs := xs ++ ys) (fun x hx => by
      rcases List.mem_append.1 hx with h | h
      · exact MFin.of (MX.out.wf x h) (by have := MX.out.ok; unfold okL at this; simp only [Bool.and_eq_true] at this; exact List.all_eq_true.1 this.1 x h)
      · exact MFin.of (MY.out.wf x h) (by have := MY.out.ok; unfold okL at this; simp only [Bool.and_eq_true] at this; exact List.all_eq_true.1 this.1 x h)) _ (Nat.le_refl _)
    rw [List.take_of_length_le (Nat.le_refl _)] at GD
    generalize hM : mrgAll (xs ++ ys) = ms at *
    have HM := Lib.hid hM
    clear hM
    have GK := Lib.hid (show Good (xs.length + ys.length) (kept ms) from by
      unfold kept
      rw [List.length_append] at GD
      cases okL ms
      · exact ⟨by simp, by simp [Apart], by simp⟩
      · exact GD)
    clear GD
    generalize kept ms = cs at *
    obtain ⟨za, zc, rfl⟩ := owns_slice hown
    have SC := MsP.of_owns rfl hown
    have A5 := Lib.hid (A4.out.below b5)
    have Y5 := Lib.hid (Y4.out.below b5)
    have B5 := B4.trans (b5.mono B4.size)
    clear hown b5 B4 A4 Y4 cA cY
    go_upto_region 6 with fail
    have A6 := Lib.hid (A5.out.alloc (.cells #[.slice za cs.length zc] 25))
    have Y6 := Lib.hid (Y5.out.alloc (.cells #[.slice za cs.length zc] 25))
    have C6 := Lib.hid (Shown.new (c := zc) SC)
    have B6 := B5.alloc B5.size (.cells #[.slice za cs.length zc] 25)
    generalize w5.alloc (.cells #[.slice za cs.length zc] 25) = W6 at *
    generalize w5.heap.size = C at *
    clear A5 Y5 B5 SC
    have cA := A6.out.cell
    have cY := Y6.out.cell
    go_wp2_with fail
    refine (mergeSpec_c _ A6.out.shows Y6.out.shows MX.out.wf MY.out.wf MX.out.ok MY.out.ok).mono ?_
    rintro e w7 ⟨va, vn, vc, rfl, b7⟩
    rw [HM.out]
    have A7 := Lib.hid (A6.out.below b7)
    have Y7 := Lib.hid (Y6.out.below b7)
    have C7 := Lib.hid (C6.out.below b7)
    have B7 := B6.trans (b7.mono B6.size)
    clear b7 B6 A6 Y6 C6 cA cY
    go_upto_region 7 with fail
    have A8 := Lib.hid (A7.out.alloc (.cells #[.slice va vn vc] 25))
    have Y8 := Lib.hid (Y7.out.alloc (.cells #[.slice va vn vc] 25))
    have C8 := Lib.hid (C7.out.alloc (.cells #[.slice va vn vc] 25))
    have B8 := Lib.hid (B7.alloc B7.size (.cells #[.slice va vn vc] 25))
    generalize w7.alloc (.cells #[.slice va vn vc] 25) = W8 at *
    clear A7 Y7 C7 B7
    have cC := C8.out.cell
    go_wp2_with fail
    have hcl := GK.out.len
    go_loopw [44] (fun i wr => ∃ I : Nat, i = .int .i64 I ∧ I ≤ cs.length ∧ Hid (Shown wr A xa xc xs) ∧ Hid (Shown wr Y ya yc ys) ∧ Hid (Shown wr C za zc cs) ∧ Hid (Below w.heap.size w wr)) (fun i _ => cs.length - (intOf i).toNat)
    case atStart => exact ⟨0, rfl, Nat.zero_le _, A8, Y8, C8, B8⟩
    case round =>
      clear A8 Y8 C8 B8 cC
      obtain ⟨I, rfl, hI, A8, Y8, C8, B8⟩ := hrel
      rcases Nat.lt_or_eq_of_le hI with hlt | heq
      · have d1 : decide ((I : Int) < (cs.length : Int)) = true := by simpa using hlt
        go_wp2_with fail
        go_loopw [10] (fun k wr => ∃ K : Nat, k = .int .i64 K ∧ K ≤ I ∧ Hid (Shown wr A xa xc xs) ∧ Hid (Shown wr Y ya yc ys) ∧ Hid (Shown wr C za zc cs) ∧ Hid (Below w.heap.size w wr)) (fun k _ => I - (intOf k).toNat)
        case atStart => exact ⟨0, rfl, Nat.zero_le _, A8, Y8, C8, B8⟩
        case round =>
          clear A8 Y8 C8 B8
          obtain ⟨K, rfl, hK, A8, Y8, C8, B8⟩ := hrel
          rcases Nat.lt_or_eq_of_le hK with hlt2 | heq2
          · have d2 : decide ((K : Int) < (I : Int)) = true := by simpa using hlt2
            have cC := C8.out.cell
            obtain ⟨g, off, rfl, c0, _, hg⟩ := C8.out.shows I hlt
            obtain ⟨g', off', e, k0, _, _⟩ := C8.out.shows K (by omega)
            cases e
            have hKI : (K : Int) < (cs.length : Int) := by omega
            have hII : (I : Int) < (cs.length : Int) := by omega
            have AP := Lib.hid (Apart.get GK.out hlt2 hlt)
            generalize cs[I].a = ia at *
            generalize cs[I].b = ib at *
            generalize cs[K].a = ka at *
            generalize cs[K].b = kb at *
            go_upto_region 15 with fail
            go_still_tail 12, (by kernel_rfl)
            change wpList _ _ _ _ _ wr.drew
            have A9 := Lib.hid (show Shown wr.drew A xa xc xs from A8.out.below (below_drewN' (Below.refl _ _) 1))
            have Y9 := Lib.hid (show Shown wr.drew Y ya yc ys from Y8.out.below (below_drewN' (Below.refl _ _) 1))
            have C9 := Lib.hid (show Shown wr.drew C (some ⟨g, off, none⟩) zc cs from C8.out.below (below_drewN' (Below.refl _ _) 1))
            have B9 := Lib.hid (show Below w.heap.size w wr.drew from below_drewN' B8.out 1)
            clear A8 Y8 C8 B8 cC c0 k0
            generalize wr.drew = W9 at *
            go_wp2_with fail
            refine (equalSingle_c _ _ _ _ _).mono ?_
            rintro e _ ⟨rfl, rfl⟩
            rw [AP.out]
            go_wp2_with fail
            exact ⟨⟨K + 1, by go_num, hlt2, A9, Y9, C9, B9⟩, by simp [intOf]; omega⟩
          · subst heq2
            have d2 : decide ((K : Int) < (K : Int)) = false := by simp
            go_wp2_with fail
            exact ⟨⟨K + 1, by go_num, hlt, A8, Y8, C8, B8⟩, by simp [intOf]; omega⟩
      · subst heq
        have d1 : decide ((cs.length : Int) < (cs.length : Int)) = false := by simp
        have cA := A8.out.cell
        go_upto_region 18 with fail
        go_cut [11, 12] (fun s11 s12 wx => ∃ (D dc : Nat) (da : Option Addr) (ds : List MW), s11 = .pointer (some ⟨D, 0, none⟩) ∧ s12 = .bool true ∧ ds.length = xs.length ∧ Hid (UpTo Damped xs.length ds xs) ∧ Hid (Shown wx D da dc ds) ∧ Hid (Shown wx A xa xc xs) ∧ Hid (Shown wx Y ya yc ys) ∧ Hid (Shown wx C za zc cs) ∧ Hid (Below w.heap.size w wx))
        case first =>
          have BA := Lib.hid (fun W (hb : Below wr.heap.size wr W) => H.out.below (B8.out.trans (hb.mono B8.out.size)))
          have AA := Lib.hid (fun W (hb : Below wr.heap.size wr W) => A8.out.below hb)
          have fac2 := Lib.hid (fun r hr => (fac_eq (r := r) hr).2)
          have cA2 : (wr.alloc (.cells #[.slice none 0 0] 25)).cell? ⟨A, 0, none⟩ = some (.slice xa xs.length xc) := (A8.out.alloc _).cell
          have cA3 : (wr.alloc (.cells #[.slice none 0 0] 25)).drew.cell? ⟨A, 0, none⟩ = some (.slice xa xs.length xc) := cA2
          have belowD := Lib.hid (show Below wr.heap.size wr wr.drew ∧ Below wr.heap.size wr (wr.alloc (.cells #[.slice none 0 0] 25)).drew from ⟨below_drewN' (Below.refl _ _) 1, Below.drew ((Below.refl _ _).alloc (Nat.le_refl _) _)⟩)
          have hFQ := Lib.hid (fun (r : Nat) (hr : r ≤ 255) (W : World) => run_float_arith (P := Try.prog) W .quo 35 .f32 _ _ _ (fac_eq hr).1)
          go_region_with (first | (go_at_call 11; have hbb := belowD.out; refine Calls.mono (at_c _ (BA.out _ (by first | exact hbb.1 | exact hbb.2)) hl 1 (by omega)) ?_; clear hbb; rintro e _ ⟨r, rfl, hr, rfl⟩; have hq := hFQ.out r hr) | (go_at_call 10; have hbb := belowD.out; refine Calls.mono (dampBody_c (cap := xc) _ (AA.out _ (by first | exact hbb.1 | exact hbb.2)).shows MX.out.wf MX.out.ok (fac2.out r hr)) ?_; clear hbb; rintro e W9 ⟨v, ds, rfl, hown, hup, b9⟩; obtain ⟨da, dc, rfl⟩ := owns_slice hown; try (have hDb : W9.heap[wr.heap.size]? = some (.cells #[.slice none 0 0] 25 (0, 0)) := (b9.block wr.heap.size (by show wr.heap.size < (wr.alloc _).heap.size; rw [World.size_alloc]; omega)).trans (heap_alloc_new wr _); have cD := cur_cell hDb 0; have fD := cur_free hDb 0; simp at cD)))
          all_goals
            go_wp2_with fail
            go_meet
            first
              | (have AD := afterDamp1 b9 hown hup
                 exact ⟨_, dc, da, ds, rfl, rfl, AD.len, Lib.hid AD.up, Lib.hid AD.shown, Lib.hid (A8.out.below AD.bel), Lib.hid (Y8.out.below AD.bel), Lib.hid (C8.out.below AD.bel), Lib.hid (B8.out.trans (AD.bel.mono B8.out.size))⟩)
              | (have AD := afterDamp2 b9 hown hup hDb
                 exact ⟨_, dc, da, ds, rfl, rfl, AD.len, Lib.hid AD.up, Lib.hid AD.shown, Lib.hid (A8.out.below AD.bel), Lib.hid (Y8.out.below AD.bel), Lib.hid (C8.out.below AD.bel), Lib.hid (B8.out.trans (AD.bel.mono B8.out.size))⟩)
        case rest =>
          obtain ⟨D, dc, da, ds, rfl, rfl, hdl, hup, DS, A9, Y9, C9, B9⟩ := hcut
          have cA := A9.out.cell
          go_wp2_with fail
          refine (tuneBody_c wc A9.out.shows MX.out.wf MX.out.ok).mono ?_
          rintro e W10 ⟨v, ts, rfl, hown, htu, b10⟩
          obtain ⟨ta, tc, rfl⟩ := owns_slice hown
          have htl := htu.1
          have ST : MsP W10 ta ts := MsP.of_owns htl.symm hown
          have A10 := A9.out.below b10
          have Y10 := Y9.out.below b10
          have C10 := C9.out.below b10
          have D10 := DS.out.below b10
          have B10 := B9.out.trans (b10.mono B9.out.size)
          clear hown b10 cA A9 Y9 C9 DS B9
          go_upto_region 20 with fail
          have TS := Lib.hid (Shown.new (c := tc) ST)
          rw [htl] at TS
          have A11 := Lib.hid (A10.alloc (.cells #[.slice ta xs.length tc] 25))
          have Y11 := Lib.hid (Y10.alloc (.cells #[.slice ta xs.length tc] 25))
          have C11 := Lib.hid (C10.alloc (.cells #[.slice ta xs.length tc] 25))
          have D11 := Lib.hid (D10.alloc (.cells #[.slice ta xs.length tc] 25))
          have B11 := Lib.hid (B10.alloc B10.size (.cells #[.slice ta xs.length tc] 25))
          generalize W10.alloc (.cells #[.slice ta xs.length tc] 25) = W11 at *
          generalize W10.heap.size = T at *
          clear ST A10 Y10 C10 D10 B10
          obtain ⟨wfd, okd⟩ := UpTo.okL (fun _ _ _ h => h) MX.out.wf MX.out.ok hup.out
          have WD := Lib.hid wfd
          have OD := Lib.hid okd
          clear wfd okd
          have cD := D11.out.cell
          rw [hdl] at cD
          go_wp2_with fail
          have IS := isBodySpec_c (cap := dc) W11 D11.out.shows WD.out (by rw [hdl]; omega)
          rw [hdl, OD.out] at IS
          refine IS.mono ?_
          rintro e W12 ⟨rfl, b12⟩
          have A12 := Lib.hid (A11.out.below b12)
          have Y12 := Lib.hid (Y11.out.below b12)
          have C12 := Lib.hid (C11.out.below b12)
          have D12 := Lib.hid (D11.out.below b12)
          have T12 := Lib.hid (show W12.heap[T]? = some (.cells #[.slice ta xs.length tc] 25 (0, 0)) ∧ MsP W12 ta ts ∧ T < W12.heap.size from by
            have hbx := TS.out.box
            rw [htl] at hbx
            exact ⟨(b12.block T TS.out.lt).trans hbx, TS.out.shows.below b12, Nat.lt_of_lt_of_le TS.out.lt b12.size⟩)
          have B12 := Lib.hid (B11.out.trans (b12.mono B11.out.size))
          clear A11 Y11 C11 D11 TS B11 IS b12 cD
          have cA := A12.out.cell
          have cY := Y12.out.cell
          have cC := C12.out.cell
          have cD := D12.out.cell
          have cT := cur_cell T12.out.1 0
          simp at cT
          rw [hdl] at cD
          have wxy : IntKind.i64.wrap ((xs.length : Int) + ys.length) = xs.length + ys.length := by rw [IntKind.wrap_i64]; omega
          have gxy : decide ((cs.length : Int) > (xs.length : Int) + (ys.length : Int)) = false := by simp; omega
          go_wp2_with fail
          go_loopw [125] (fun i wr => ∃ I : Nat, i = .int .i64 I ∧ I ≤ xs.length ∧ Hid (Shown wr A xa xc xs) ∧ Hid (Shown wr D da dc ds) ∧ Hid (wr.heap[T]? = some (.cells #[.slice ta xs.length tc] 25 (0, 0)) ∧ MsP wr ta ts ∧ T < wr.heap.size) ∧ Hid (Below w.heap.size w wr)) (fun i _ => xs.length - (intOf i).toNat)
          case atStart => exact ⟨0, rfl, Nat.zero_le _, A12, D12, T12, B12⟩
          case round =>
            clear A12 D12 T12 B12 Y12 C12 cA cY cC cD cT wxy gxy
            obtain ⟨I, rfl, hI, A12, D12, T12, B12⟩ := hrel
            rcases Nat.lt_or_eq_of_le hI with hlt | heq
            · have d1 : decide ((I : Int) < (xs.length : Int)) = true := by simpa using hlt
              have hId : I < ds.length := by omega
              have hIt : I < ts.length := by omega
              have hII : (I : Int) < (xs.length : Int) := by omega
              obtain ⟨g, off, rfl, c0, c1, hg⟩ := A12.out.shows I hlt
              have LW := Lib.hid (law_words (x := xs[I]) (d := ds[I]) (t := ts[I]) (by have := MX.out.ok; unfold okL at this; simp only [Bool.and_eq_true] at this; exact List.all_eq_true.1 this.1 _ (List.getElem_mem hlt)) ((hup.out.2 I hId hlt).1 hlt) ((htu.2 I hIt hlt).1 hlt))
              have LD := Lib.hid (fun W hb => (D12.out.below (W' := W) hb).shows I hId)
              have LT := Lib.hid (fun W hb => (T12.out.2.1.below (w' := W) hb) I hIt)
              generalize xs[I] = x at *
              generalize ds[I] = d at *
              generalize ts[I] = t at *
              obtain ⟨x1, x2, x3, x4⟩ := x
              obtain ⟨y1, y2, y3, y4⟩ := d
              obtain ⟨z1, z2, z3, z4⟩ := t
              have st0 := store_new0
              have st1 := store_new1
              go_upto_region 25 with fail
              have hbel : Below wr.heap.size wr (wr.alloc (.cells #[.complex .f32 x1 x2, .complex .f32 x3 x4] 33)) := (Below.refl _ _).alloc (Nat.le_refl _) _
              have M13 := Lib.hid (heap_alloc_new wr (.cells #[.complex .f32 x1 x2, .complex .f32 x3 x4] 33))
              have A13 := Lib.hid (A12.out.below hbel)
              have D13 := Lib.hid (D12.out.below hbel)
              have T13 := Lib.hid (show (wr.alloc (.cells #[.complex .f32 x1 x2, .complex .f32 x3 x4] 33)).heap[T]? = some (.cells #[.slice ta xs.length tc] 25 (0, 0)) ∧ MsP (wr.alloc (.cells #[.complex .f32 x1 x2, .complex .f32 x3 x4] 33)) ta ts ∧ T < (wr.alloc (.cells #[.complex .f32 x1 x2, .complex .f32 x3 x4] 33)).heap.size from
                ⟨(hbel.block T T12.out.2.2).trans T12.out.1, T12.out.2.1.below hbel, Nat.lt_of_lt_of_le T12.out.2.2 hbel.size⟩)
              have B13 := Lib.hid (B12.out.trans (hbel.mono B12.out.size))
              generalize wr.alloc (.cells #[.complex .f32 x1 x2, .complex .f32 x3 x4] 33) = W13 at *
              obtain ⟨gd, offd, rfl, k0, _, _⟩ := LD.out _ hbel
              obtain ⟨gt, offt, rfl, j0, _, _⟩ := LT.out _ hbel
              have cD := D13.out.cell
              rw [hdl] at cD
              have cT := cur_cell T13.out.1 0
              have e0 := cur_cell M13.out 0
              simp at cT e0
              obtain ⟨r1, s1, r2, s2, q1, q2, o1, q3, q4, o2, EQ⟩ := LW.out
              have f1 := fun W => run_float_arith (P := Try.prog) W .mul 35 .f32 _ _ _ q1
              have f2 := fun W => run_float_arith (P := Try.prog) W .mul 35 .f32 _ _ _ q2
              have f3 := fun W => run_float_arith (P := Try.prog) W .mul 35 .f32 _ _ _ q3
              have f4 := fun W => run_float_arith (P := Try.prog) W .mul 35 .f32 _ _ _ q4
              dsimp only at f1 f2 f3 f4 EQ k0 j0
              generalize wr.heap.size = M at *
              clear LW LD LT q1 q2 q3 q4 hbel c0 c1 hg A12 D12 T12 B12 st0 st1
              go_upto_region 26 with fail
              go_big_quiet ((go_at_call 9; exact Calls.quiet_of_same (equalSingle_c _ _ _ _ _)))
              go_wp2_with fail
              have hdr := Lib.hid (show Below W13.heap.size W13 (W13.drewN nq) from below_drewN' (Below.refl _ _) nq)
              exact ⟨⟨I + 1, by go_num, hlt, Lib.hid (A13.out.below hdr.out), Lib.hid (D13.out.below hdr.out), Lib.hid ⟨(hdr.out.block T T13.out.2.2).trans T13.out.1, T13.out.2.1.below hdr.out, Nat.lt_of_lt_of_le T13.out.2.2 hdr.out.size⟩, Lib.hid (below_drewN' B13.out nq)⟩, by simp [intOf]; omega⟩
            · subst heq
              have d1 : decide ((xs.length : Int) < (xs.length : Int)) = false := by simp
              go_wp2_with fail
              go_ret
              exact ⟨rfl, B12.out⟩
  · have d0 : decide (1048576 < (len : Int)) = true := by simp; omega
    clear h
    go_enter Try.func3, Try.ntmps3
    go_wp2_with fail
    go_ret
    exact ⟨rfl, Below.refl _ _⟩
open Go.ChangeShapes Go.WideShapes Go.ChangeAt
set_option maxRecDepth 100000 in
theorem lifted_FnBodies (os : Os) (started : os.Started) (H : Type) (enc : TypeId × Value → H) :
    ReturnsInHanded {} Try.checked os 3 .any (Rows.fnBodiesSpec.pre6 enc Try.prog Try.f3 Rows.fnBodiesRow.domain false) (Rows.fnBodiesSpec.post enc Try.prog Try.f3 false true false false) := by
  refine returnsInHanded_of_change (C := Try.checked) own started (by kernel_rfl) Try.func3
    (ChangeSpec.witness6 (enc := enc) (C := Try.checked) false ⟨#[], #[.slice none 0 0], []⟩ 8 (by kernel_rfl) (by kernel_rfl) (by kernel_rfl) (by kernel_rfl)) ?_
  intro W base args ds gs before hval0 hW hcnd _
  have hval : ∀ (j : Nat) t v, Try.f3.params[j]? = some t → args[j]? = some v → Value.okWide Try.prog W .any base t v := hval0
  have hW' := hW
  obtain ⟨p, q, hA0, hV, rfl, hfz, hnd⟩ := hW
  have hA : DataW.TrodAll enc Try.prog W 0 (fun _ => true) true Try.f3.params.toList args.toList ds p := hA0
  rw [Try.params3] at hA hval
  obtain ⟨v0, vs0, d0, ds0, p0, q0, hargs, rfl, rfl, h0, r0⟩ := trodAll_cons hA
  obtain ⟨rfl, rfl, rfl⟩ := trodAll_nil r0
  obtain rfl : args = #[v0] := by cases args; simp_all
  obtain ⟨rfl, rfl⟩ := trodVars_none hV
  obtain ⟨a0, len0, cap0, rfl⟩ := okWide_slice (Try.underlying22) (hval 0 22 v0 rfl rfl)
  have k0 := h0
  have lt0 : ∀ x ∈ p0, x.block < W.heap.size := by obtain ⟨m, hm⟩ := k0; exact DataW.trod_lt m _ _ _ hm
  have w0 : BsP W a0 len0 := by obtain ⟨fuel, hf⟩ := h0; exact open_bytes Try.underlying22 Try.underlying5 (by kernel_rfl) hf
  clear hA0 hval0
  refine (law_FnBodies W w0).mono fun e W' ⟨he, bel⟩ => ?_
  subst he
  exact ⟨_, rfl, _, _, _, [], _, [], hW', trodAll_mk1 (shut_bool Try.underlying4 _), (trodAll_cons_mk (Below.trod laidOut (by kernel_rfl) (of_decide_eq_true (by kernel_rfl)) k0 bel lt0) trodAll_mk0), rfl, bel.frame _, fun h => by cases h⟩

theorem proved_FnBodies : Rows.FnBodiesSaid :=
  OpenClaim.holds_of_wide 3 Try.f3 rfl rfl rfl rfl rfl rfl rfl ⟨rfl, rfl, rfl, rfl, rfl⟩ rfl rfl rfl rfl rfl (by kernel_rfl) Try.func3 (by kernel_rfl)
    (of_decide_eq_true (by kernel_rfl)) (by unfold Func.isWrapper; first | (rw [if_pos (by decide +kernel)]; kernel_rfl) | (rw [if_neg (by decide +kernel)]; exact ⟨rfl, rfl⟩))
    (fun os started H enc _ => lifted_FnBodies os started H enc)
#print axioms proved_FnBodies
end Go.Proofs.Ytkaajnmbmjnplaa
