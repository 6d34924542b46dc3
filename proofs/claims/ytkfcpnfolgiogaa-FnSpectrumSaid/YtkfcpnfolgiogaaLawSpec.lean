/- The law FnSpectrum holds for every slice of bytes: a spectrum is that of all elements but the first one, multiplied by the number, plus the first one, and recordings ring on from any of their elements, bit for bit. No condition. -/
import Derived.Test.YtkfcpnfolgiogaaSpec
import Derived.Test.YtkfcpnfolgiogaaOpenB
namespace Go.Proofs.Ytkfcpnfolgiogaa
open Go.RowKit Go.Fl

/-- The law's walk: true, and what was there is as it was. -/
def LawEnds (w : World) (e : Ending) (w' : World) : Prop := e = .returned (.bool true) ∧ Below w.heap.size w w'

theorem CsP.tail {w : World} {b off len : Nat} {zs : List CN} (h : CsP w (some ⟨b, off, none⟩) len zs) : CsP w (some ⟨b, off + 1, none⟩) (len - 1) (zs.drop 1) :=
  ⟨by have := h.1; simp; omega, fun i hi => by
    have hi' : 1 + i < zs.length := by simp at hi; omega
    obtain ⟨b', off', x, y, h1, h2, h3, h4⟩ := h.2 (1 + i) hi'
    cases h1
    exact ⟨b, off + 1, x, y, rfl, by rw [Nat.add_assoc]; exact h2, by simpa [Nat.add_comm 1] using h3, h4⟩⟩

set_option maxRecDepth 10000 in
set_option maxHeartbeats 4000000 in
theorem law_FnSpectrum (w : World) {a : Option Addr} {len cap : Nat} (h : BsP w a len) :
    Calls Try.prog 4 #[.slice a len cap] w (LawEnds w) := by
  by_cases hl : len ≤ 1048576
  · have H := Lib.hid h
    have d0 : decide (1048576 < (len : Int)) = false := by simp; omega
    clear h
    go_enter Try.func4, Try.ntmps4
    go_wp2_with fail
    refine (makePole_c _ H.out hl).mono ?_
    rintro e w1 ⟨P, p1, p2, rfl, fp, b1⟩
    go_wp2_with fail
    refine (fresh_c _ (H.out.below b1) 3 (by decide) (by decide)).mono ?_
    rintro e w2 ⟨a2, len2, cap2, rfl, bs2, l2, m2, b2⟩
    have B2 := b1.trans (b2.mono b1.size)
    have S2 := Lib.hid bs2
    clear bs2 b1 b2
    go_wp2_with fail
    refine (makeDouble_c _ S2.out m2).mono ?_
    rintro e w3 ⟨Z, z1, z2, rfl, fz, b3⟩
    have B3 := B2.trans (b3.mono B2.size)
    clear S2 B2 b3
    go_wp2_with fail
    refine (at_c _ (H.out.below B3) hl 1 (by decide)).mono ?_
    rintro e _ ⟨r, rfl, hr, rfl⟩
    go_wp2_with fail
    obtain ⟨N, hN⟩ : ∃ N : Nat, 1 + (r : Int) % 30 = N := ⟨1 + r % 30, by omega⟩
    have hN1 : 1 ≤ N := by omega
    have hN2 : N ≤ 30 := by omega
    rw [hN]
    clear hN hr
    refine (ringMode_c fp fz N (by omega) _).mono ?_
    rintro e w4 ⟨a4, cap4, rfl, c4, l4, m4, b4⟩
    have B4 := B3.trans (b4.mono B3.size)
    have C4 := Lib.hid c4
    clear c4 b4 B3 fz
    go_wp2_with fail
    refine (fresh_c _ (H.out.below B4) 5 (by decide) (by decide)).mono ?_
    rintro e w5 ⟨a5, len5, cap5, rfl, bs5, l5, m5, b5⟩
    have B5 := B4.trans (b5.mono B4.size)
    have C5 := Lib.hid (C4.out.below b5)
    have S5 := Lib.hid bs5
    clear bs5 b5 B4 C4
    go_wp2_with fail
    refine (makePole_c _ S5.out m5).mono ?_
    rintro e w6 ⟨U, ua, ub, rfl, fu, b6⟩
    have B6 := B5.trans (b6.mono B5.size)
    have C6 := Lib.hid (C5.out.below b6)
    clear S5 b6 B5 C5
    have n0 : ((N : Int) == 0) = false := by simp; omega
    go_wp2_with fail
    refine (at_c _ (H.out.below B6) hl 2 (by decide)).mono ?_
    rintro e _ ⟨r2, rfl, hr2, rfl⟩
    obtain ⟨K, hK⟩ : ∃ K : Nat, (r2 : Int) % (N : Int) = K := ⟨r2 % N, by omega⟩
    have hKN : K < N := by
      have := Int.emod_lt_of_pos (r2 : Int) (show (0 : Int) < N by omega)
      omega
    clear H
    obtain ⟨bz, oz, kx, ky, rfl, hck, fk, _⟩ := C6.out.2 K (by rw [C6.out.1]; exact hKN)
    have i1 : (K : Int) < (N : Int) := by omega
    go_wp2_with fail
    obtain ⟨M, hM⟩ : ∃ M : Nat, (N : Int) - (K : Int) = M := ⟨N - K, by omega⟩
    rw [hK, hM]
    have hKM : K + M = N := by omega
    clear hK hr2 i1 hck
    replace fk : FC (ringAt P Z K) kx ky := by simpa [ring] using fk
    refine (ringMode_c fp fk M (by omega) _).mono ?_
    rintro e w7 ⟨a7, cap7, rfl, c7, l7, m7, b7⟩
    have B7 := B6.trans (b7.mono B6.size)
    have Z7 := Lib.hid (C6.out.below b7)
    have C7 := Lib.hid c7
    have e1 : ((M : Int) != (N : Int) - (K : Int)) = false := by rw [hM]; simp
    clear c7 b7 B6 C6
    go_wp2_with fail
    clear e1 hM n0 d0
    go_loopw [71] (fun i wr => ∃ j n : Nat, j ≤ M ∧ i = .int .i64 j ∧ wr = w7.drewN n) (fun i _ => M - (intOf i).toNat)
    case atStart => exact ⟨0, 0, Nat.zero_le _, rfl, by first | rfl | exact True.intro⟩
    case round =>
      obtain ⟨j, n, hj, rfl, rfl⟩ := hrel
      by_cases hlt : j < M
      · have d1 : decide ((j : Int) < (M : Int)) = true := by simpa using hlt
        obtain ⟨b7, o7, x, y, rfl, hc, f1, _⟩ := C7.out.2 j (by rw [C7.out.1]; exact hlt)
        obtain ⟨b8, o8, x', y', e8, hc', f2, _⟩ := Z7.out.2 (K + j) (by rw [Z7.out.1]; omega)
        cases e8
        replace f1 : FC (ringAt P Z (K + j)) x y := by simpa [ring, ringAt_add] using f1
        replace f2 : FC (ringAt P Z (K + j)) x' y' := by simpa [ring] using f2
        have i2 : (K : Int) + (j : Int) < (N : Int) := by omega
        have i3 : ((K : Int) + (j : Int)).toNat = K + j := by omega
        go_wp2_with (go_at_call 22; refine (makeSameComplex_c f1 f2 _).mono ?_; rintro e _ ⟨rfl, m, rfl⟩)
        exact ⟨⟨j + 1, n + m, hlt, by go_num, by first | rfl | rw [World.drewN_drewN]⟩, by simp [intOf]; omega⟩
      · obtain rfl : j = M := by omega
        have d1 : decide ((j : Int) < (j : Int)) = false := by simp
        clear C7
        obtain ⟨b8, o8, x0, y0, e8, hc0, f0, _⟩ := Z7.out.2 0 (by rw [Z7.out.1]; omega)
        cases e8
        replace f0 : FC (ringAt P Z 0) x0 y0 := by simpa [ring] using f0
        rw [Nat.add_zero] at hc0
        have hsp : sp U (ring P Z N) = cadd (cmul (sp U ((ring P Z N).drop 1)) U) (ringAt P Z 0) := by
          have := sp_drop U (ring P Z N) (j := 0) (by rw [Z7.out.1]; omega)
          rw [List.drop_zero] at this
          rw [this]
          simp [ring]
        have HSP := Lib.hid hsp
        clear hsp
        by_cases hcap : cap4 = 1
        · subst hcap
          obtain rfl : N = 1 := by omega
          have T : CsP w7 (some ⟨bz, oz, none⟩) (1 - 1) ((ring P Z 1).drop 1) := ⟨by simp [ring], fun i hi => by simp [ring] at hi⟩
          go_wp2_with fail
          refine (spectrumAt_c (zs := (ring P Z 1).drop 1) _ (by exact T) fu (by omega)).mono ?_
          rintro e _ ⟨s1, s2, rfl, fs, n1, rfl⟩
          go_wp2_with fail
          refine (multiplyDouble_c fs fu _).mono ?_
          rintro e _ ⟨m1, m2, rfl, fm, n2, rfl⟩
          have hsp := HSP.out
          generalize cmul (sp U ((ring P Z 1).drop 1)) U = MM at fm hsp
          have HS := Lib.hid hsp
          clear hsp HSP
          go_wp2_with fail
          refine wp_region_rel (fun w' => ∃ m, w' = w7.drewN m) [fun v => v = .slice (some ⟨bz, oz, none⟩) 1 1, fun v => v = .complex .f64 ua ub, isC (sp U (ring P Z 1)), fun v => v = .complex .f64 m1 m2, fun v => v = .float .f64 m1, fun v => v = .slice (some ⟨bz, oz, none⟩) 1 1, fun v => v = .pointer (some ⟨bz, oz, none⟩), fun v => v = .complex .f64 x0 y0, fun v => v = .float .f64 x0, isF .f64 (fop .add .f64 (MM).1 (ringAt P Z 0).1), fun v => v = .complex .f64 m1 m2, fun v => v = .float .f64 m2, fun v => v = .slice (some ⟨bz, oz, none⟩) 1 1, fun v => v = .pointer (some ⟨bz, oz, none⟩), fun v => v = .complex .f64 x0 y0, fun v => v = .float .f64 y0, isF .f64 (fop .add .f64 (MM).2 (ringAt P Z 0).2), isC (cadd (MM) (ringAt P Z 0)), fun v => v = .bool true, fun v => v = .bool true] (by kernel_rfl) (by kernel_rfl) ⟨n + n1 + n2 + 1, rfl⟩ ?_
          refine wpRel_moveK rfl _ (.inl rfl) (rfl) ?_
          rintro K hK _ rfl
          go_simp
          refine hK _ ?_
          clear hK K
          refine wpRel_moveK rfl _ (.inl rfl) (rfl) ?_
          rintro K hK _ rfl
          go_simp
          refine hK _ ?_
          clear hK K
          refine wpRel_opK rfl (by
            rintro _ ⟨m, rfl⟩; unfold relAt; go_simp
            refine relUpon_enter (spectrumAt_c _ Z7.out fu (by omega)) ?_
            rintro e _ ⟨x1, y1, rfl, h1, m1, rfl⟩
            exact ⟨_, rfl, ⟨_, _, rfl, h1⟩, ⟨m + m1, by rw [World.drewN_drewN]⟩⟩) ?_
          rintro K hK _ ⟨s3, s4, rfl, gs⟩
          go_simp
          refine hK _ ?_
          clear hK K
          refine wpRel_moveK rfl _ (.inl rfl) (rfl) ?_
          rintro K hK _ rfl
          go_simp
          refine hK _ ?_
          clear hK K
          refine wpRel_opK rfl (by rintro _ ⟨m, rfl⟩; unfold relAt; go_simp; exact ⟨⟨_, rfl⟩, rfl⟩) ?_
          rintro K hK _ rfl
          go_simp
          refine hK _ ?_
          clear hK K
          refine wpRel_moveK rfl _ (.inl rfl) (rfl) ?_
          rintro K hK _ rfl
          go_simp
          refine hK _ ?_
          clear hK K
          refine wpRel_opK rfl (by rintro _ ⟨m, rfl⟩; unfold relAt; go_simp; exact ⟨⟨_, rfl⟩, rfl⟩) ?_
          rintro K hK _ rfl
          go_simp
          refine hK _ ?_
          clear hK K
          refine wpRel_opK rfl (by rintro _ ⟨m, rfl⟩; unfold relAt; go_simp; exact ⟨⟨_, rfl⟩, rfl⟩) ?_
          rintro K hK _ rfl
          go_simp
          refine hK _ ?_
          clear hK K
          refine wpRel_opK rfl (by rintro _ ⟨m, rfl⟩; unfold relAt; go_simp; exact ⟨⟨_, rfl⟩, rfl⟩) ?_
          rintro K hK _ rfl
          go_simp
          refine hK _ ?_
          clear hK K
          refine wpRel_opK rfl (by
            rintro _ ⟨m, rfl⟩; unfold relAt; go_simp
            obtain ⟨r, n', hrun, hv⟩ := run_fop (P := Try.prog) (w7.drewN m) .add (by decide) 30 .f64 m1 x0
            refine relUpon_run ⟨_, _, hrun, ⟨m + n', by rw [World.drewN_drewN]⟩, r, rfl, ?_⟩
            simpa only [fm.1.1, f0.1.1] using hv) ?_
          rintro K hK _ ⟨r1, rfl, gr⟩
          go_simp
          refine hK _ ?_
          clear hK K
          refine wpRel_moveK rfl _ (.inl rfl) (rfl) ?_
          rintro K hK _ rfl
          go_simp
          refine hK _ ?_
          clear hK K
          refine wpRel_opK rfl (by rintro _ ⟨m, rfl⟩; unfold relAt; go_simp; exact ⟨⟨_, rfl⟩, rfl⟩) ?_
          rintro K hK _ rfl
          go_simp
          refine hK _ ?_
          clear hK K
          refine wpRel_moveK rfl _ (.inl rfl) (rfl) ?_
          rintro K hK _ rfl
          go_simp
          refine hK _ ?_
          clear hK K
          refine wpRel_opK rfl (by rintro _ ⟨m, rfl⟩; unfold relAt; go_simp; exact ⟨⟨_, rfl⟩, rfl⟩) ?_
          rintro K hK _ rfl
          go_simp
          refine hK _ ?_
          clear hK K
          refine wpRel_opK rfl (by rintro _ ⟨m, rfl⟩; unfold relAt; go_simp; exact ⟨⟨_, rfl⟩, rfl⟩) ?_
          rintro K hK _ rfl
          go_simp
          refine hK _ ?_
          clear hK K
          refine wpRel_opK rfl (by rintro _ ⟨m, rfl⟩; unfold relAt; go_simp; exact ⟨⟨_, rfl⟩, rfl⟩) ?_
          rintro K hK _ rfl
          go_simp
          refine hK _ ?_
          clear hK K
          refine wpRel_opK rfl (by
            rintro _ ⟨m, rfl⟩; unfold relAt; go_simp
            obtain ⟨r, n', hrun, hv⟩ := run_fop (P := Try.prog) (w7.drewN m) .add (by decide) 30 .f64 m2 y0
            refine relUpon_run ⟨_, _, hrun, ⟨m + n', by rw [World.drewN_drewN]⟩, r, rfl, ?_⟩
            simpa only [fm.2.1, f0.2.1] using hv) ?_
          rintro K hK _ ⟨r2, rfl, gi⟩
          go_simp
          refine hK _ ?_
          clear hK K
          refine wpRel_opK rfl (by rintro _ ⟨m, rfl⟩; unfold relAt; go_simp; exact ⟨⟨_, rfl⟩, _, _, rfl, gr, gi⟩) ?_
          rintro K hK _ ⟨c1, c2, rfl, gc⟩
          go_simp
          refine hK _ ?_
          clear hK K
          refine wpRel_opK rfl (by
            rintro _ ⟨m, rfl⟩; unfold relAt; go_simp
            refine relUpon_enter (makeSameComplex_c gs (by rw [HS.out]; exact gc) _) ?_
            rintro e _ ⟨rfl, m1, rfl⟩
            exact ⟨_, rfl, rfl, ⟨m + m1, by rw [World.drewN_drewN]⟩⟩) ?_
          rintro K hK _ rfl
          go_simp
          refine hK _ ?_
          clear hK K
          refine wpRel_moveK rfl _ (.inr rfl) (rfl) ?_
          rintro K hK _ rfl
          go_simp
          refine hK _ ?_
          clear hK K
          refine wpRel_nil ?_
          rintro _ ⟨m, rfl⟩
          go_wp2_with fail
          go_ret
          exact ⟨rfl, below_drewN' B7 _⟩
        · have T := CsP.tail Z7.out
          have hcap' : ¬ cap4 - 1 = 0 := by omega
          have hN0 : 0 < N := hN1
          go_wp2_with fail
          refine (spectrumAt_c (zs := (ring P Z N).drop 1) _ (by exact T) fu (by omega)).mono ?_
          rintro e _ ⟨s1, s2, rfl, fs, n1, rfl⟩
          go_wp2_with fail
          refine (multiplyDouble_c fs fu _).mono ?_
          rintro e _ ⟨m1, m2, rfl, fm, n2, rfl⟩
          have hsp := HSP.out
          generalize cmul (sp U ((ring P Z N).drop 1)) U = MM at fm hsp
          have HS := Lib.hid hsp
          clear hsp HSP
          go_wp2_with fail
          refine wp_region_rel (fun w' => ∃ m, w' = w7.drewN m) [fun v => v = .slice (some ⟨bz, oz, none⟩) N cap4, fun v => v = .complex .f64 ua ub, isC (sp U (ring P Z N)), fun v => v = .complex .f64 m1 m2, fun v => v = .float .f64 m1, fun v => v = .slice (some ⟨bz, oz, none⟩) N cap4, fun v => v = .pointer (some ⟨bz, oz, none⟩), fun v => v = .complex .f64 x0 y0, fun v => v = .float .f64 x0, isF .f64 (fop .add .f64 (MM).1 (ringAt P Z 0).1), fun v => v = .complex .f64 m1 m2, fun v => v = .float .f64 m2, fun v => v = .slice (some ⟨bz, oz, none⟩) N cap4, fun v => v = .pointer (some ⟨bz, oz, none⟩), fun v => v = .complex .f64 x0 y0, fun v => v = .float .f64 y0, isF .f64 (fop .add .f64 (MM).2 (ringAt P Z 0).2), isC (cadd (MM) (ringAt P Z 0)), fun v => v = .bool true, fun v => v = .bool true] (by kernel_rfl) (by kernel_rfl) ⟨n + n1 + n2 + 1, rfl⟩ ?_
          refine wpRel_moveK rfl _ (.inl rfl) (rfl) ?_
          rintro K hK _ rfl
          go_simp
          refine hK _ ?_
          clear hK K
          refine wpRel_moveK rfl _ (.inl rfl) (rfl) ?_
          rintro K hK _ rfl
          go_simp
          refine hK _ ?_
          clear hK K
          refine wpRel_opK rfl (by
            rintro _ ⟨m, rfl⟩; unfold relAt; go_simp
            refine relUpon_enter (spectrumAt_c _ Z7.out fu (by omega)) ?_
            rintro e _ ⟨x1, y1, rfl, h1, m1, rfl⟩
            exact ⟨_, rfl, ⟨_, _, rfl, h1⟩, ⟨m + m1, by rw [World.drewN_drewN]⟩⟩) ?_
          rintro K hK _ ⟨s3, s4, rfl, gs⟩
          go_simp
          refine hK _ ?_
          clear hK K
          refine wpRel_moveK rfl _ (.inl rfl) (rfl) ?_
          rintro K hK _ rfl
          go_simp
          refine hK _ ?_
          clear hK K
          refine wpRel_opK rfl (by rintro _ ⟨m, rfl⟩; unfold relAt; go_simp; exact ⟨⟨_, rfl⟩, rfl⟩) ?_
          rintro K hK _ rfl
          go_simp
          refine hK _ ?_
          clear hK K
          refine wpRel_moveK rfl _ (.inl rfl) (rfl) ?_
          rintro K hK _ rfl
          go_simp
          refine hK _ ?_
          clear hK K
          refine wpRel_opK rfl (by rintro _ ⟨m, rfl⟩; unfold relAt; go_simp; exact ⟨⟨_, rfl⟩, rfl⟩) ?_
          rintro K hK _ rfl
          go_simp
          refine hK _ ?_
          clear hK K
          refine wpRel_opK rfl (by rintro _ ⟨m, rfl⟩; unfold relAt; go_simp; exact ⟨⟨_, rfl⟩, rfl⟩) ?_
          rintro K hK _ rfl
          go_simp
          refine hK _ ?_
          clear hK K
          refine wpRel_opK rfl (by rintro _ ⟨m, rfl⟩; unfold relAt; go_simp; exact ⟨⟨_, rfl⟩, rfl⟩) ?_
          rintro K hK _ rfl
          go_simp
          refine hK _ ?_
          clear hK K
          refine wpRel_opK rfl (by
            rintro _ ⟨m, rfl⟩; unfold relAt; go_simp
            obtain ⟨r, n', hrun, hv⟩ := run_fop (P := Try.prog) (w7.drewN m) .add (by decide) 30 .f64 m1 x0
            refine relUpon_run ⟨_, _, hrun, ⟨m + n', by rw [World.drewN_drewN]⟩, r, rfl, ?_⟩
            simpa only [fm.1.1, f0.1.1] using hv) ?_
          rintro K hK _ ⟨r1, rfl, gr⟩
          go_simp
          refine hK _ ?_
          clear hK K
          refine wpRel_moveK rfl _ (.inl rfl) (rfl) ?_
          rintro K hK _ rfl
          go_simp
          refine hK _ ?_
          clear hK K
          refine wpRel_opK rfl (by rintro _ ⟨m, rfl⟩; unfold relAt; go_simp; exact ⟨⟨_, rfl⟩, rfl⟩) ?_
          rintro K hK _ rfl
          go_simp
          refine hK _ ?_
          clear hK K
          refine wpRel_moveK rfl _ (.inl rfl) (rfl) ?_
          rintro K hK _ rfl
          go_simp
          refine hK _ ?_
          clear hK K
          refine wpRel_opK rfl (by rintro _ ⟨m, rfl⟩; unfold relAt; go_simp; exact ⟨⟨_, rfl⟩, rfl⟩) ?_
          rintro K hK _ rfl
          go_simp
          refine hK _ ?_
          clear hK K
          refine wpRel_opK rfl (by rintro _ ⟨m, rfl⟩; unfold relAt; go_simp; exact ⟨⟨_, rfl⟩, rfl⟩) ?_
          rintro K hK _ rfl
          go_simp
          refine hK _ ?_
          clear hK K
          refine wpRel_opK rfl (by rintro _ ⟨m, rfl⟩; unfold relAt; go_simp; exact ⟨⟨_, rfl⟩, rfl⟩) ?_
          rintro K hK _ rfl
          go_simp
          refine hK _ ?_
          clear hK K
          refine wpRel_opK rfl (by
            rintro _ ⟨m, rfl⟩; unfold relAt; go_simp
            obtain ⟨r, n', hrun, hv⟩ := run_fop (P := Try.prog) (w7.drewN m) .add (by decide) 30 .f64 m2 y0
            refine relUpon_run ⟨_, _, hrun, ⟨m + n', by rw [World.drewN_drewN]⟩, r, rfl, ?_⟩
            simpa only [fm.2.1, f0.2.1] using hv) ?_
          rintro K hK _ ⟨r2, rfl, gi⟩
          go_simp
          refine hK _ ?_
          clear hK K
          refine wpRel_opK rfl (by rintro _ ⟨m, rfl⟩; unfold relAt; go_simp; exact ⟨⟨_, rfl⟩, _, _, rfl, gr, gi⟩) ?_
          rintro K hK _ ⟨c1, c2, rfl, gc⟩
          go_simp
          refine hK _ ?_
          clear hK K
          refine wpRel_opK rfl (by
            rintro _ ⟨m, rfl⟩; unfold relAt; go_simp
            refine relUpon_enter (makeSameComplex_c gs (by rw [HS.out]; exact gc) _) ?_
            rintro e _ ⟨rfl, m1, rfl⟩
            exact ⟨_, rfl, rfl, ⟨m + m1, by rw [World.drewN_drewN]⟩⟩) ?_
          rintro K hK _ rfl
          go_simp
          refine hK _ ?_
          clear hK K
          refine wpRel_moveK rfl _ (.inr rfl) (rfl) ?_
          rintro K hK _ rfl
          go_simp
          refine hK _ ?_
          clear hK K
          refine wpRel_nil ?_
          rintro _ ⟨m, rfl⟩
          go_wp2_with fail
          go_ret
          exact ⟨rfl, below_drewN' B7 _⟩
  · have d0 : decide (1048576 < (len : Int)) = true := by simp; omega
    clear h
    go_enter Try.func4, Try.ntmps4
    go_wp2_with fail
    go_ret
    exact ⟨rfl, Below.refl _ _⟩
open Go.ChangeShapes Go.WideShapes Go.ChangeAt
set_option maxRecDepth 100000 in
theorem lifted_FnSpectrum (os : Os) (started : os.Started) (H : Type) (enc : TypeId × Value → H) :
    ReturnsInHanded {} Try.checked os 4 .any (Rows.fnSpectrumSpec.pre6 enc Try.prog Try.f4 Rows.fnSpectrumRow.domain false) (Rows.fnSpectrumSpec.post enc Try.prog Try.f4 false true false false) := by
  refine returnsInHanded_of_change (C := Try.checked) own started (by kernel_rfl) Try.func4
    (ChangeSpec.witness6 (enc := enc) (C := Try.checked) false ⟨#[], #[.slice none 0 0], []⟩ 8 (by kernel_rfl) (by kernel_rfl) (by kernel_rfl) (by kernel_rfl)) ?_
  intro W base args ds gs before hval0 hW hcnd _
  have hval : ∀ (j : Nat) t v, Try.f4.params[j]? = some t → args[j]? = some v → Value.okWide Try.prog W .any base t v := hval0
  have hW' := hW
  obtain ⟨p, q, hA0, hV, rfl, hfz, hnd⟩ := hW
  have hA : DataW.TrodAll enc Try.prog W 0 (fun _ => true) true Try.f4.params.toList args.toList ds p := hA0
  rw [Try.params4] at hA hval
  obtain ⟨v0, vs0, d0, ds0, p0, q0, hargs, rfl, rfl, h0, r0⟩ := trodAll_cons hA
  obtain ⟨rfl, rfl, rfl⟩ := trodAll_nil r0
  obtain rfl : args = #[v0] := by cases args; simp_all
  obtain ⟨rfl, rfl⟩ := trodVars_none hV
  obtain ⟨a0, len0, cap0, rfl⟩ := okWide_slice (Try.underlying22) (hval 0 22 v0 rfl rfl)
  have k0 := h0
  have lt0 : ∀ x ∈ p0, x.block < W.heap.size := by obtain ⟨m, hm⟩ := k0; exact DataW.trod_lt m _ _ _ hm
  have w0 : BsP W a0 len0 := by obtain ⟨fuel, hf⟩ := h0; exact open_bytes Try.underlying22 Try.underlying5 (by kernel_rfl) hf
  clear hA0 hval0
  refine (law_FnSpectrum W w0).mono fun e W' ⟨he, bel⟩ => ?_
  subst he
  exact ⟨_, rfl, _, _, _, [], _, [], hW', trodAll_mk1 (shut_bool Try.underlying4 _), (trodAll_cons_mk (Below.trod laidOut (by kernel_rfl) (of_decide_eq_true (by kernel_rfl)) k0 bel lt0) trodAll_mk0), rfl, bel.frame _, fun h => by cases h⟩

theorem proved_FnSpectrum : Rows.FnSpectrumSaid :=
  OpenClaim.holds_of_wide 4 Try.f4 rfl rfl rfl rfl rfl rfl rfl ⟨rfl, rfl, rfl, rfl, rfl⟩ rfl rfl rfl rfl rfl (by kernel_rfl) Try.func4 (by kernel_rfl)
    (of_decide_eq_true (by kernel_rfl)) (by unfold Func.isWrapper; first | (rw [if_pos (by decide +kernel)]; kernel_rfl) | (rw [if_neg (by decide +kernel)]; exact ⟨rfl, rfl⟩))
    (fun os started H enc _ => lifted_FnSpectrum os started H enc)
#print axioms proved_FnSpectrum
end Go.Proofs.Ytkfcpnfolgiogaa
