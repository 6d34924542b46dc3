import Derived.Test.YtkfcpnfolgiogaaRing
namespace Go.Proofs.Ytkfcpnfolgiogaa
open Go.RowKit Go.Fl

/-- The spectrum of a list at u. -/
def sp (u : CN) : List CN → CN
  | [] => (cl .f64 0, cl .f64 0)
  | z :: zs => cadd (cmul (sp u zs) u) z

def isC (z : CN) (v : Value) : Prop := ∃ x y, v = .complex .f64 x y ∧ FC z x y

theorem sp_drop (u : CN) (zs : List CN) {j : Nat} (h : j < zs.length) : sp u (zs.drop j) = cadd (cmul (sp u (zs.drop (j + 1))) u) zs[j] := by
  rw [List.drop_eq_getElem_cons h]
  rfl

/-- What the loop of SpectrumAt keeps. -/
def SpRel (u : CN) (zs : List CN) (w : World) (o i : Value) (wr : World) : Prop :=
  ∃ (j x y n : Nat), j ≤ zs.length ∧ i = .int .i64 ((j : Int) - 1) ∧ o = .complex .f64 x y ∧ FC (sp u (zs.drop j)) x y ∧ wr = w.drewN n

set_option maxRecDepth 10000 in
set_option maxHeartbeats 1000000 in
theorem spectrumAt_c {a : Option Addr} {len cap : Nat} {zs : List CN} {u : CN} {c d : Nat} (w : World) (h : CsP w a len zs) (hu : FC u c d) (hl : len ≤ 2000) :
    Calls Try.prog 23 #[.slice a len cap, .complex .f64 c d] w (RetC (sp u zs) w) := by
  have u3 := under3
  have hlen := h.1
  go_enter Try.func23, Try.ntmps23
  go_wp2_with fail
  go_loopw [5, 6] (fun o i wr => SpRel u zs w o i wr) (fun _ i _ => (intOf i + 1).toNat)
  case atStart => exact ⟨len, _, _, 0, by omega, by go_num, rfl, by rw [← hlen, List.drop_length]; exact ⟨FV.of_lt (k := .f64) (by decide), FV.of_lt (k := .f64) (by decide)⟩, by first | rfl | exact True.intro⟩
  case round =>
    obtain ⟨j1, x, y, n, hj, rfl, rfl, hxy, rfl⟩ := hrel
    cases j1 with
    | succ j =>
      have hj' : j < zs.length := hj
      obtain ⟨b, off, x0, y0, rfl, hc, hz0, _⟩ := h.2 j hj'
      have e1 : (((j + 1 : Nat) : Int) - 1) = j := by omega
      rw [e1]
      have d1 : decide (0 ≤ (j : Int)) = true := by simp
      have hs := Lib.hid (sp_drop u zs hj')
      have i1 : (j : Int) < (len : Int) := by omega
      clear h e1
      go_wp2_with fail
      refine wp_region_rel (fun w' => ∃ m, w' = w.drewN m) [fun v => v = .complex .f64 x y, fun v => v = .complex .f64 c d, isC (cmul (sp u (zs.drop (j + 1))) u), fun v => v = .slice (some ⟨b, off, none⟩) len cap, fun v => v = .int .i64 j, fun v => v = .pointer (some ⟨b, off + j, none⟩), fun v => v = .complex .f64 x0 y0, isC (cadd (cmul (sp u (zs.drop (j + 1))) u) zs[j]), isC (cadd (cmul (sp u (zs.drop (j + 1))) u) zs[j])] (by kernel_rfl) (by kernel_rfl) ⟨n + 1, rfl⟩ ?_
      refine wpRel_moveK rfl _ (.inl rfl) (rfl) ?_
      rintro K hK _ rfl
      go_simp
      refine hK _ ?_
      clear hK K
      refine wpRel_moveK rfl _ (.inl rfl) (rfl) ?_
      rintro K hK _ rfl
      go_simp
      refine hK _ ?_
      clear hK K
      refine wpRel_opK rfl (by
            rintro _ ⟨m, rfl⟩; unfold relAt; go_simp
            refine relUpon_enter (multiplyDouble_c hxy hu _) ?_
            rintro e _ ⟨x1, y1, rfl, h1, m1, rfl⟩
            exact ⟨_, rfl, ⟨_, _, rfl, h1⟩, ⟨m + m1, by rw [World.drewN_drewN]⟩⟩) ?_
      rintro K hK _ ⟨x1, y1, rfl, g1⟩
      go_simp
      refine hK _ ?_
      clear hK K
      refine wpRel_moveK rfl _ (.inl rfl) (rfl) ?_
      rintro K hK _ rfl
      go_simp
      refine hK _ ?_
      clear hK K
      refine wpRel_moveK rfl _ (.inl rfl) (rfl) ?_
      rintro K hK _ rfl
      go_simp
      refine hK _ ?_
      clear hK K
      refine wpRel_opK rfl (by rintro _ ⟨m, rfl⟩; unfold relAt; go_simp; exact ⟨⟨_, rfl⟩, rfl⟩) ?_
      rintro K hK _ rfl
      go_simp
      refine hK _ ?_
      clear hK K
      refine wpRel_opK rfl (by rintro _ ⟨m, rfl⟩; unfold relAt; go_simp; exact ⟨⟨_, rfl⟩, rfl⟩) ?_
      rintro K hK _ rfl
      go_simp
      refine hK _ ?_
      clear hK K
      refine wpRel_opK rfl (by
            rintro _ ⟨m, rfl⟩; unfold relAt; go_simp
            refine relUpon_enter (addDouble_c g1 hz0 _) ?_
            rintro e _ ⟨x1, y1, rfl, h1, m1, rfl⟩
            exact ⟨_, rfl, ⟨_, _, rfl, h1⟩, ⟨m + m1, by rw [World.drewN_drewN]⟩⟩) ?_
      rintro K hK _ ⟨x2, y2, rfl, g2⟩
      go_simp
      refine hK _ ?_
      clear hK K
      refine wpRel_moveK rfl _ (.inr rfl) (⟨_, _, rfl, g2⟩) ?_
      rintro K hK _ ⟨x3, y3, rfl, g3⟩
      go_simp
      refine hK _ ?_
      clear hK K
      refine wpRel_nil ?_
      rintro _ ⟨m, rfl⟩
      go_wp2_with fail
      exact ⟨⟨j, _, _, m, by omega, by go_num, rfl, by rw [hs.out]; exact g3, by first | rfl | exact True.intro⟩, by simp [intOf]⟩
    | zero =>
      have d1 : decide (0 ≤ ((0 : Nat) : Int) - 1) = false := by simp
      clear h
      go_wp2_with fail
      go_ret
      exact ⟨_, _, rfl, hxy, _, rfl⟩
end Go.Proofs.Ytkfcpnfolgiogaa
