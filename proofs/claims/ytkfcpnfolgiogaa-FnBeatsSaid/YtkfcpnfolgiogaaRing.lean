import Derived.Test.YtkfcpnfolgiogaaFresh
import Derived.Test.YtkfcpnfolgiogaaL1Abs
namespace Go.Proofs.Ytkfcpnfolgiogaa
open Go.RowKit Go.Fl

/-- A call that gives some complex number; what lay below stays. -/
def AnyC (w : World) (e : Ending) (w' : World) : Prop := ∃ z x y, e = .returned (.complex .f64 x y) ∧ FC z x y ∧ Below w.heap.size w w'

theorem below_cur {a : Option Addr} {len cap : Nat} {w w1 w2 : World} (h1 : Below w.heap.size w w1) (d : Drawn w.heap.size a len cap w1 w2) : Below w.heap.size w w2 :=
  h1.trans ((Below.refl _ _).grown d.2 h1.size (fun k hk => by cases hk; exact Nat.le_refl _))

set_option maxHeartbeats 400000 in
theorem makeDouble_c {a : Option Addr} {len cap : Nat} (w : World) (h : BsP w a len) (hl : len ≤ 1048576) :
    Calls Try.prog 16 #[.slice a len cap] w (AnyC w) := by
  have H := Lib.hid h
  clear h
  go_enter Try.func16, Try.ntmps16
  go_wp2_with fail
  refine (l01New_c _ H.out hl).mono ?_
  rintro e w1 ⟨rfl, c1, b1⟩
  have C1 := Lib.hid c1
  clear c1
  go_wp2_with fail
  refine (l1Double_c _ C1.out).mono ?_
  rintro e w2 ⟨r, s, p, q, rfl, hr, hs, d2⟩
  have D2 := Lib.hid d2
  clear d2
  go_wp2_with fail
  go_ret
  exact ⟨(p, q), _, _, rfl, ⟨hr, hs⟩, below_cur b1 D2.out⟩

set_option maxHeartbeats 400000 in
theorem sizeSpec_c {z : CN} {x y : Nat} (h : FC z x y) (w : World) :
    Calls Try.prog 14 #[.complex .f64 x y] w (RetF .f64 (fop .add .f64 (fabs .f64 z.1) (fabs .f64 z.2)) w) := by
  obtain ⟨hx, hy⟩ := h
  go_enter Try.func14, Try.ntmps14
  go_wp2_with fail
  refine (l1Abs_c hx _).mono ?_
  rintro e _ ⟨r, rfl, hr, n, rfl⟩
  go_wp2_with fail
  refine (l1Abs_c hy _).mono ?_
  rintro e _ ⟨s, rfl, hs, m, rfl⟩
  go_wp2_with (refine upon_flop _ (by decide) hr hs ?_; intro t k ht)
  go_ret
  exact ⟨_, rfl, ht, _, rfl⟩

set_option maxHeartbeats 1000000 in
theorem makePole_c {a : Option Addr} {len cap : Nat} (w : World) (h : BsP w a len) (hl : len ≤ 1048576) :
    Calls Try.prog 19 #[.slice a len cap] w (AnyC w) := by
  have H := Lib.hid h
  have u3 := under3
  have u23 := under23
  clear h
  go_enter Try.func19, Try.ntmps19
  go_wp2_with fail
  refine (l01New_c _ H.out hl).mono ?_
  rintro e w1 ⟨rfl, c1, b1⟩
  have C1 := Lib.hid c1
  clear c1
  go_wp2_with fail
  refine (l01Below_c 1449 (by decide) (by decide) _ C1.out).mono ?_
  rintro e w2 ⟨r, rfl, r0, r1, d2⟩
  have D2 := Lib.hid d2
  clear d2
  go_wp2_with (refine upon_flop _ (by decide) (int_FV _ _) (FV.of_lt (by decide)) ?_; intro x m hx)
  refine Calls.mono (l01Below_c 1449 (by decide) (by decide) _ (D2.out.drewN _).1) ?_
  rintro e w3 ⟨s, rfl, s0, s1, d3⟩
  have D3 := Lib.hid d3
  clear d3
  go_wp2_with (refine upon_flop _ (by decide) (int_FV _ _) (FV.of_lt (by decide)) ?_; intro y k hy)
  refine (sizeSpec_c (z := (_, _)) ⟨hx, hy⟩ _).mono ?_
  rintro e _ ⟨t, rfl, ht, j, rfl⟩
  have hb : Below w.heap.size w w3 := below_cur (below_drewN' (below_cur b1 D2.out) m) D3.out
  cases hc : (FloatKind.f64.format.order t 4598175219545276416 == some .lt)
  · go_wp2_with fail
    go_ret
    exact ⟨(_, _), _, _, rfl, ⟨hx, hy⟩, below_drewN' hb _⟩
  · go_wp2_with fail
    go_ret
    exact ⟨(_, _), _, _, rfl, ⟨FV.of_lt (k := .f64) (by decide), FV.of_lt (k := .f64) (by decide)⟩, below_drewN' hb _⟩

/-- A slice of complex numbers that stand for zs. -/
def CsP (w : World) (a : Option Addr) (len : Nat) (zs : List CN) : Prop :=
  zs.length = len ∧ ∀ i (h : i < zs.length), ∃ b off x y, a = some ⟨b, off, none⟩ ∧ w.cell? ⟨b, off + i, none⟩ = some (.complex .f64 x y) ∧ FC zs[i] x y ∧ b < w.heap.size

theorem CsP.below {w w' : World} {a : Option Addr} {len : Nat} {zs : List CN} (h : CsP w a len zs) (hb : Below w.heap.size w w') : CsP w' a len zs :=
  ⟨h.1, fun i hi => by
    obtain ⟨b, off, x, y, h1, h2, h3, h4⟩ := h.2 i hi
    exact ⟨b, off, x, y, h1, by rw [hb.cell (p := ⟨b, off + i, none⟩) h4]; exact h2, h3, Nat.lt_of_lt_of_le h4 hb.size⟩⟩

/-- z, z times p, .. -/
def ringAt (p z : CN) : Nat → CN
  | 0 => z
  | k + 1 => cmul (ringAt p z k) p

theorem ringAt_add (p z : CN) (k : Nat) : ∀ j, ringAt p (ringAt p z k) j = ringAt p z (k + j)
  | 0 => rfl
  | j + 1 => by rw [← Nat.add_assoc]; exact congrArg (cmul · p) (ringAt_add p z k j)

def ring (p z : CN) (n : Nat) : List CN := (List.range n).map (ringAt p z)

theorem infoC : (Try.prog.info? 23).map (fun i => (i.zero, i.size, i.bytes)) = some (some (.complex .f64 0 0), 1, 16) := by kernel_rfl
theorem sliceC : Try.prog.underlying 36 = some (.slice 23) := by kernel_rfl

/-- What the loop of RingMode keeps. -/
def RingRel (p z : CN) (n : Nat) (w : World) (v zz : Value) (i : Value) (wr : World) : Prop :=
  ∃ (j x y : Nat) (xs : List Value), j ≤ n ∧ i = .int .i64 j ∧ zz = .complex .f64 x y ∧ FC (ringAt p z j) x y ∧ wr.ownsRow w.heap.size 23 1 v j xs ∧
    (∀ k u, xs[k]? = some u → ∃ x y, u = .complex .f64 x y ∧ FC (ringAt p z k) x y) ∧ Below w.heap.size w wr

theorem CsP.of_owns {w : World} {base g cap n : Nat} {e : TypeId} {xs : List Value} {p z : CN} (h : w.ownsRow base e 1 (.slice (some ⟨g, 0, none⟩) n cap) n xs) (hu : ∀ k u, xs[k]? = some u → ∃ x y, u = .complex .f64 x y ∧ FC (ringAt p z k) x y) :
    CsP w (some ⟨g, 0, none⟩) n (ring p z n) := by
  refine ⟨by simp [ring], fun i hi => ?_⟩
  simp only [ring, List.length_map, List.length_range] at hi
  have hl : i < xs.length := by rw [h.1]; omega
  obtain ⟨x, y, hx, hf⟩ := hu i xs[i] (List.getElem?_eq_getElem hl)
  refine ⟨g, 0, x, y, rfl, ?_, by simpa [ring] using hf, (h.lt g rfl).2⟩
  rw [Nat.zero_add, h.cellAt i (by omega)]
  simp [hl, hx]

/-- A call of RingMode: the list, new. -/
def RetRing (p z : CN) (n : Nat) (w : World) (e : Ending) (w' : World) : Prop :=
  ∃ a cap, e = .returned (.tuple #[.slice a n cap, .bool true]) ∧ CsP w' a n (ring p z n) ∧ n ≤ cap ∧ cap ≤ maxLen ∧ Below w.heap.size w w'

set_option maxHeartbeats 1000000 in
theorem ringMode_c {p z : CN} {a b c d : Nat} (hp : FC p a b) (hz : FC z c d) (n : Nat) (hn : n ≤ 2000) (w : World) :
    Calls Try.prog 20 #[.complex .f64 a b, .complex .f64 c d, .int .i64 n] w (RetRing p z n w) := by
  obtain ⟨i0, hi, hz0, hz1, hz2⟩ := info_parts' infoC
  have u3 := under3
  have d0 : decide ((n : Int) ≤ 2000) = true := by simp; omega
  go_enter Try.func20, Try.ntmps20
  go_wp2_with (go_at_call 48; go_in)
  clear d0
  go_loopw [8, 9, 16] (fun v zz i wr => RingRel p z n w v zz i wr) (fun _ _ i _ => n - (intOf i).toNat)
  case atStart => exact ⟨0, _, _, _, Nat.zero_le _, rfl, rfl, hz, World.ownsRow_lit _ #[] 0 (Nat.le_refl _) (Nat.zero_le _) rfl, fun k u hk => by simp at hk, (Below.refl _ _).alloc (Nat.le_refl _) _⟩
  case round =>
    obtain ⟨j, x, y, xs, hj, rfl, rfl, hxy, hown, hu, hb⟩ := hrel
    by_cases hlt : j < n
    · have d1 : decide ((j : Int) < (n : Int)) = true := by simpa using hlt
      go_wp2_with (first | (at_builtin; refine wpList_append_own _ rfl _ _ 36 rfl w.heap.size 23 i0 (.complex .f64 0 0) 1 16 sliceC hi hz0 hz1 hz2 rfl (by decide) _ _ _ rfl (hown.alloc _) _ 1 1 [_] rfl rfl (new_one _ _ _) (one_ok rfl) (by unfold maxLen; omega) (by omega) (by have := hb.size; simp; omega) ?_; intro v' w1 hown1 hgrow1 _) | (go_at_call 13; refine (multiplyDouble_c hxy hp _).mono ?_; rintro e _ ⟨x', y', rfl, hm, m, rfl⟩))
      refine ⟨⟨_, _, _, _, _, _, _, _, _, _, _, _, ⟨j + 1, _, _, _, hlt, by go_num, rfl, hm, hown1, ?_, below_drewN' (hb.trans (((Below.refl _ _).alloc hb.size _).trans (below_grown (hown.alloc _) hgrow1 (Nat.le_refl _) (by have := hb.size; simp; omega)))) _⟩, rfl⟩, by simp [intOf]; omega⟩
      intro k u hk
      rcases Nat.lt_or_ge k xs.length with h | h
      · rw [List.getElem?_append_left h] at hk; exact hu k u hk
      · rw [List.getElem?_append_right h] at hk
        have hl : xs.length = j := by have := hown.1; omega
        cases hkk : k - xs.length with
        | zero => rw [hkk] at hk; simp at hk; subst hk; exact ⟨x, y, rfl, by rw [show k = j by omega]; exact hxy⟩
        | succ q => rw [hkk] at hk; simp at hk
    · obtain rfl : j = n := by omega
      have d1 : decide ((j : Int) < (j : Int)) = false := by simp
      rcases hown.2 with ⟨rfl, hn0⟩ | ⟨g, cap, _, rfl, _, _, hc1, hc2, _⟩
      · subst hn0
        go_wp2_with fail
        go_ret2
        exact ⟨_, _, rfl, ⟨by simp [ring], fun i hi => by simp [ring] at hi⟩, Nat.le_refl _, Nat.zero_le _, hb⟩
      · go_wp2_with fail
        go_ret2
        exact ⟨_, _, rfl, CsP.of_owns hown hu, hc1, hc2, hb⟩
end Go.Proofs.Ytkfcpnfolgiogaa
