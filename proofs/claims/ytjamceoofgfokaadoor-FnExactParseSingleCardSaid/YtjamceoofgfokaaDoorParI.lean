import Derived.Test.YtjamceoofgfokaaDoorNumber
namespace Go.Fl
open Go Go.Proofs.YtjamceoofgfokaaDoor

theorem isDig_ne {d : UInt8} (h : isDig d) : d ≠ 45 := by
  rintro rfl
  exact absurd h.1 (by decide)

/-- The text without its sign: b tells whether there was one. -/
def Link (l : List UInt8) (b : Bool) (T : List UInt8) : Prop := l = (if b then 45 :: T else T) ∧ (b = false → ∀ r, l ≠ 45 :: r)

theorem link_cut (l : List UInt8) : Link l (Lib.hasPrefix l [45]) (Lib.trimPrefix l [45]) := by
  unfold Lib.trimPrefix Lib.hasPrefix
  cases l with
  | nil => exact ⟨rfl, fun _ r h => by cases h⟩
  | cons c r =>
    by_cases hc : c = 45
    · subst hc
      have : List.isPrefixOf [45] (45 :: r) = true := rfl
      rw [this]
      exact ⟨rfl, fun h => by cases h⟩
    · have h45 : ((45 : UInt8) == c) = false := by simpa using Ne.symm hc
      have : List.isPrefixOf [45] (c :: r) = false := by
        show ((45 : UInt8) == c && List.isPrefixOf [] r) = false
        rw [h45]; rfl
      rw [this]
      exact ⟨rfl, fun _ s h => hc (by injection h)⟩

theorem fmt_link {l T : List UInt8} {b : Bool} {c : Nat} (h : Link l b T) (hf : Fmt c l) : sg D64 c = b ∧ tailOf c = T := by
  obtain ⟨h1, h2⟩ := h
  obtain ⟨f1, f2, f3⟩ := hf
  rw [fmt_tail f2] at f3
  obtain ⟨a, r, ha, da⟩ := tail_cons c
  unfold sgn at f3
  cases hs : sg D64 c <;> cases b <;> rw [hs] at f3 <;> (try simp at f3) <;> (try simp at h1)
  · exact ⟨rfl, by rw [f3, h1]⟩
  · rw [h1, ha] at f3
    injection f3 with f3
    exact absurd f3 (isDig_ne da)
  · exact absurd f3.symm (h2 rfl _)
  · rw [h1] at f3
    injection f3 with _ f3
    exact ⟨rfl, f3⟩

theorem word_sign {c : Nat} (hc : c < 2 ^ 64) : c = (if sg D64 c then rg D64 c + 2 ^ 63 else rg D64 c) := by
  have := word_sg_rg D64 (b := c) hc
  unfold Ieee.Format.word at this
  rw [D_S] at this
  cases hs : sg D64 c <;> rw [hs] at this
  · rw [if_neg (by decide)] at this ⊢
    exact this.symm
  · rw [if_pos rfl] at this ⊢
    omega

theorem fmt_acc {y : Nat} {l : List UInt8} (hy : y < 2 ^ 64) (h : fmtD (cl .f64 y) = l) (hl : l ≠ []) : Fmt y l := by
  unfold cl at h
  split at h
  · exact absurd h.symm hl
  · refine ⟨hy, ?_, h⟩
    refine Nat.lt_of_not_le fun hi => hl ?_
    rw [← h]
    unfold fmtD
    dsimp only
    rw [if_neg (by omega)]

theorem fmt_cl {c : Nat} {l : List UInt8} (h : Fmt c l) : fmtD (cl .f64 c) = l := by
  have hn : (FloatKind.f64.decode c).isNaN = false := by
    cases hh : (FloatKind.f64.decode c).isNaN
    · rfl
    · have := nan_iff.1 hh
      have h2 : rg D64 c < D64.infRung := h.2.1
      have h3 : D64.infRung < rg D64 c := this
      omega
  unfold cl
  rw [hn]
  exact h.2.2

theorem body_split (c : Nat) : body c = Lib.itoa (oddOf (V D64 (rg D64 c)) : Int) ++ 112 :: Lib.itoa ((twos (V D64 (rg D64 c)) : Int) - 1074) := rfl

/-- What a number's text tells of its parts. -/
theorem fmt_parts {l T : List UInt8} {b : Bool} {c : Nat} (h : Link l b T) (hf : Fmt c l) (hT : T ≠ [48]) : ¬ rg D64 c = 0 ∧ sg D64 c = b ∧ T = Lib.itoa (oddOf (V D64 (rg D64 c)) : Int) ++ 112 :: Lib.itoa ((twos (V D64 (rg D64 c)) : Int) - 1074) ∧ oddOf (V D64 (rg D64 c)) < 2 ^ 53 ∧ 0 < oddOf (V D64 (rg D64 c)) ∧ twos (V D64 (rg D64 c)) < 2200 ∧ Stands (rg D64 c) (oddOf (V D64 (rg D64 c))) ((twos (V D64 (rg D64 c)) : Int) - 1074) := by
  obtain ⟨h1, h2⟩ := fmt_link h hf
  have h0 : ¬ rg D64 c = 0 := fun h0 => hT (by rw [← h2]; unfold tailOf; rw [if_pos h0])
  obtain ⟨o1, o2, o3⟩ := odd_bound (r := rg D64 c) (by omega) hf.2.1
  have sp := odd_spec (V_pos (show 0 < rg D64 c by omega)) (V_lt_U hf.2.1)
  refine ⟨h0, h1, ?_, o1, o3, o2, 0, twos (V D64 (rg D64 c)), ?_, by omega⟩
  · rw [← h2]
    unfold tailOf
    rw [if_neg h0]
    rfl
  · rw [U_zero, Nat.mul_one, Nat.mul_comm]
    exact sp.1
end Go.Fl
namespace Go.Proofs.YtjamceoofgfokaaDoor
open Go.RowKit Go.Fl

/-- A call that reads a number. -/
def RetP (l : List UInt8) (w : World) (e : Ending) (w' : World) : Prop :=
  ∃ x t, e = .returned (.tuple #[.float .f64 x, .bool t]) ∧ (t = true → Fmt x l) ∧ (t = false → x = 0 ∧ ¬ IsFmt l) ∧ Below w.heap.size w w'

set_option maxRecDepth 10000 in
set_option maxHeartbeats 4000000 in
theorem parseImpl_c {l : List UInt8} (hl : l.length ≤ 1048576) (w : World) (hL : Laid w) :
    Calls Tryd.prog 12 #[.string ⟨l.toArray⟩] w (RetP l w) := by
  have rej : ∀ w', Below w.heap.size w w' → ¬ IsFmt l → RetP l w (.returned (.tuple #[.float .f64 0, .bool false])) w' := fun w' hb hn => ⟨0, false, rfl, fun h => (by cases h), fun _ => ⟨rfl, hn⟩, hb⟩
  have acc : ∀ x w', Below w.heap.size w w' → Fmt x l → RetP l w (.returned (.tuple #[.float .f64 x, .bool true])) w' := fun x w' hb hn => ⟨x, true, rfl, fun _ => hn, fun h => (by cases h), hb⟩
  have REJ := Lib.hid rej
  have ACC := Lib.hid acc
  have L0 := Lib.hid hL
  have CP := Lib.hid (fun w => Tryd.strings_CutPrefix ⟨l.toArray⟩ ⟨#[45]⟩ w)
  have LK := Lib.hid (link_cut l)
  have e0 : (⟨l.toArray⟩ : ByteArray).data.toList = l := rfl
  have e1 : (⟨#[45]⟩ : ByteArray).data.toList = [45] := rfl
  rw [e0, e1] at CP
  clear rej acc hL e0 e1
  generalize Lib.hasPrefix l [45] = b at *
  generalize Lib.trimPrefix l [45] = T at *
  have hTl : T.length ≤ 1048576 := by
    have := LK.out.1
    cases b
    · rw [if_neg (by decide)] at this
      rw [← this]; exact hl
    · rw [if_pos rfl] at this
      rw [this, List.length_cons] at hl; omega
  go_enter Tryd.func12, Tryd.ntmps12
  go_wp2_with fail
  refine (CP.out _).mono ?_
  rintro e w1 ⟨rfl, hw1⟩
  rw [hw1]
  clear hw1
  by_cases hT : T = [48]
  · subst hT
    cases b
    case false =>
      obtain rfl : l = [48] := LK.out.1
      have f0 : fmtD (some 0) = [48] := fmtD_zero (b := 0) rfl
      have fm : Fmt 0 [48] := ⟨by decide, by decide +kernel, f0⟩
      have FM := Lib.hid fm
      have FD : ∀ w', Below w.heap.size w w' → Calls Tryd.prog 8 #[.float .f64 0] w' (RetS [48] w') := fun w' hb => by
        have := formatImpl_c (p := some 0) (FV.mk (by decide +kernel) (by decide)) w' (L0.out.below hb).1
        rw [f0] at this
        exact this
      have FD0 := Lib.hid FD
      clear f0 fm FD
      go_wp2_with fail
      refine (FD0.out _ (Below.refl _ _)).mono ?_
      rintro e w2 ⟨rfl, b2⟩
      go_wp2_with fail
      go_ret2
      exact ACC.out 0 _ b2 FM.out
    case true =>
      obtain rfl : l = [45, 48] := LK.out.1
      have f0 : fmtD (some 9223372036854775808) = [45, 48] := fmtD_zero (b := 9223372036854775808) rfl
      have fm : Fmt 9223372036854775808 [45, 48] := ⟨by decide, by decide +kernel, f0⟩
      have FM := Lib.hid fm
      have FD : ∀ w', Below w.heap.size w w' → Calls Tryd.prog 8 #[.float .f64 9223372036854775808] w' (RetS [45, 48] w') := fun w' hb => by
        have := formatImpl_c (p := some 9223372036854775808) (FV.mk (by decide +kernel) (by decide)) w' (L0.out.below hb).1
        rw [f0] at this
        exact this
      have FD0 := Lib.hid FD
      have CN := Lib.hid (fun w => copysign_neg (x := 0) (by decide) w)
      rw [show rg D64 0 + 2 ^ 63 = 9223372036854775808 from rfl] at CN
      clear f0 fm FD
      go_wp2_with fail
      refine (CN.out _).mono ?_
      rintro e w2 ⟨rfl, hw2⟩
      rw [hw2]
      clear hw2
      go_wp2_with fail
      refine (FD0.out _ (Below.refl _ _)).mono ?_
      rintro e w2 ⟨rfl, b2⟩
      go_wp2_with fail
      go_ret2
      exact ACC.out _ _ b2 FM.out
  · have t1 : (T == [48]) = false := by simpa using hT
    have FP := Lib.hid (fun c (hf : Fmt c l) => fmt_parts LK.out hf hT)
    clear hT
    go_wp2_with fail
    refine (cut_c T hTl _).mono ?_
    rintro e _ ⟨A, B, tc, rfl, lA, lB, hcut, n0, rfl⟩
    have CUT := Lib.hid hcut
    clear hcut
    have L1 := Lib.hid (L0.out.below (below_drewN' (Below.refl _ _) n0))
    go_wp2_with fail
    refine (number_c (l := A) (by omega) _ L1.out).mono ?_
    rintro e w2 ⟨n, ta, rfl, hta, hta2, b2⟩
    have TA := Lib.hid (And.intro hta hta2)
    have B2 := Lib.hid ((below_drewN' (Below.refl w.heap.size w) n0).trans b2)
    clear hta hta2 b2
    go_wp2_with fail
    refine (number_c (l := B) (by omega) _ (L0.out.below B2.out)).mono ?_
    rintro e w3 ⟨ex, tb, rfl, htb, htb2, b3⟩
    have TB := Lib.hid (And.intro htb htb2)
    have B3 := Lib.hid (B2.out.trans (b3.mono B2.out.size))
    clear htb htb2 b3 B2
    -- what the text of a number would give
    have G : ∀ c, Fmt c l → ta = true ∧ tb = true ∧ n = (oddOf (V D64 (rg D64 c)) : Int) ∧ ex = (twos (V D64 (rg D64 c)) : Int) - 1074 ∧ 0 < n ∧ n < 2 ^ 53 ∧ -1074 ≤ ex ∧ ex < 1200 ∧ ¬ rg D64 c = 0 ∧ sg D64 c = b ∧ Stands (rg D64 c) (oddOf (V D64 (rg D64 c))) ((twos (V D64 (rg D64 c)) : Int) - 1074) := fun c hf => by
      obtain ⟨p0, p1, p2, p3, p4, p5, p6⟩ := FP.out c hf
      obtain ⟨e1, e2⟩ := CUT.out _ _ (itoa_no_p _) p2
      obtain ⟨q1, q2⟩ := TA.out.2 _ (by omega) (by omega) e1
      obtain ⟨q3, q4⟩ := TB.out.2 _ (by omega) (by omega) e2
      exact ⟨q2, q4, q1, q3, by omega, by omega, by omega, by omega, p0, p1, p6⟩
    have G0 := Lib.hid G
    clear G FP
    cases ta
    case false =>
      go_wp2_with fail
      go_ret2
      exact REJ.out _ B3.out (fun ⟨c, hf⟩ => by have := (G0.out c hf).1; cases this)
    case true =>
      cases tb
      case false =>
        go_wp2_with fail
        go_ret2
        exact REJ.out _ B3.out (fun ⟨c, hf⟩ => by have := (G0.out c hf).2.1; cases this)
      case true =>
        by_cases k1 : n < 1
        · have d1 : decide (n < 1) = true := by simpa using k1
          go_wp2_with fail
          go_ret2
          exact REJ.out _ B3.out (fun ⟨c, hf⟩ => by have := (G0.out c hf).2.2.2.2.1; omega)
        · by_cases k2 : 9007199254740992 ≤ n
          · have d1 : decide (n < 1) = false := by simpa using k1
            have d2 : decide (9007199254740992 ≤ n) = true := by simpa using k2
            go_wp2_with fail
            go_ret2
            exact REJ.out _ B3.out (fun ⟨c, hf⟩ => by have := (G0.out c hf).2.2.2.2.2.1; omega)
          · by_cases k3 : ex < -2000
            · have d1 : decide (n < 1) = false := by simpa using k1
              have d2 : decide (9007199254740992 ≤ n) = false := by simpa using k2
              have d3 : decide (ex < -2000) = true := by simpa using k3
              go_wp2_with fail
              go_ret2
              exact REJ.out _ B3.out (fun ⟨c, hf⟩ => by have := (G0.out c hf).2.2.2.2.2.2.1; omega)
            · by_cases k4 : 2000 < ex
              · have d1 : decide (n < 1) = false := by simpa using k1
                have d2 : decide (9007199254740992 ≤ n) = false := by simpa using k2
                have d3 : decide (ex < -2000) = false := by simpa using k3
                have d4 : decide (2000 < ex) = true := by simpa using k4
                go_wp2_with fail
                go_ret2
                exact REJ.out _ B3.out (fun ⟨c, hf⟩ => by have := (G0.out c hf).2.2.2.2.2.2.2.1; omega)
              · obtain ⟨m, rfl⟩ : ∃ m : Nat, n = m := ⟨n.toNat, by omega⟩
                have hm0 : 0 < m := by omega
                have hm53 : m < 2 ^ 53 := by omega
                have he1 : -2000 ≤ ex := by omega
                have he2 : ex ≤ 2000 := by omega
                have d1 : decide ((m : Int) < 1) = false := by simpa using k1
                have d2 : decide ((9007199254740992 : Int) ≤ m) = false := by simpa using k2
                have d3 : decide (ex < -2000) = false := by simpa using k3
                have d4 : decide (2000 < ex) = false := by simpa using k4
                have LD := Lib.hid (fun w => ldexp_c hm0 hm53 he1 he2 w)
                clear k1 k2 k3 k4
                go_wp2_with fail
                refine (LD.out _).mono ?_
                rintro e _ ⟨x, rfl, hx64, hxt, n4, rfl⟩
                have HX : ∀ c, Fmt c l → x = rg D64 c := fun c hf => by
                  obtain ⟨g1, g2, g3, g4, g5, g6, g7, g8, g9, g10, g11⟩ := G0.out c hf
                  have e1 : m = oddOf (V D64 (rg D64 c)) := by omega
                  refine hxt _ (by omega) hf.2.1 ?_
                  rw [e1, g4]
                  exact g11
                have hne : l ≠ [] := by
                  have h1 := (TA.out.1 trivial).1
                  obtain ⟨d, r, hd, -⟩ := dec_cons m
                  rw [itoa_nat, hd] at h1
                  have h2 := lA
                  rw [h1, List.length_cons] at h2
                  have h3 := LK.out.1
                  intro hl0
                  rw [hl0] at h3
                  cases b
                  · rw [if_neg (by decide)] at h3
                    rw [← h3] at h2
                    simp at h2
                  · rw [if_pos rfl] at h3
                    cases h3
                have SG : ∀ c, Fmt c l → sg D64 c = b := fun c hf => (G0.out c hf).2.2.2.2.2.2.2.2.2.1
                have B4 := Lib.hid (below_drewN' B3.out n4)
                have HX0 := Lib.hid HX
                have SG0 := Lib.hid SG
                have H64 := Lib.hid hx64
                clear HX SG hxt hx64 G0 TA TB CUT LD lA lB B3 L1
                cases b
                case false =>
                  have FD : ∀ w', Below w.heap.size w w' → Calls Tryd.prog 8 #[.float .f64 x] w' (RetS (fmtD (cl .f64 x)) w') := fun w' hb => formatImpl_c (FV.of_lt (k := .f64) H64.out) w' (L0.out.below hb).1
                  have FD0 := Lib.hid FD
                  clear FD
                  have FA := Lib.hid (fun hq => fmt_acc (y := x) (l := l) H64.out hq hne)
                  have CC : ∀ c, Fmt c l → c = x := fun c hf => by
                    have h1 := word_sign hf.1
                    rw [SG0.out c hf, if_neg (by decide)] at h1
                    rw [HX0.out c hf]
                    exact h1
                  have CC0 := Lib.hid CC
                  clear CC
                  generalize hz : fmtD (cl .f64 (x)) = z at *
                  have ZZ := Lib.hid hz
                  clear hz
                  go_wp2_with fail
                  refine (FD0.out _ B4.out).mono ?_
                  rintro e w5 ⟨rfl, b5⟩
                  have B5 := B4.out.trans (b5.mono B4.out.size)
                  clear b5
                  by_cases hq : z = l
                  · have q1 : (z == l) = true := by simpa using hq
                    have FM := Lib.hid (FA.out hq)
                    clear hq
                    go_wp2_with fail
                    go_ret2
                    exact ACC.out _ _ B5 FM.out
                  · have q1 : (z == l) = false := by simpa using hq
                    have HQ := Lib.hid hq
                    clear hq
                    go_wp2_with fail
                    go_ret2
                    exact REJ.out _ B5 (fun ⟨c, hf⟩ => HQ.out (by
                      rw [← ZZ.out, ← CC0.out c hf]
                      exact fmt_cl hf))
                case true =>
                  have CN := Lib.hid (fun w => copysign_neg H64.out w)
                  have hy : rg D64 x + 2 ^ 63 < 2 ^ 64 := by
                    have := rg_lt D64 x
                    rw [D_S] at this
                    omega
                  have HY := Lib.hid hy
                  have CX : ∀ c, Fmt c l → c = rg D64 x + 2 ^ 63 := fun c hf => by
                    have h1 := word_sign hf.1
                    rw [SG0.out c hf, if_pos rfl] at h1
                    rw [HX0.out c hf, rg_rg]
                    exact h1
                  have CX0 := Lib.hid CX
                  clear CX hy HX0 H64
                  generalize rg D64 x + 2 ^ 63 = y at *
                  go_wp2_with fail
                  refine (CN.out _).mono ?_
                  rintro e w6 ⟨rfl, hw6⟩
                  rw [hw6]
                  clear hw6
                  have FD : ∀ w', Below w.heap.size w w' → Calls Tryd.prog 8 #[.float .f64 y] w' (RetS (fmtD (cl .f64 y)) w') := fun w' hb => formatImpl_c (FV.of_lt (k := .f64) HY.out) w' (L0.out.below hb).1
                  have FD0 := Lib.hid FD
                  clear FD
                  have FA := Lib.hid (fun hq => fmt_acc (y := y) (l := l) HY.out hq hne)
                  have CC : ∀ c, Fmt c l → c = y := fun c hf => CX0.out c hf
                  have CC0 := Lib.hid CC
                  clear CC
                  generalize hz : fmtD (cl .f64 (y)) = z at *
                  have ZZ := Lib.hid hz
                  clear hz
                  go_wp2_with fail
                  refine (FD0.out _ B4.out).mono ?_
                  rintro e w5 ⟨rfl, b5⟩
                  have B5 := B4.out.trans (b5.mono B4.out.size)
                  clear b5
                  by_cases hq : z = l
                  · have q1 : (z == l) = true := by simpa using hq
                    have FM := Lib.hid (FA.out hq)
                    clear hq
                    go_wp2_with fail
                    go_ret2
                    exact ACC.out _ _ B5 FM.out
                  · have q1 : (z == l) = false := by simpa using hq
                    have HQ := Lib.hid hq
                    clear hq
                    go_wp2_with fail
                    go_ret2
                    exact REJ.out _ B5 (fun ⟨c, hf⟩ => HQ.out (by
                      rw [← ZZ.out, ← CC0.out c hf]
                      exact fmt_cl hf))
end Go.Proofs.YtjamceoofgfokaaDoor
