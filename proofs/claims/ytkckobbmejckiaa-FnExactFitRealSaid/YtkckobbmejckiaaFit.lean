import Derived.Test.YtkckobbmejckiaaEqF
import Derived.Test.YtkckobbmejckiaaFinite
namespace Go.Proofs.Ytkckobbmejckiaa
open Go.RowKit Go.Fl

/-- The i-th of a list of float32 words, as what it stands for. -/
def fel (bs : List Nat) (i : Nat) : Option Nat := cl .f32 (bs.getD i 0)
structure S5 where
  uu : Option Nat
  uv : Option Nat
  vv : Option Nat
  uw : Option Nat
  vw : Option Nat
def fadd (s x y : Option Nat) : Option Nat := fop .add .f64 s (fop .mul .f64 x y)
def wel (bs : List Nat) (i : Nat) : Option Nat := fconv .f32 .f64 (fel bs i)
/-- The five sums after k rounds. -/
def fitS (bs : List Nat) : Nat → S5
  | 0 => ⟨cl .f64 0, cl .f64 0, cl .f64 0, cl .f64 0, cl .f64 0⟩
  | k + 1 => ⟨fadd (fitS bs k).uu (wel bs (k + 1)) (wel bs (k + 1)), fadd (fitS bs k).uv (wel bs (k + 1)) (wel bs k), fadd (fitS bs k).vv (wel bs k) (wel bs k), fadd (fitS bs k).uw (wel bs (k + 1)) (wel bs (k + 2)), fadd (fitS bs k).vw (wel bs k) (wel bs (k + 2))⟩
theorem fitS_succ (bs : List Nat) (k : Nat) : fitS bs (k + 1) = ⟨fadd (fitS bs k).uu (wel bs (k + 1)) (wel bs (k + 1)), fadd (fitS bs k).uv (wel bs (k + 1)) (wel bs k), fadd (fitS bs k).vv (wel bs k) (wel bs k), fadd (fitS bs k).uw (wel bs (k + 1)) (wel bs (k + 2)), fadd (fitS bs k).vw (wel bs k) (wel bs (k + 2))⟩ := rfl
def fitE (bs : List Nat) : S5 := fitS bs (bs.length - 2)
def fD (uu uv vv : Option Nat) : Option Nat := fop .sub .f64 (fop .mul .f64 uu vv) (fop .mul .f64 uv uv)
def fA (uu uv vv uw vw : Option Nat) : Option Nat := fop .quo .f64 (fop .sub .f64 (fop .mul .f64 uw vv) (fop .mul .f64 vw uv)) (fD uu uv vv)
def fB (uu uv vv uw vw : Option Nat) : Option Nat := fop .quo .f64 (fop .sub .f64 (fop .mul .f64 uw uv) (fop .mul .f64 vw uu)) (fD uu uv vv)
def fZ (uu uv vv : Option Nat) : Bool := ford .f64 (fD uu uv vv) (cl .f64 0) == some .eq
def fOk (s : S5) : Bool := !fZ s.uu s.uv s.vv && isFin .f64 (fD s.uu s.uv s.vv) && isFin .f64 (fA s.uu s.uv s.vv s.uw s.vw) && isFin .f64 (fB s.uu s.uv s.vv s.uw s.vw)
def fitOk (bs : List Nat) : Bool := decide (bs.length ≤ 2000) && fOk (fitE bs)
def fitA (bs : List Nat) : Option Nat := if fitOk bs then fA (fitE bs).uu (fitE bs).uv (fitE bs).vv (fitE bs).uw (fitE bs).vw else cl .f64 0
def fitB (bs : List Nat) : Option Nat := if fitOk bs then fB (fitE bs).uu (fitE bs).uv (fitE bs).vv (fitE bs).uw (fitE bs).vw else cl .f64 0
theorem fit_small {bs : List Nat} (h : bs.length ≤ 2000) : fitOk bs = fOk (fitE bs) := by unfold fitOk; rw [decide_eq_true h, Bool.true_and]
theorem fit_test {uu uv vv : Option Nat} {d : Nat} (h : FV .f64 (fD uu uv vv) d) : (FloatKind.f64.format.order d 0 == some .eq) = fZ uu uv vv := by
  unfold fZ
  rw [← h.1, ford_cl]

/-- A call that gives two floats and a bool. -/
def RetFFB (p q : Option Nat) (t : Bool) (w : World) (e : Ending) (w' : World) : Prop := ∃ r s, e = .returned (.tuple #[.float .f64 r, .float .f64 s, .bool t]) ∧ FV .f64 p r ∧ FV .f64 q s ∧ ∃ n, w' = w.drewN n

set_option maxHeartbeats 400000 in
theorem less_c {pa pb pc pd : Option Nat} {a b c d : Nat} (ha : FV .f64 pa a) (hb : FV .f64 pb b) (hc : FV .f64 pc c) (hd : FV .f64 pd d) (w : World) :
    Calls Try.prog 29 #[.float .f64 a, .float .f64 b, .float .f64 c, .float .f64 d] w (RetF .f64 (fop .sub .f64 (fop .mul .f64 pa pb) (fop .mul .f64 pc pd)) w) := by
  go_enter Try.func29, Try.ntmps29
  go_wp2_with (first | (refine upon_flop _ (by decide) ha hb ?_; intro x n1 hx) | (refine upon_flop _ (by decide) hc hd ?_; intro y n2 hy) | (refine upon_flop _ (by decide) hx hy ?_; intro z n3 hz))
  go_ret
  exact ⟨_, rfl, hz, _, rfl⟩
set_option maxHeartbeats 2000000 in
theorem fitImpl_c {a : Option Addr} {len cap : Nat} {bs : List Nat} (w : World) (h : FsP w .f32 a len bs) (hl : len ≤ 1048576) :
    Calls Try.prog 22 #[.slice a len cap] w (RetFFB (fitA bs) (fitB bs) (fitOk bs) w) := by
  have hw3 : ∀ i, i < bs.length → ∃ b off x, a = some ⟨b, off, none⟩ ∧ w.cell? ⟨b, off + i, none⟩ = some (.float .f32 x) ∧ FV .f32 (fel bs i) x := fun i hi => by
    obtain ⟨b, off, h1, h2, _⟩ := h.2.1 i hi
    have e : bs.getD i 0 = bs[i] := by simp [List.getD, hi]
    refine ⟨b, off, bs[i], h1, h2, ?_⟩
    unfold fel
    rw [e]
    exact FV.of_lt (h.2.2 _ (List.getElem_mem hi))
  obtain rfl := h.1
  clear h
  by_cases hbig : bs.length ≤ 2000
  · have hok := Lib.hid (fit_small hbig)
    go_enter Try.func22, Try.ntmps22
    go_wp2
    go_loopw [5, 6, 7, 8, 9, 10] (fun a1 a2 a3 a4 a5 i wr => ∃ k n x1 x2 x3 x4 x5 : Nat, k ≤ bs.length ∧ (0 < k → k + 2 ≤ bs.length) ∧ i = .int .i64 k ∧ a1 = .float .f64 x1 ∧ a2 = .float .f64 x2 ∧ a3 = .float .f64 x3 ∧ a4 = .float .f64 x4 ∧ a5 = .float .f64 x5 ∧ FV .f64 (fitS bs k).uu x1 ∧ FV .f64 (fitS bs k).uv x2 ∧ FV .f64 (fitS bs k).vv x3 ∧ FV .f64 (fitS bs k).uw x4 ∧ FV .f64 (fitS bs k).vw x5 ∧ wr = w.drewN n) (fun _ _ _ _ _ i _ => bs.length - (intOf i).toNat)
    case atStart => exact ⟨0, 0, 0, 0, 0, 0, 0, Nat.zero_le _, fun h => by omega, rfl, rfl, rfl, rfl, rfl, rfl, FV.of_lt (by decide), FV.of_lt (by decide), FV.of_lt (by decide), FV.of_lt (by decide), FV.of_lt (by decide), rfl⟩
    case round =>
      obtain ⟨k, n, x1, x2, x3, x4, x5, hk, hk2, rfl, rfl, rfl, rfl, rfl, rfl, v1, v2, v3, v4, v5, rfl⟩ := hrel
      by_cases hlt : k + 2 < bs.length
      · obtain ⟨b, off, y0, rfl, c0, f0⟩ := hw3 k (by omega)
        obtain ⟨b', off', y1, hbb, c1, f1⟩ := hw3 (k + 1) (by omega)
        obtain ⟨b'', off'', y2, hbb', c2, f2⟩ := hw3 (k + 2) (by omega)
        obtain ⟨rfl, rfl⟩ : b = b' ∧ off = off' := by simpa using hbb
        obtain ⟨rfl, rfl⟩ : b = b'' ∧ off = off'' := by simpa using hbb'
        have i1 : (k : Int) + 2 < (bs.length : Int) := by omega
        have i0 : k < bs.length := by omega
        have i4 : (0 : Int) ≤ (k : Int) + 1 := by omega
        have i5 : (0 : Int) ≤ (k : Int) + 2 := by omega
        have i6 : (k : Int) + 1 < (bs.length : Int) := by omega
        have i7 : ((k : Int) + 1).toNat = k + 1 := by omega
        have i8 : ((k : Int) + 2).toNat = k + 2 := by omega
        have hs := Lib.hid (fitS_succ bs k)
        clear hw3 hbb hbb' hok hk2
        go_wp2_with fail
        have i2 : IntKind.i64.wrap ((k : Int) + 1) = (k : Int) + 1 := IntWalk.i64_in _ (by omega)
        have i3 : IntKind.i64.wrap ((k : Int) + 2) = (k : Int) + 2 := IntWalk.i64_in _ (by omega)
        refine wp_region_rel (fun w' => ∃ m, w' = w.drewN m) [fun v => v = .slice (some ⟨b, off, none⟩) bs.length cap, fun v => v = .int .i64 k, fun v => v = .pointer (some ⟨b, off + k, none⟩), fun v => v = .float .f32 y0, isF .f64 (fconv .f32 .f64 (fel bs k)), fun v => v = .slice (some ⟨b, off, none⟩) bs.length cap, fun v => v = .int .i64 k, fun v => v = .int .i64 ((k : Int) + 1), fun v => v = .pointer (some ⟨b, off + (k + 1), none⟩), fun v => v = .float .f32 y1, isF .f64 (fconv .f32 .f64 (fel bs (k + 1))), fun v => v = .slice (some ⟨b, off, none⟩) bs.length cap, fun v => v = .int .i64 k, fun v => v = .int .i64 ((k : Int) + 2), fun v => v = .pointer (some ⟨b, off + (k + 2), none⟩), fun v => v = .float .f32 y2, isF .f64 (fconv .f32 .f64 (fel bs (k + 2))), isF .f64 (fconv .f32 .f64 (fel bs k)), isF .f64 (fconv .f32 .f64 (fel bs (k + 1))), isF .f64 (fconv .f32 .f64 (fel bs (k + 2)))] (by kernel_rfl) (by kernel_rfl) ⟨n + 1, rfl⟩ ?_
        refine wpRel_moveK rfl _ (.inl rfl) (rfl) ?_
        rintro K hK _ rfl
        go_simp
        refine hK _ ?_
        clear hK K
        refine wpRel_moveK rfl _ (.inl rfl) (rfl) ?_
        rintro K hK _ rfl
        go_simp
        refine hK _ ?_
        clear hK K
        refine wpRel_opK rfl (by rintro _ ⟨m, rfl⟩; unfold relAt; go_simp; exact ⟨⟨_, rfl⟩, rfl⟩) ?_
        rintro K hK _ rfl
        go_simp
        refine hK _ ?_
        clear hK K
        refine wpRel_opK rfl (by rintro _ ⟨m, rfl⟩; unfold relAt; go_simp; exact ⟨⟨_, rfl⟩, rfl⟩) ?_
        rintro K hK _ rfl
        go_simp
        refine hK _ ?_
        clear hK K
        refine wpRel_opK rfl (by
          rintro _ ⟨m, rfl⟩; unfold relAt; go_simp
          obtain ⟨r, n', hrun, hv⟩ := run_widen (P := Try.prog) (w.drewN m) 29 23 under29 under23 f0
          refine relUpon_run ⟨_, _, hrun, ?_, ?_⟩
          · exact ⟨m + n', by rw [World.drewN_drewN]⟩
          · exact ⟨r, rfl, hv⟩) ?_
        rintro K hK _ ⟨r0, rfl, g0⟩
        go_simp
        refine hK _ ?_
        clear hK K
        refine wpRel_moveK rfl _ (.inl rfl) (rfl) ?_
        rintro K hK _ rfl
        go_simp
        refine hK _ ?_
        clear hK K
        refine wpRel_moveK rfl _ (.inl rfl) (rfl) ?_
        rintro K hK _ rfl
        go_simp
        refine hK _ ?_
        clear hK K
        refine wpRel_opK rfl (by rintro _ ⟨m, rfl⟩; unfold relAt; go_simp; exact ⟨⟨_, rfl⟩, rfl⟩) ?_
        rintro K hK _ rfl
        go_simp
        refine hK _ ?_
        clear hK K
        refine wpRel_opK rfl (by rintro _ ⟨m, rfl⟩; unfold relAt; go_simp; exact ⟨⟨_, rfl⟩, rfl⟩) ?_
        rintro K hK _ rfl
        go_simp
        refine hK _ ?_
        clear hK K
        refine wpRel_opK rfl (by rintro _ ⟨m, rfl⟩; unfold relAt; go_simp; exact ⟨⟨_, rfl⟩, rfl⟩) ?_
        rintro K hK _ rfl
        go_simp
        refine hK _ ?_
        clear hK K
        refine wpRel_opK rfl (by
          rintro _ ⟨m, rfl⟩; unfold relAt; go_simp
          obtain ⟨r, n', hrun, hv⟩ := run_widen (P := Try.prog) (w.drewN m) 29 23 under29 under23 f1
          refine relUpon_run ⟨_, _, hrun, ?_, ?_⟩
          · exact ⟨m + n', by rw [World.drewN_drewN]⟩
          · exact ⟨r, rfl, hv⟩) ?_
        rintro K hK _ ⟨r1, rfl, g1⟩
        go_simp
        refine hK _ ?_
        clear hK K
        refine wpRel_moveK rfl _ (.inl rfl) (rfl) ?_
        rintro K hK _ rfl
        go_simp
        refine hK _ ?_
        clear hK K
        refine wpRel_moveK rfl _ (.inl rfl) (rfl) ?_
        rintro K hK _ rfl
        go_simp
        refine hK _ ?_
        clear hK K
        refine wpRel_opK rfl (by rintro _ ⟨m, rfl⟩; unfold relAt; go_simp; exact ⟨⟨_, rfl⟩, rfl⟩) ?_
        rintro K hK _ rfl
        go_simp
        refine hK _ ?_
        clear hK K
        refine wpRel_opK rfl (by rintro _ ⟨m, rfl⟩; unfold relAt; go_simp; exact ⟨⟨_, rfl⟩, rfl⟩) ?_
        rintro K hK _ rfl
        go_simp
        refine hK _ ?_
        clear hK K
        refine wpRel_opK rfl (by rintro _ ⟨m, rfl⟩; unfold relAt; go_simp; exact ⟨⟨_, rfl⟩, rfl⟩) ?_
        rintro K hK _ rfl
        go_simp
        refine hK _ ?_
        clear hK K
        refine wpRel_opK rfl (by
          rintro _ ⟨m, rfl⟩; unfold relAt; go_simp
          obtain ⟨r, n', hrun, hv⟩ := run_widen (P := Try.prog) (w.drewN m) 29 23 under29 under23 f2
          refine relUpon_run ⟨_, _, hrun, ?_, ?_⟩
          · exact ⟨m + n', by rw [World.drewN_drewN]⟩
          · exact ⟨r, rfl, hv⟩) ?_
        rintro K hK _ ⟨r2, rfl, g2⟩
        go_simp
        refine hK _ ?_
        clear hK K
        refine wpRel_moveK rfl _ (.inr rfl) (⟨r0, rfl, g0⟩) ?_
        rintro K hK _ ⟨q0, rfl, h0⟩
        go_simp
        refine hK _ ?_
        clear hK K
        refine wpRel_moveK rfl _ (.inr rfl) (⟨r1, rfl, g1⟩) ?_
        rintro K hK _ ⟨q1, rfl, h1⟩
        go_simp
        refine hK _ ?_
        clear hK K
        refine wpRel_moveK rfl _ (.inr rfl) (⟨r2, rfl, g2⟩) ?_
        rintro K hK _ ⟨q2, rfl, h2⟩
        go_simp
        refine hK _ ?_
        clear hK K
        refine wpRel_nil ?_
        rintro _ ⟨m, rfl⟩
        clear i2 i3 i4 i5 i6 i7 i8 c0 c1 c2
        go_wp2_with (refine upon_flop _ (by decide) (by assumption) (by assumption) ?_; intro _ _ _)
        refine ⟨⟨k + 1, _, _, _, _, _, _, by omega, fun _ => by omega, by go_num, rfl, rfl, rfl, rfl, rfl, ?_, ?_, ?_, ?_, ?_, rfl⟩, by simp [intOf]; omega⟩
        · rw [hs.out]; exact (by assumption : FV .f64 (fop .add .f64 (fitS bs k).uu (fop .mul .f64 (fconv .f32 .f64 (fel bs (k + 1))) (fconv .f32 .f64 (fel bs (k + 1))))) _)
        · rw [hs.out]; exact (by assumption : FV .f64 (fop .add .f64 (fitS bs k).uv (fop .mul .f64 (fconv .f32 .f64 (fel bs (k + 1))) (fconv .f32 .f64 (fel bs k)))) _)
        · rw [hs.out]; exact (by assumption : FV .f64 (fop .add .f64 (fitS bs k).vv (fop .mul .f64 (fconv .f32 .f64 (fel bs k)) (fconv .f32 .f64 (fel bs k)))) _)
        · rw [hs.out]; exact (by assumption : FV .f64 (fop .add .f64 (fitS bs k).uw (fop .mul .f64 (fconv .f32 .f64 (fel bs (k + 1))) (fconv .f32 .f64 (fel bs (k + 2))))) _)
        · rw [hs.out]; exact (by assumption : FV .f64 (fop .add .f64 (fitS bs k).vw (fop .mul .f64 (fconv .f32 .f64 (fel bs k)) (fconv .f32 .f64 (fel bs (k + 2))))) _)
      · have hE : fitS bs k = fitE bs := by
          unfold fitE
          have : k = bs.length - 2 := by omega
          rw [← this]
        rw [hE] at v1 v2 v3 v4 v5
        have i1 : ¬ (k : Int) + 2 < (bs.length : Int) := by omega
        have hok1 := hok.out
        have HA : fitA bs = if fOk (fitE bs) then fA (fitE bs).uu (fitE bs).uv (fitE bs).vv (fitE bs).uw (fitE bs).vw else cl .f64 0 := by unfold fitA; rw [hok1]
        have HB : fitB bs = if fOk (fitE bs) then fB (fitE bs).uu (fitE bs).uv (fitE bs).vv (fitE bs).uw (fitE bs).vw else cl .f64 0 := by unfold fitB; rw [hok1]
        replace HA := Lib.hid HA
        replace HB := Lib.hid HB
        clear hE hw3 hk2 hok1
        generalize fitE bs = s at *
        obtain ⟨uu, uv, vv, uw, vw⟩ := s
        have hz0 : ∀ d, FV .f64 (fop .sub .f64 (fop .mul .f64 uu vv) (fop .mul .f64 uv uv)) d → (FloatKind.f64.format.order d 0 == some .eq) = fZ uu uv vv := fun d h => fit_test h
        unfold fOk at hok HA HB
        generalize fZ uu uv vv = z at *
        have hd0 : isFin .f64 (fop .sub .f64 (fop .mul .f64 uu vv) (fop .mul .f64 uv uv)) = isFin .f64 (fD uu uv vv) := rfl
        have ha0 : isFin .f64 (fop .quo .f64 (fop .sub .f64 (fop .mul .f64 uw vv) (fop .mul .f64 vw uv)) (fop .sub .f64 (fop .mul .f64 uu vv) (fop .mul .f64 uv uv))) = isFin .f64 (fA uu uv vv uw vw) := rfl
        have hb0 : isFin .f64 (fop .quo .f64 (fop .sub .f64 (fop .mul .f64 uw uv) (fop .mul .f64 vw uu)) (fop .sub .f64 (fop .mul .f64 uu vv) (fop .mul .f64 uv uv))) = isFin .f64 (fB uu uv vv uw vw) := rfl
        generalize isFin .f64 (fD uu uv vv) = td at *
        generalize isFin .f64 (fA uu uv vv uw vw) = ta at *
        generalize isFin .f64 (fB uu uv vv uw vw) = tb at *
        cases z <;> cases td <;> cases ta <;> cases tb
        all_goals
          go_wp2_with (first | (go_at_call 29; refine Calls.mono (less_c (by assumption) (by assumption) (by assumption) (by assumption) _) ?_; rintro e _ ⟨r, rfl, hr, n1, rfl⟩) | (go_at_call 30; refine Calls.mono (finite_c (by assumption) _) ?_; rintro e _ ⟨rfl, n2, rfl⟩) | (refine upon_flop _ (by decide) (by assumption) (by assumption) ?_; intro _ _ _))
          go_ret3
          first
            | exact ⟨_, _, by rw [hok.out]; rfl, by rw [HA.out]; exact (by assumption : FV .f64 (fop .quo .f64 (fop .sub .f64 (fop .mul .f64 uw vv) (fop .mul .f64 vw uv)) (fop .sub .f64 (fop .mul .f64 uu vv) (fop .mul .f64 uv uv))) _), by rw [HB.out]; exact (by assumption : FV .f64 (fop .quo .f64 (fop .sub .f64 (fop .mul .f64 uw uv) (fop .mul .f64 vw uu)) (fop .sub .f64 (fop .mul .f64 uu vv) (fop .mul .f64 uv uv))) _), _, rfl⟩
            | exact ⟨0, 0, by rw [hok.out]; rfl, by rw [HA.out]; exact FV.of_lt (k := .f64) (b := 0) (by decide), by rw [HB.out]; exact FV.of_lt (k := .f64) (b := 0) (by decide), _, rfl⟩
  · have hok : fitOk bs = false := by unfold fitOk; rw [decide_eq_false hbig]; rfl
    have hA : fitA bs = cl .f64 0 := by unfold fitA; rw [hok]; rfl
    have hB : fitB bs = cl .f64 0 := by unfold fitB; rw [hok]; rfl
    rw [hA, hB, hok]
    clear hok hA hB hw3
    go_enter Try.func22, Try.ntmps22
    go_wp2
    go_ret3
    exact ⟨0, 0, rfl, FV.of_lt (by decide), FV.of_lt (by decide), 0, rfl⟩
set_option maxHeartbeats 2000000 in
theorem fitSpec_c {a : Option Addr} {len cap : Nat} {bs : List Nat} (w : World) (h : FsP w .f32 a len bs) (hl : len ≤ 1048576) :
    Calls Try.prog 21 #[.slice a len cap] w (RetFFB (fitA bs) (fitB bs) (fitOk bs) w) := by
  have hw3 : ∀ i, i < bs.length → ∃ b off x, a = some ⟨b, off, none⟩ ∧ w.cell? ⟨b, off + i, none⟩ = some (.float .f32 x) ∧ FV .f32 (fel bs i) x := fun i hi => by
    obtain ⟨b, off, h1, h2, _⟩ := h.2.1 i hi
    have e : bs.getD i 0 = bs[i] := by simp [List.getD, hi]
    refine ⟨b, off, bs[i], h1, h2, ?_⟩
    unfold fel
    rw [e]
    exact FV.of_lt (h.2.2 _ (List.getElem_mem hi))
  obtain rfl := h.1
  clear h
  by_cases hbig : bs.length ≤ 2000
  · have hok := Lib.hid (fit_small hbig)
    go_enter Try.func21, Try.ntmps21
    go_wp2
    go_loopw [5, 6, 7, 8, 9, 10] (fun a1 a2 a3 a4 a5 i wr => ∃ k n x1 x2 x3 x4 x5 : Nat, k ≤ bs.length ∧ (0 < k → k + 2 ≤ bs.length) ∧ i = .int .i64 k ∧ a1 = .float .f64 x1 ∧ a2 = .float .f64 x2 ∧ a3 = .float .f64 x3 ∧ a4 = .float .f64 x4 ∧ a5 = .float .f64 x5 ∧ FV .f64 (fitS bs k).uu x1 ∧ FV .f64 (fitS bs k).uv x2 ∧ FV .f64 (fitS bs k).vv x3 ∧ FV .f64 (fitS bs k).uw x4 ∧ FV .f64 (fitS bs k).vw x5 ∧ wr = w.drewN n) (fun _ _ _ _ _ i _ => bs.length - (intOf i).toNat)
    case atStart => exact ⟨0, 0, 0, 0, 0, 0, 0, Nat.zero_le _, fun h => by omega, rfl, rfl, rfl, rfl, rfl, rfl, FV.of_lt (by decide), FV.of_lt (by decide), FV.of_lt (by decide), FV.of_lt (by decide), FV.of_lt (by decide), rfl⟩
    case round =>
      obtain ⟨k, n, x1, x2, x3, x4, x5, hk, hk2, rfl, rfl, rfl, rfl, rfl, rfl, v1, v2, v3, v4, v5, rfl⟩ := hrel
      by_cases hlt : k + 2 < bs.length
      · obtain ⟨b, off, y0, rfl, c0, f0⟩ := hw3 k (by omega)
        obtain ⟨b', off', y1, hbb, c1, f1⟩ := hw3 (k + 1) (by omega)
        obtain ⟨b'', off'', y2, hbb', c2, f2⟩ := hw3 (k + 2) (by omega)
        obtain ⟨rfl, rfl⟩ : b = b' ∧ off = off' := by simpa using hbb
        obtain ⟨rfl, rfl⟩ : b = b'' ∧ off = off'' := by simpa using hbb'
        have i1 : (k : Int) + 2 < (bs.length : Int) := by omega
        have i0 : k < bs.length := by omega
        have i4 : (0 : Int) ≤ (k : Int) + 1 := by omega
        have i5 : (0 : Int) ≤ (k : Int) + 2 := by omega
        have i6 : (k : Int) + 1 < (bs.length : Int) := by omega
        have i7 : ((k : Int) + 1).toNat = k + 1 := by omega
        have i8 : ((k : Int) + 2).toNat = k + 2 := by omega
        have hs := Lib.hid (fitS_succ bs k)
        clear hw3 hbb hbb' hok hk2
        go_wp2_with (first | (refine upon_widen _ under29 under23 (by assumption) ?_; intro _ _ _) | (refine upon_flop _ (by decide) (by assumption) (by assumption) ?_; intro _ _ _))
        refine ⟨⟨k + 1, _, _, _, _, _, _, by omega, fun _ => by omega, by go_num, rfl, rfl, rfl, rfl, rfl, ?_, ?_, ?_, ?_, ?_, rfl⟩, by simp [intOf]; omega⟩
        · rw [hs.out]; exact (by assumption : FV .f64 (fop .add .f64 (fitS bs k).uu (fop .mul .f64 (fconv .f32 .f64 (fel bs (k + 1))) (fconv .f32 .f64 (fel bs (k + 1))))) _)
        · rw [hs.out]; exact (by assumption : FV .f64 (fop .add .f64 (fitS bs k).uv (fop .mul .f64 (fconv .f32 .f64 (fel bs (k + 1))) (fconv .f32 .f64 (fel bs k)))) _)
        · rw [hs.out]; exact (by assumption : FV .f64 (fop .add .f64 (fitS bs k).vv (fop .mul .f64 (fconv .f32 .f64 (fel bs k)) (fconv .f32 .f64 (fel bs k)))) _)
        · rw [hs.out]; exact (by assumption : FV .f64 (fop .add .f64 (fitS bs k).uw (fop .mul .f64 (fconv .f32 .f64 (fel bs (k + 1))) (fconv .f32 .f64 (fel bs (k + 2))))) _)
        · rw [hs.out]; exact (by assumption : FV .f64 (fop .add .f64 (fitS bs k).vw (fop .mul .f64 (fconv .f32 .f64 (fel bs k)) (fconv .f32 .f64 (fel bs (k + 2))))) _)
      · have hE : fitS bs k = fitE bs := by
          unfold fitE
          have : k = bs.length - 2 := by omega
          rw [← this]
        rw [hE] at v1 v2 v3 v4 v5
        have i1 : ¬ (k : Int) + 2 < (bs.length : Int) := by omega
        have hok1 := hok.out
        have HA : fitA bs = if fOk (fitE bs) then fA (fitE bs).uu (fitE bs).uv (fitE bs).vv (fitE bs).uw (fitE bs).vw else cl .f64 0 := by unfold fitA; rw [hok1]
        have HB : fitB bs = if fOk (fitE bs) then fB (fitE bs).uu (fitE bs).uv (fitE bs).vv (fitE bs).uw (fitE bs).vw else cl .f64 0 := by unfold fitB; rw [hok1]
        replace HA := Lib.hid HA
        replace HB := Lib.hid HB
        clear hE hw3 hk2 hok1
        generalize fitE bs = s at *
        obtain ⟨uu, uv, vv, uw, vw⟩ := s
        have hz0 : ∀ d, FV .f64 (fop .sub .f64 (fop .mul .f64 uu vv) (fop .mul .f64 uv uv)) d → (FloatKind.f64.format.order d 0 == some .eq) = fZ uu uv vv := fun d h => fit_test h
        unfold fOk at hok HA HB
        generalize fZ uu uv vv = z at *
        have hd0 : isFin .f64 (fop .sub .f64 (fop .mul .f64 uu vv) (fop .mul .f64 uv uv)) = isFin .f64 (fD uu uv vv) := rfl
        have ha0 : isFin .f64 (fop .quo .f64 (fop .sub .f64 (fop .mul .f64 uw vv) (fop .mul .f64 vw uv)) (fop .sub .f64 (fop .mul .f64 uu vv) (fop .mul .f64 uv uv))) = isFin .f64 (fA uu uv vv uw vw) := rfl
        have hb0 : isFin .f64 (fop .quo .f64 (fop .sub .f64 (fop .mul .f64 uw uv) (fop .mul .f64 vw uu)) (fop .sub .f64 (fop .mul .f64 uu vv) (fop .mul .f64 uv uv))) = isFin .f64 (fB uu uv vv uw vw) := rfl
        generalize isFin .f64 (fD uu uv vv) = td at *
        generalize isFin .f64 (fA uu uv vv uw vw) = ta at *
        generalize isFin .f64 (fB uu uv vv uw vw) = tb at *
        cases z <;> cases td <;> cases ta <;> cases tb
        all_goals
          go_wp2_with (first | (go_at_call 28; refine Calls.mono (l1Finite_c (by assumption) _) ?_; rintro e _ ⟨rfl, n2, rfl⟩) | (refine upon_flop _ (by decide) (by assumption) (by assumption) ?_; intro _ _ _))
          go_ret3
          first
            | exact ⟨_, _, by rw [hok.out]; rfl, by rw [HA.out]; exact (by assumption : FV .f64 (fop .quo .f64 (fop .sub .f64 (fop .mul .f64 uw vv) (fop .mul .f64 vw uv)) (fop .sub .f64 (fop .mul .f64 uu vv) (fop .mul .f64 uv uv))) _), by rw [HB.out]; exact (by assumption : FV .f64 (fop .quo .f64 (fop .sub .f64 (fop .mul .f64 uw uv) (fop .mul .f64 vw uu)) (fop .sub .f64 (fop .mul .f64 uu vv) (fop .mul .f64 uv uv))) _), _, rfl⟩
            | exact ⟨0, 0, by rw [hok.out]; rfl, by rw [HA.out]; exact FV.of_lt (k := .f64) (b := 0) (by decide), by rw [HB.out]; exact FV.of_lt (k := .f64) (b := 0) (by decide), _, rfl⟩
  · have hok : fitOk bs = false := by unfold fitOk; rw [decide_eq_false hbig]; rfl
    have hA : fitA bs = cl .f64 0 := by unfold fitA; rw [hok]; rfl
    have hB : fitB bs = cl .f64 0 := by unfold fitB; rw [hok]; rfl
    rw [hA, hB, hok]
    clear hok hA hB hw3
    go_enter Try.func21, Try.ntmps21
    go_wp2
    go_ret3
    exact ⟨0, 0, rfl, FV.of_lt (by decide), FV.of_lt (by decide), 0, rfl⟩
end Go.Proofs.Ytkckobbmejckiaa
