import Derived.Test.YtkckobbmejckiaaSame
import Derived.Test.YtkckobbmejckiaaRegion
namespace Go.Proofs.Ytkckobbmejckiaa
open Go.RowKit Go.Fl

/-- What two slices of floats that stand for the same hold at one index. -/
def PairAt (w : World) (a a' : Option Addr) (k : Nat) : Prop :=
  ∃ b off b' off' x y p, a = some ⟨b, off, none⟩ ∧ a' = some ⟨b', off', none⟩ ∧ w.cell? ⟨b, off + k, none⟩ = some (.float .f32 x) ∧ w.cell? ⟨b', off' + k, none⟩ = some (.float .f32 y) ∧ FV .f32 p x ∧ FV .f32 p y

theorem pairs_of {w : World} {a a' : Option Addr} {len len' : Nat} {bs bs' : List Nat} (h : FsP w .f32 a len bs) (h' : FsP w .f32 a' len' bs') (he : cls .f32 bs = cls .f32 bs') : len' = len ∧ ∀ k, k < len → PairAt w a a' k := by
  obtain ⟨e1, hc, hw⟩ := h
  obtain ⟨e2, hc', hw'⟩ := h'
  have hlen : bs.length = bs'.length := by have := congrArg List.length he; simpa [cls] using this
  refine ⟨by omega, fun k hk => ?_⟩
  have h1 : k < bs.length := by omega
  have h2 : k < bs'.length := by omega
  obtain ⟨b, off, r1, c1, _⟩ := hc k h1
  obtain ⟨b', off', r2, c2, _⟩ := hc' k h2
  have hel : cl .f32 bs[k] = cl .f32 bs'[k] := by
    have := congrArg (fun l => l[k]?) he
    simpa [cls, h1, h2] using this
  have f2 := FV.of_lt (hw' _ (List.getElem_mem h2))
  rw [← hel] at f2
  exact ⟨b, off, b', off', _, _, _, r1, r2, c1, c2, FV.of_lt (hw _ (List.getElem_mem h1)), f2⟩

/-- A float that stands for p. -/
def isF (k : FloatKind) (p : Option Nat) (v : Value) : Prop := ∃ r, v = .float k r ∧ FV k p r

set_option maxHeartbeats 400000 in
theorem eqFloat32S_c {a a' : Option Addr} {len len' cap cap' : Nat} {bs bs' : List Nat} (w : World) (h : FsP w .f32 a len bs) (h' : FsP w .f32 a' len' bs') (hl : len ≤ 1048576) (he : cls .f32 bs = cls .f32 bs') :
    Calls Try.prog 12 #[.slice a len cap, .slice a' len' cap'] w (Ret (.bool true) w) := by
  obtain ⟨rfl, hp⟩ := pairs_of h h' he
  clear h h' he
  go_enter Try.func12, Try.ntmps12
  go_wp2
  go_loopw [5] (fun i wr => ∃ k n : Nat, k ≤ len' ∧ i = .int .i64 k ∧ wr = w.drewN n) (fun i _ => len' - (intOf i).toNat)
  case atStart => exact ⟨0, 0, Nat.zero_le _, rfl, rfl⟩
  case round =>
    obtain ⟨k, n, hk, rfl, rfl⟩ := hrel
    by_cases hlt : k < len'
    · obtain ⟨b, off, b', off', x, y, p, rfl, rfl, c1, c2, f1, f2⟩ := hp k hlt
      clear hp
      go_wp2
      refine wp_region_rel (fun w' => ∃ m, w' = w.drewN m) [fun v => v = .slice (some ⟨b, off, none⟩) len' cap, fun v => v = .int .i64 k, fun v => v = .pointer (some ⟨b, off + k, none⟩), fun v => v = .float .f32 x, isF .f64 (fconv .f32 .f64 p),
        fun v => v = .slice (some ⟨b', off', none⟩) len' cap', fun v => v = .int .i64 k, fun v => v = .pointer (some ⟨b', off' + k, none⟩), fun v => v = .float .f32 y, isF .f64 (fconv .f32 .f64 p), fun v => v = .bool true, fun v => v = .bool false] (by kernel_rfl) (by kernel_rfl) ⟨n + 1, rfl⟩ ?_
      refine wpRel_moveK rfl _ (.inl rfl) rfl ?_
      rintro K hK _ rfl
      go_simp
      refine hK _ ?_
      clear hK K
      refine wpRel_moveK rfl _ (.inl rfl) rfl ?_
      rintro K hK _ rfl
      go_simp
      refine hK _ ?_
      clear hK K
      refine wpRel_opK rfl (by rintro _ ⟨m, rfl⟩; unfold relAt; go_simp; exact ⟨⟨_, rfl⟩, rfl⟩) ?_
      rintro K hK _ rfl
      go_simp
      refine hK _ ?_
      clear hK K
      refine wpRel_opK rfl (by rintro _ ⟨m, rfl⟩; unfold relAt; go_simp; exact ⟨⟨_, rfl⟩, rfl⟩) ?_
      rintro K hK _ rfl
      go_simp
      refine hK _ ?_
      clear hK K
      refine wpRel_opK rfl (by
        rintro _ ⟨m, rfl⟩; unfold relAt; go_simp
        obtain ⟨r, n', hrun, hv⟩ := run_widen (P := Try.prog) (w.drewN m) 29 23 under29 under23 f1
        refine relUpon_run ⟨_, _, hrun, ?_, ?_⟩
        · exact ⟨m + n', by rw [World.drewN_drewN]⟩
        · exact ⟨r, rfl, hv⟩) ?_
      rintro K hK _ ⟨r1, rfl, g1⟩
      go_simp
      refine hK _ ?_
      clear hK K
      refine wpRel_moveK rfl _ (.inl rfl) rfl ?_
      rintro K hK _ rfl
      go_simp
      refine hK _ ?_
      clear hK K
      refine wpRel_moveK rfl _ (.inl rfl) rfl ?_
      rintro K hK _ rfl
      go_simp
      refine hK _ ?_
      clear hK K
      refine wpRel_opK rfl (by rintro _ ⟨m, rfl⟩; unfold relAt; go_simp; exact ⟨⟨_, rfl⟩, rfl⟩) ?_
      rintro K hK _ rfl
      go_simp
      refine hK _ ?_
      clear hK K
      refine wpRel_opK rfl (by rintro _ ⟨m, rfl⟩; unfold relAt; go_simp; exact ⟨⟨_, rfl⟩, rfl⟩) ?_
      rintro K hK _ rfl
      go_simp
      refine hK _ ?_
      clear hK K
      refine wpRel_opK rfl (by
        rintro _ ⟨m, rfl⟩; unfold relAt; go_simp
        obtain ⟨r, n', hrun, hv⟩ := run_widen (P := Try.prog) (w.drewN m) 29 23 under29 under23 f2
        refine relUpon_run ⟨_, _, hrun, ?_, ?_⟩
        · exact ⟨m + n', by rw [World.drewN_drewN]⟩
        · exact ⟨r, rfl, hv⟩) ?_
      rintro K hK _ ⟨r2, rfl, g2⟩
      go_simp
      refine hK _ ?_
      clear hK K
      refine wpRel_opK rfl (by
        rintro _ ⟨m, rfl⟩; unfold relAt; go_simp
        refine relUpon_enter (sameFloat_c g1 g2 _) ?_
        rintro e w'' ⟨rfl, n', rfl⟩
        refine ⟨_, rfl, ?_, ?_⟩
        · rfl
        · exact ⟨m + n', by rw [World.drewN_drewN]⟩) ?_
      rintro K hK _ rfl
      go_simp
      refine hK _ ?_
      clear hK K
      refine wpRel_opK rfl (by rintro _ ⟨m, rfl⟩; unfold relAt; go_simp; exact ⟨⟨_, rfl⟩, rfl⟩) ?_
      rintro K hK _ rfl
      go_simp
      refine hK _ ?_
      clear hK K
      refine wpRel_nil ?_
      rintro _ ⟨m, rfl⟩
      go_wp2
      exact ⟨⟨k + 1, m, by omega, by go_num, rfl⟩, by simp [intOf]; omega⟩
    · obtain rfl : k = len' := by omega
      go_wp2
      go_ret
      exact ⟨rfl, n, rfl⟩
end Go.Proofs.Ytkckobbmejckiaa
