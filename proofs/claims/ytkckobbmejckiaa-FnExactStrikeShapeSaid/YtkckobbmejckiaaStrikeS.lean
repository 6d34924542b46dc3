import Derived.Test.YtkckobbmejckiaaStrike
namespace Go.Proofs.Ytkckobbmejckiaa
open Go.RowKit Go.Fl

/-! ### Appends -/
theorem own_da {w : World} {base : Nat} {e : TypeId} {size : Nat} {v : Value} {n : Nat} {xs : List Value} (h : w.ownsRow base e size v n xs) (m : Nat) (o : Obj) : ((w.drewN m).alloc o).ownsRow base e size v n xs :=
  World.ownsRow.alloc (w := w.drewN m) h o

theorem new_one (w : World) (v : Value) (e : TypeId) : ∀ (j : Nat) (u : Value), [v][j]? = some u → (w.alloc (.cells #[v] e)).cell? ((⟨w.heap.size, 0, none⟩ : Addr).add j) = some u := by
  intro j u hj
  cases j with
  | zero =>
    simp at hj
    subst hj
    show (w.alloc (.cells #[v] e)).cell? ⟨w.heap.size, 0, none⟩ = some v
    unfold World.cell?
    rw [heap_alloc_new]
    rfl
  | succ j => simp at hj

theorem one_ok {v : Value} (h : v.oneCell' = true) : ∀ u ∈ [v], u.oneCell' = true := fun u hu => by rw [List.mem_singleton.1 hu]; exact h

theorem below_grown {B : Nat} {w w' : World} {v : Value} {base : Nat} {e : TypeId} {size n : Nat} {xs : List Value} (h : w.ownsRow base e size v n xs) (hg : w.grownBy w' v.ownBlock) (hB : B ≤ base) (hB2 : B ≤ w.heap.size) : Below B w w' :=
  (Below.refl _ _).grown hg hB2 (fun k hk => Nat.le_trans hB (h.lt k hk).1)

/-- What the loop over a strike's elements keeps. -/
def StrikeRel (kind : Int) (N : Nat) (w : World) (v : Value) (i : Value) (wr : World) : Prop :=
  ∃ (j : Nat) (bs : List Nat), j ≤ N ∧ i = .int .i64 j ∧ bs.length = j ∧ wr.ownsRow w.heap.size 29 1 v j (fvals .f32 bs) ∧ Shaped kind N bs ∧ (∀ x ∈ bs, x < 2 ^ FloatKind.f32.format.width) ∧ Below w.heap.size w wr

theorem StrikeRel.next {kind : Int} {N : Nat} {w wr w1 : World} {v' : Value} {j : Nat} {bs : List Nat} {x : Nat} (hj : j < N) (hl : bs.length = j) (hs : Shaped kind N bs) (hlt : ∀ x ∈ bs, x < 2 ^ FloatKind.f32.format.width) (hb : Below w.heap.size w wr)
    (hx : FV .f32 (shp kind N j) x) (hown : w1.ownsRow w.heap.size 29 1 v' (j + 1) (fvals .f32 bs ++ [.float .f32 x])) (hb1 : Below w.heap.size wr w1) : StrikeRel kind N w v' (.int .i64 ((j : Int) + 1)) w1 := by
  refine ⟨j + 1, bs ++ [x], by omega, by go_num, by simp [hl], ?_, hs.snoc (by rw [hl]; exact hx), ?_, hb.trans hb1⟩
  · simpa [fvals] using hown
  · intro y hy
    rcases List.mem_append.1 hy with h | h
    · exact hlt y h
    · rw [List.mem_singleton.1 h]; exact hx.2


set_option maxHeartbeats 1000000 in
theorem strikeSpec0_c (N : Nat) (w : World) (h1 : 1 ≤ N) (h2 : N ≤ 64) :
    Calls Try.prog 17 #[.int .i64 0, .int .i64 N] w (RetShape 0 N w) := by
  obtain ⟨i0, hi, hz0, hz1, hz2⟩ := info_parts info29
  have u1 := under32m
  have u2 := under3
  have d1 : (decide ((1 : Int) ≤ (N : Int)) && decide ((N : Int) ≤ 64)) = true := by simp; omega
  go_enter Try.func17, Try.ntmps17
  go_wp2_with (go_at_call 27; refine (l1In_c _ _ _ _).mono ?_; rintro e _ ⟨rfl, n0, rfl⟩)
  go_loopw [6, 7] (fun v i wr => StrikeRel 0 N w v i wr) (fun _ i _ => N - (intOf i).toNat)
  case atStart => exact ⟨0, [], Nat.zero_le _, rfl, rfl, World.ownsRow_lit _ #[] 0 (Nat.le_refl _) (Nat.zero_le _) rfl, fun i hi => by simp at hi, by simp, below_drewN ((Below.refl _ _).alloc (Nat.le_refl _) _) _⟩
  case round =>
    obtain ⟨j, bs, hj, rfl, hl, hown, hs, hlt, hb⟩ := hrel
    by_cases hjl : j < N
    · have c1 := Lib.hid hl
      clear hl d1
      by_cases hj0 : j = 0
      · subst hj0
        go_wp2_with (at_builtin; refine wpList_append_own _ rfl _ _ 22 rfl w.heap.size 29 i0 (.float .f32 0) 1 4 slice22 hi hz0 hz1 hz2 rfl (by decide) _ _ _ rfl (hown.alloc _) _ 1 1 [_] rfl rfl (new_one _ _ _) (one_ok rfl) (by unfold maxLen; omega) (by omega) (by have := hb.size; simp; omega) ?_; intro v' w1 hown1 hgrow1 _)
        exact ⟨StrikeRel.next hjl c1.out hs hlt hb (FV.of_lt (k := .f32) (b := 1065353216) (by decide)) hown1 (((Below.refl _ _).alloc hb.size _).trans (below_grown (hown.alloc _) hgrow1 (Nat.le_refl _) (by have := hb.size; simp; omega))), by simp [intOf]; omega⟩
      · have hj1 : ((j : Int) == 0) = false := by simp; omega
        have hp : shp 0 N j = cl .f32 0 := by unfold shp; rw [if_pos rfl, if_neg hj0]
        have hp := Lib.hid hp
        go_wp2_with (at_builtin; refine wpList_append_own _ rfl _ _ 22 rfl w.heap.size 29 i0 (.float .f32 0) 1 4 slice22 hi hz0 hz1 hz2 rfl (by decide) _ _ _ rfl (hown.alloc _) _ 1 1 [_] rfl rfl (new_one _ _ _) (one_ok rfl) (by unfold maxLen; omega) (by omega) (by have := hb.size; simp; omega) ?_; intro v' w1 hown1 hgrow1 _)
        exact ⟨StrikeRel.next hjl c1.out hs hlt hb (by rw [hp.out]; exact FV.of_lt (k := .f32) (b := 0) (by decide)) hown1 (((Below.refl _ _).alloc hb.size _).trans (below_grown (hown.alloc _) hgrow1 (Nat.le_refl _) (by have := hb.size; simp; omega))), by simp [intOf]; omega⟩
    · obtain rfl : j = N := by omega
      rcases hown.2 with ⟨_, hn⟩ | ⟨g, cap, _, rfl, _⟩
      · omega
      · clear d1
        go_wp2_with fail
        go_ret2
        refine ⟨_, _, _, true, bs, rfl, FsP.of_owns hl.symm hown hlt, fun i _ => ⟨g, 0, rfl, (hown.lt g rfl).1, hown.frozenAt _⟩, hb, hs, h2, ?_, rfl⟩
        simp
        omega

set_option maxHeartbeats 1000000 in
theorem strikeSpec1_c (N : Nat) (w : World) (h1 : 1 ≤ N) (h2 : N ≤ 64) :
    Calls Try.prog 17 #[.int .i64 1, .int .i64 N] w (RetShape 1 N w) := by
  obtain ⟨i0, hi, hz0, hz1, hz2⟩ := info_parts info29
  have u1 := under32m
  have u2 := under3
  have d1 : (decide ((1 : Int) ≤ (N : Int)) && decide ((N : Int) ≤ 64)) = true := by simp; omega
  go_enter Try.func17, Try.ntmps17
  go_wp2_with (go_at_call 27; refine (l1In_c _ _ _ _).mono ?_; rintro e _ ⟨rfl, n0, rfl⟩)
  go_loopw [6, 7] (fun v i wr => StrikeRel 1 N w v i wr) (fun _ i _ => N - (intOf i).toNat)
  case atStart => exact ⟨0, [], Nat.zero_le _, rfl, rfl, World.ownsRow_lit _ #[] 0 (Nat.le_refl _) (Nat.zero_le _) rfl, fun i hi => by simp at hi, by simp, below_drewN ((Below.refl _ _).alloc (Nat.le_refl _) _) _⟩
  case round =>
    obtain ⟨j, bs, hj, rfl, hl, hown, hs, hlt, hb⟩ := hrel
    by_cases hjl : j < N
    · have c1 := Lib.hid hl
      clear hl d1
      go_wp2_with (first | (at_builtin; refine wpList_append_own _ rfl _ _ 22 rfl w.heap.size 29 i0 (.float .f32 0) 1 4 slice22 hi hz0 hz1 hz2 rfl (by decide) _ _ _ rfl (own_da hown _ _) _ 1 1 [_] rfl rfl (new_one _ _ _) (one_ok rfl) (by unfold maxLen; omega) (by omega) (by have := hb.size; simp; omega) ?_; intro v' w1 hown1 hgrow1 _) | (refine upon_flop _ (by decide) (int_FV _ _) (int_FV _ _) ?_; intro x m hx))
      exact ⟨StrikeRel.next hjl c1.out hs hlt hb (hx) hown1 (((below_drewN (Below.refl _ _) _).alloc hb.size _).trans (below_grown (own_da hown _ _) hgrow1 (Nat.le_refl _) (by have := hb.size; simp; omega))), by simp [intOf]; omega⟩
    · obtain rfl : j = N := by omega
      rcases hown.2 with ⟨_, hn⟩ | ⟨g, cap, _, rfl, _⟩
      · omega
      · clear d1
        go_wp2_with fail
        go_ret2
        refine ⟨_, _, _, true, bs, rfl, FsP.of_owns hl.symm hown hlt, fun i _ => ⟨g, 0, rfl, (hown.lt g rfl).1, hown.frozenAt _⟩, hb, hs, h2, ?_, rfl⟩
        simp
        omega

set_option maxHeartbeats 1000000 in
theorem strikeSpec2_c (N : Nat) (w : World) (h1 : 1 ≤ N) (h2 : N ≤ 64) :
    Calls Try.prog 17 #[.int .i64 2, .int .i64 N] w (RetShape 2 N w) := by
  obtain ⟨i0, hi, hz0, hz1, hz2⟩ := info_parts info29
  have u1 := under32m
  have u2 := under3
  have d1 : (decide ((1 : Int) ≤ (N : Int)) && decide ((N : Int) ≤ 64)) = true := by simp; omega
  go_enter Try.func17, Try.ntmps17
  go_wp2_with (go_at_call 27; refine (l1In_c _ _ _ _).mono ?_; rintro e _ ⟨rfl, n0, rfl⟩)
  go_loopw [6, 7] (fun v i wr => StrikeRel 2 N w v i wr) (fun _ i _ => N - (intOf i).toNat)
  case atStart => exact ⟨0, [], Nat.zero_le _, rfl, rfl, World.ownsRow_lit _ #[] 0 (Nat.le_refl _) (Nat.zero_le _) rfl, fun i hi => by simp at hi, by simp, below_drewN ((Below.refl _ _).alloc (Nat.le_refl _) _) _⟩
  case round =>
    obtain ⟨j, bs, hj, rfl, hl, hown, hs, hlt, hb⟩ := hrel
    by_cases hjl : j < N
    · have c1 := Lib.hid hl
      clear hl d1
      go_wp2_with (first | (at_builtin; refine wpList_append_own _ rfl _ _ 22 rfl w.heap.size 29 i0 (.float .f32 0) 1 4 slice22 hi hz0 hz1 hz2 rfl (by decide) _ _ _ rfl (own_da hown _ _) _ 1 1 [_] rfl rfl (new_one _ _ _) (one_ok rfl) (by unfold maxLen; omega) (by omega) (by have := hb.size; simp; omega) ?_; intro v' w1 hown1 hgrow1 _) | (refine upon_flop _ (by decide) (int_FV _ _) (int_FV _ _) ?_; intro t m1 ht) | (refine upon_flop _ (by decide) (FV.of_lt (k := .f32) (b := 1082130432) (by decide)) ht ?_; intro p m2 hp) | (refine upon_flop _ (by decide) (FV.of_lt (k := .f32) (b := 1065353216) (by decide)) ht ?_; intro q m3 hq) | (refine upon_flop _ (by decide) hp hq ?_; intro x m4 hx))
      exact ⟨StrikeRel.next hjl c1.out hs hlt hb (hx) hown1 (((below_drewN (Below.refl _ _) _).alloc hb.size _).trans (below_grown (own_da hown _ _) hgrow1 (Nat.le_refl _) (by have := hb.size; simp; omega))), by simp [intOf]; omega⟩
    · obtain rfl : j = N := by omega
      rcases hown.2 with ⟨_, hn⟩ | ⟨g, cap, _, rfl, _⟩
      · omega
      · clear d1
        go_wp2_with fail
        go_ret2
        refine ⟨_, _, _, true, bs, rfl, FsP.of_owns hl.symm hown hlt, fun i _ => ⟨g, 0, rfl, (hown.lt g rfl).1, hown.frozenAt _⟩, hb, hs, h2, ?_, rfl⟩
        simp
        omega
end Go.Proofs.Ytkckobbmejckiaa
