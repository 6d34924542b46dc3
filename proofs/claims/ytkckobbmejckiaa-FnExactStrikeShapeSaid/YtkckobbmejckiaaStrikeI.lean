import Derived.Test.YtkckobbmejckiaaStrikeS
namespace Go.Proofs.Ytkckobbmejckiaa
open Go.RowKit Go.Fl

/-- What the program's list holds after j rounds. -/
def Fill (kind : Int) (N j : Nat) (bs : List Nat) : Prop :=
  bs.length = N ∧ (∀ i, i < j → i < N → FV .f32 (shp kind N i) (bs.getD i 0)) ∧ (∀ i, j ≤ i → bs.getD i 0 = 0) ∧ ∀ x ∈ bs, x < 2 ^ FloatKind.f32.format.width

theorem getD_set (bs : List Nat) (j i x : Nat) (hj : j < bs.length) : (bs.set j x).getD i 0 = if j = i then x else bs.getD i 0 := by
  simp only [List.getD_eq_getElem?_getD, List.getElem?_set]
  split
  · rename_i h; subst h; simp
  · rfl

theorem Fill.zero (kind : Int) (N : Nat) : Fill kind N 0 (List.replicate N 0) :=
  ⟨by simp, fun i hi => by omega, fun i _ => by simp [List.getD_eq_getElem?_getD, List.getElem?_replicate]; split <;> rfl, fun x hx => by rw [(List.mem_replicate.1 hx).2]; decide⟩

theorem Fill.next {kind : Int} {N j : Nat} {bs : List Nat} (h : Fill kind N j bs) (hj : j < N) {x : Nat} (hx : FV .f32 (shp kind N j) x) : Fill kind N (j + 1) (bs.set j x) := by
  obtain ⟨h1, h2, h3, h4⟩ := h
  refine ⟨by simpa using h1, fun i hi hn => ?_, fun i hi => ?_, fun y hy => ?_⟩
  · rw [getD_set _ _ _ _ (by omega)]
    split
    · rename_i e; subst e; exact hx
    · exact h2 i (by omega) hn
  · rw [getD_set _ _ _ _ (by omega), if_neg (by omega)]
    exact h3 i (by omega)
  · rcases List.mem_or_eq_of_mem_set hy with h | rfl
    · exact h4 _ h
    · exact hx.2

theorem Fill.click {N j : Nat} {bs : List Nat} (h : Fill 0 N j bs) (hj : j < N) : Fill 0 N (j + 1) (bs.set 0 1065353216) := by
  obtain ⟨h1, h2, h3, h4⟩ := h
  refine ⟨by simpa using h1, fun i hi hn => ?_, fun i hi => ?_, fun y hy => ?_⟩
  · rw [getD_set _ _ _ _ (by omega)]
    split
    · rename_i e; subst e; exact FV.of_lt (k := .f32) (b := 1065353216) (by decide)
    · rename_i e
      by_cases hij : i < j
      · exact h2 i hij hn
      · rw [h3 i (by omega)]
        have : shp 0 N i = cl .f32 0 := by unfold shp; rw [if_pos rfl, if_neg (by omega)]
        rw [this]
        exact FV.of_lt (k := .f32) (b := 0) (by decide)
  · rw [getD_set _ _ _ _ (by omega), if_neg (by omega)]
    exact h3 i (by omega)
  · rcases List.mem_or_eq_of_mem_set hy with h | rfl
    · exact h4 _ h
    · decide

theorem Fill.shaped {kind : Int} {N : Nat} {bs : List Nat} (h : Fill kind N N bs) : Shaped kind N bs := fun i hi => by
  have := h.2.1 i (by have := h.1; omega) (by have := h.1; omega)
  simpa [List.getD_eq_getElem?_getD, hi] using this

theorem fvals_set (bs : List Nat) (j x : Nat) : (fvals .f32 bs).set j (.float .f32 x) = fvals .f32 (bs.set j x) := by
  simp [fvals, List.map_set]

theorem store_drewN {P : Program} {w : World} {a : Addr} {u : Value} (h : w.cell? a = some u) (hf : w.frozen? a = false) (n : Nat) (k : FloatKind) (x : Nat) : (store a (.float k x)).run P (w.drewN n) = .ok () ((w.drewN n).setCell a (.float k x)) :=
  run_store_one rfl (w := w.drewN n) h hf

set_option maxHeartbeats 1000000 in
theorem strikeImpl0_c (N : Nat) (w : World) (h1 : 1 ≤ N) (h2 : N ≤ 64) :
    Calls Try.prog 18 #[.int .i64 0, .int .i64 N] w (RetShape 0 N w) := by
  obtain ⟨i0, hi, hz0, hz1, hz2⟩ := info_parts info29
  have u1 := under32m
  have u2 := under3
  go_enter Try.func18, Try.ntmps18
  go_wp2_with (at_make; refine wpList_make_full _ rfl _ _ 22 rfl w.heap.size 29 i0 (.float .f32 0) 1 slice22 hi hz0 hz1 _ _ _ _ N rfl rfl rfl rfl (by rw [hz2]; omega) (by unfold maxLen; omega) (Nat.le_refl _) ?_; intro w1 hown1 hgrow1)
  have hb0 : Below w.heap.size w w1 := (Below.refl _ _).grown hgrow1 (Nat.le_refl _) (fun k hk => by cases hk)
  rw [Nat.mul_one, show (Value.float .f32 0).cells = #[Value.float .f32 0] from rfl, toList_madeCells_one, show List.replicate N (Value.float .f32 0) = fvals .f32 (List.replicate N 0) by simp [fvals]] at hown1
  clear hgrow1
  go_loopw [29] (fun i wr => ∃ (j : Nat) (bs : List Nat), j ≤ N ∧ i = .int .i64 j ∧ wr.ownsRow w.heap.size 29 1 (.slice (some ⟨w.heap.size, 0, none⟩) N N) N (fvals .f32 bs) ∧ Fill 0 N j bs ∧ Below w.heap.size w wr) (fun i _ => N - (intOf i).toNat)
  case atStart => exact ⟨0, _, Nat.zero_le _, rfl, hown1, Fill.zero _ _, hb0⟩
  case round =>
    clear hown1 hb0
    obtain ⟨j, bs, hj, rfl, hown, hfl, hb⟩ := hrel
    by_cases hlt : j < N
    · have hlb : 0 < bs.length := by rw [hfl.1]; omega
      have hcw : wr.cell? ⟨w.heap.size, 0, none⟩ = some (.float .f32 (bs.getD 0 0)) := by
        rw [hown.cellAt 0 (by omega)]
        simp [fvals, List.getD_eq_getElem?_getD, hlb]
      have hrun := fun n x => store_drewN (P := Try.prog) hcw (hown.frozenAt 0) n .f32 x
      have hrun0 := fun x => store_drewN (P := Try.prog) hcw (hown.frozenAt 0) 0 .f32 x
      have hst := Lib.hid (fun x => hown.stored 0 (.float .f32 x))
      have hfh := Lib.hid hfl
      have hbh := Lib.hid hb
      rw [World.drewN_zero] at hrun0
      clear hcw hown hfl hb
      go_wp2
      have hs1 := (hst.out 1065353216).1
      rw [fvals_set] at hs1
      exact ⟨⟨j + 1, _, by omega, by go_num, hs1, hfh.out.click hlt, hbh.out.setCell (Nat.le_refl _) _⟩, by simp [intOf]; omega⟩
    · obtain rfl : j = N := by omega
      go_wp2
      go_ret2
      refine ⟨_, _, _, true, bs, rfl, FsP.of_owns hfl.1.symm hown hfl.2.2.2, fun i _ => ⟨_, 0, rfl, Nat.le_refl _, hown.frozenAt _⟩, hb, hfl.shaped, h2, ?_, rfl⟩
      simp
      omega

set_option maxHeartbeats 1000000 in
theorem strikeImpl1_c (N : Nat) (w : World) (h1 : 1 ≤ N) (h2 : N ≤ 64) :
    Calls Try.prog 18 #[.int .i64 1, .int .i64 N] w (RetShape 1 N w) := by
  obtain ⟨i0, hi, hz0, hz1, hz2⟩ := info_parts info29
  have u1 := under32m
  have u2 := under3
  go_enter Try.func18, Try.ntmps18
  go_wp2_with (at_make; refine wpList_make_full _ rfl _ _ 22 rfl w.heap.size 29 i0 (.float .f32 0) 1 slice22 hi hz0 hz1 _ _ _ _ N rfl rfl rfl rfl (by rw [hz2]; omega) (by unfold maxLen; omega) (Nat.le_refl _) ?_; intro w1 hown1 hgrow1)
  have hb0 : Below w.heap.size w w1 := (Below.refl _ _).grown hgrow1 (Nat.le_refl _) (fun k hk => by cases hk)
  rw [Nat.mul_one, show (Value.float .f32 0).cells = #[Value.float .f32 0] from rfl, toList_madeCells_one, show List.replicate N (Value.float .f32 0) = fvals .f32 (List.replicate N 0) by simp [fvals]] at hown1
  clear hgrow1
  go_loopw [29] (fun i wr => ∃ (j : Nat) (bs : List Nat), j ≤ N ∧ i = .int .i64 j ∧ wr.ownsRow w.heap.size 29 1 (.slice (some ⟨w.heap.size, 0, none⟩) N N) N (fvals .f32 bs) ∧ Fill 1 N j bs ∧ Below w.heap.size w wr) (fun i _ => N - (intOf i).toNat)
  case atStart => exact ⟨0, _, Nat.zero_le _, rfl, hown1, Fill.zero _ _, hb0⟩
  case round =>
    clear hown1 hb0
    obtain ⟨j, bs, hj, rfl, hown, hfl, hb⟩ := hrel
    by_cases hlt : j < N
    · have hlb : j < bs.length := by rw [hfl.1]; omega
      have hcw : wr.cell? ⟨w.heap.size, j, none⟩ = some (.float .f32 (bs.getD j 0)) := by
        rw [hown.cellAt j (by omega)]
        simp [fvals, List.getD_eq_getElem?_getD, hlb]
      have hrun := fun n x => store_drewN (P := Try.prog) hcw (hown.frozenAt j) n .f32 x
      have hrun0 := fun x => store_drewN (P := Try.prog) hcw (hown.frozenAt j) 0 .f32 x
      have hst := Lib.hid (fun x => hown.stored j (.float .f32 x))
      have hfh := Lib.hid hfl
      have hbh := Lib.hid hb
      rw [World.drewN_zero] at hrun0
      clear hcw hown hfl hb
      go_wp2_with (refine upon_flop _ (by decide) (int_FV _ _) (int_FV _ _) ?_; intro x m hx)
      have hs1 := (hst.out x).1
      rw [fvals_set] at hs1
      exact ⟨⟨j + 1, _, by omega, by go_num, hs1, hfh.out.next hlt hx, below_drewN (hbh.out.setCell (Nat.le_refl _) _) _⟩, by simp [intOf]; omega⟩
    · obtain rfl : j = N := by omega
      go_wp2
      go_ret2
      refine ⟨_, _, _, true, bs, rfl, FsP.of_owns hfl.1.symm hown hfl.2.2.2, fun i _ => ⟨_, 0, rfl, Nat.le_refl _, hown.frozenAt _⟩, hb, hfl.shaped, h2, ?_, rfl⟩
      simp
      omega

set_option maxHeartbeats 1000000 in
theorem strikeImpl2_c (N : Nat) (w : World) (h1 : 1 ≤ N) (h2 : N ≤ 64) :
    Calls Try.prog 18 #[.int .i64 2, .int .i64 N] w (RetShape 2 N w) := by
  obtain ⟨i0, hi, hz0, hz1, hz2⟩ := info_parts info29
  have u1 := under32m
  have u2 := under3
  go_enter Try.func18, Try.ntmps18
  go_wp2_with (at_make; refine wpList_make_full _ rfl _ _ 22 rfl w.heap.size 29 i0 (.float .f32 0) 1 slice22 hi hz0 hz1 _ _ _ _ N rfl rfl rfl rfl (by rw [hz2]; omega) (by unfold maxLen; omega) (Nat.le_refl _) ?_; intro w1 hown1 hgrow1)
  have hb0 : Below w.heap.size w w1 := (Below.refl _ _).grown hgrow1 (Nat.le_refl _) (fun k hk => by cases hk)
  rw [Nat.mul_one, show (Value.float .f32 0).cells = #[Value.float .f32 0] from rfl, toList_madeCells_one, show List.replicate N (Value.float .f32 0) = fvals .f32 (List.replicate N 0) by simp [fvals]] at hown1
  clear hgrow1
  go_loopw [29] (fun i wr => ∃ (j : Nat) (bs : List Nat), j ≤ N ∧ i = .int .i64 j ∧ wr.ownsRow w.heap.size 29 1 (.slice (some ⟨w.heap.size, 0, none⟩) N N) N (fvals .f32 bs) ∧ Fill 2 N j bs ∧ Below w.heap.size w wr) (fun i _ => N - (intOf i).toNat)
  case atStart => exact ⟨0, _, Nat.zero_le _, rfl, hown1, Fill.zero _ _, hb0⟩
  case round =>
    clear hown1 hb0
    obtain ⟨j, bs, hj, rfl, hown, hfl, hb⟩ := hrel
    by_cases hlt : j < N
    · have hlb : j < bs.length := by rw [hfl.1]; omega
      have hcw : wr.cell? ⟨w.heap.size, j, none⟩ = some (.float .f32 (bs.getD j 0)) := by
        rw [hown.cellAt j (by omega)]
        simp [fvals, List.getD_eq_getElem?_getD, hlb]
      have hrun := fun n x => store_drewN (P := Try.prog) hcw (hown.frozenAt j) n .f32 x
      have hrun0 := fun x => store_drewN (P := Try.prog) hcw (hown.frozenAt j) 0 .f32 x
      have hst := Lib.hid (fun x => hown.stored j (.float .f32 x))
      have hfh := Lib.hid hfl
      have hbh := Lib.hid hb
      rw [World.drewN_zero] at hrun0
      clear hcw hown hfl hb
      go_wp2_with (first | (refine upon_flop _ (by decide) (int_FV _ _) (int_FV _ _) ?_; intro t m1 ht) | (refine upon_flop _ (by decide) (FV.of_lt (k := .f32) (b := 1082130432) (by decide)) ht ?_; intro p m2 hp) | (refine upon_flop _ (by decide) (FV.of_lt (k := .f32) (b := 1065353216) (by decide)) ht ?_; intro q m3 hq) | (refine upon_flop _ (by decide) hp hq ?_; intro x m4 hx))
      have hs1 := (hst.out x).1
      rw [fvals_set] at hs1
      exact ⟨⟨j + 1, _, by omega, by go_num, hs1, hfh.out.next hlt hx, below_drewN (hbh.out.setCell (Nat.le_refl _) _) _⟩, by simp [intOf]; omega⟩
    · obtain rfl : j = N := by omega
      go_wp2
      go_ret2
      refine ⟨_, _, _, true, bs, rfl, FsP.of_owns hfl.1.symm hown hfl.2.2.2, fun i _ => ⟨_, 0, rfl, Nat.le_refl _, hown.frozenAt _⟩, hb, hfl.shaped, h2, ?_, rfl⟩
      simp
      omega
end Go.Proofs.Ytkckobbmejckiaa
