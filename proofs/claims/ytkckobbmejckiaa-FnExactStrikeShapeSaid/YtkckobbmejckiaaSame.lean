import Derived.Test.YtkckobbmejckiaaChecked
import Derived.Test.YtkckobbmejckiaaFloat
import Derived.Lib.Hide
import Derived.WalkSmall
namespace Go.Proofs.Ytkckobbmejckiaa
open Go.RowKit Go.Fl

/-- A call that gives v and leaves the world as it was, but for draws. -/
def Ret (v : Value) (w : World) (e : Ending) (w' : World) : Prop := e = .returned v ∧ ∃ n, w' = w.drewN n

theorem Ret.mk {v : Value} {w : World} {n : Nat} : Ret v w (.returned v) (w.drewN n) := ⟨rfl, n, rfl⟩
theorem Ret.mk0 {v : Value} {w : World} : Ret v w (.returned v) w := ⟨rfl, 0, rfl⟩

theorem same_order {k : FloatKind} {p : Option Nat} {x y : Nat} (hx : FV k p x) (hy : FV k p y) (z : Nat) : k.format.order x z = k.format.order y z := by
  rcases hx.eq_or_nan hy with rfl | rfl
  · rfl
  · rw [order_nan hx, order_nan hy]

set_option maxHeartbeats 400000 in
theorem sameFloat_c {p : Option Nat} {x y : Nat} (hx : FV .f64 p x) (hy : FV .f64 p y) (w : World) :
    Calls Try.prog 11 #[.float .f64 x, .float .f64 y] w (Ret (.bool true) w) := by
  cases p with
  | none =>
    have h1 := order_nan hx x
    have h2 := order_nan hy y
    clear hx hy
    go_enter Try.func11, Try.ntmps11
    go_wp2
    go_ret
    exact Ret.mk0
  | some c =>
    obtain rfl := hx.some_eq
    obtain rfl := hy.some_eq
    have h1 := order_self hx.not_nan.2
    by_cases hz : (FloatKind.f64.format.order c 0 == some .eq) = true
    · have hk := @FV.of_lt .f64 4607182418800017408 (by decide)
      go_enter Try.func11, Try.ntmps11
      go_wp2_with (refine upon_flop _ (.inr (.inr (.inr rfl))) hk hx ?_; intro _ _ _)
      rename_i r1 n1 g1 r2 n2 g2
      have e := same_order g1 g2 0
      go_ret
      refine ⟨?_, _, rfl⟩
      simp [e]
    · have hz' : (FloatKind.f64.format.order c 0 == some .eq) = false := by simpa using hz
      clear hz
      go_enter Try.func11, Try.ntmps11
      go_wp2
      go_ret
      exact Ret.mk0

/-- A slice of floats that reads as bs: what a walk is told of it. -/
def FsP (w : World) (k : FloatKind) (a : Option Addr) (len : Nat) (bs : List Nat) : Prop :=
  bs.length = len ∧ (∀ i (h : i < bs.length), ∃ b off, a = some ⟨b, off, none⟩ ∧ w.cell? ⟨b, off + i, none⟩ = some (.float k bs[i]) ∧ b < w.heap.size) ∧ ∀ x ∈ bs, x < 2 ^ k.format.width

theorem FsP.below {w w' : World} {k : FloatKind} {a : Option Addr} {len : Nat} {bs : List Nat} (h : FsP w k a len bs) (hb : Below w.heap.size w w') : FsP w' k a len bs :=
  ⟨h.1, fun i hi => by
    obtain ⟨b, off, h1, h2, h3⟩ := h.2.1 i hi
    exact ⟨b, off, h1, by rw [hb.cell (p := ⟨b, off + i, none⟩) h3]; exact h2, Nat.lt_of_lt_of_le h3 hb.size⟩, h.2.2⟩

/-- What the words of a list stand for. -/
def cls (k : FloatKind) (bs : List Nat) : List (Option Nat) := bs.map (cl k)

/-- The sum of the squares. -/
def energyStep (s p : Option Nat) : Option Nat := fop .add .f64 s (fop .mul .f64 (fconv .f32 .f64 p) (fconv .f32 .f64 p))
def energyOf (ps : List (Option Nat)) : Option Nat := ps.foldl energyStep (cl .f64 0)

theorem energy_snoc (bs : List Nat) {k : Nat} (h : k < bs.length) : energyOf (cls .f32 (bs.take (k + 1))) = energyStep (energyOf (cls .f32 (bs.take k))) (cl .f32 bs[k]) := by
  unfold energyOf cls
  rw [List.take_succ_eq_append_getElem h, List.map_append, List.foldl_append]
  rfl

/-- A call that gives a word that stands for p, and leaves the world as it was, but for draws. -/
def RetF (k : FloatKind) (p : Option Nat) (w : World) (e : Ending) (w' : World) : Prop := ∃ r, e = .returned (.float k r) ∧ FV k p r ∧ ∃ n, w' = w.drewN n

theorem under29 : (Try.prog.underlying 29).isSome = true := by kernel_rfl
theorem under23 : Try.prog.underlying 23 = some (.float .f64) := by kernel_rfl

set_option maxHeartbeats 400000 in
theorem energyImpl_c {a : Option Addr} {len cap : Nat} {bs : List Nat} (w : World) (h : FsP w .f32 a len bs) (hl : len ≤ 1048576) :
    Calls Try.prog 10 #[.slice a len cap] w (RetF .f64 (energyOf (cls .f32 bs)) w) := by
  obtain ⟨rfl, hc, hw⟩ := h
  go_enter Try.func10, Try.ntmps10
  go_wp2
  go_loopw [3, 9] (fun s i wr => ∃ k n r : Nat, k ≤ bs.length ∧ i = .int .i64 k ∧ s = .float .f64 r ∧ FV .f64 (energyOf (cls .f32 (bs.take k))) r ∧ wr = w.drewN n) (fun _ i _ => bs.length - (intOf i).toNat)
  case atStart => exact ⟨0, 0, 0, Nat.zero_le _, rfl, rfl, FV.of_lt (by decide), rfl⟩
  case round =>
    obtain ⟨k, n, r, hk, rfl, rfl, hr, rfl⟩ := hrel
    by_cases hlt : k < bs.length
    · obtain ⟨b, off, rfl, hck, _⟩ := hc k hlt
      have hvk := @FV.of_lt .f32 bs[k] (hw _ (List.getElem_mem hlt))
      have hs := Lib.hid (energy_snoc bs hlt)
      clear hc hw
      go_wp2_with (first | (refine upon_widen _ under29 under23 hvk ?_; intro _ _ _) | (refine upon_flop _ (by decide) (by assumption) (by assumption) ?_; intro _ _ _))
      exact ⟨⟨k + 1, _, _, by omega, by go_num, rfl, by rw [hs.out]; assumption, rfl⟩, by simp [intOf]; omega⟩
    · obtain rfl : k = bs.length := by omega
      rw [List.take_length] at hr
      go_wp2
      go_ret
      exact ⟨_, rfl, hr, _, rfl⟩

set_option maxHeartbeats 400000 in
theorem energySpec_c {a : Option Addr} {len cap : Nat} {bs : List Nat} (w : World) (h : FsP w .f32 a len bs) (hl : len ≤ 1048576) :
    Calls Try.prog 8 #[.slice a len cap] w (RetF .f64 (energyOf (cls .f32 bs)) w) := by
  obtain ⟨rfl, hc, hw⟩ := h
  go_enter Try.func8, Try.ntmps8
  go_wp2
  go_loopw [3, 8] (fun s i wr => ∃ k n r : Nat, k ≤ bs.length ∧ i = .int .i64 k ∧ s = .float .f64 r ∧ FV .f64 (energyOf (cls .f32 (bs.take k))) r ∧ wr = w.drewN n) (fun _ i _ => bs.length - (intOf i).toNat)
  case atStart => exact ⟨0, 0, 0, Nat.zero_le _, rfl, rfl, FV.of_lt (by decide), rfl⟩
  case round =>
    obtain ⟨k, n, r, hk, rfl, rfl, hr, rfl⟩ := hrel
    by_cases hlt : k < bs.length
    · obtain ⟨b, off, rfl, hck, _⟩ := hc k hlt
      have hvk := @FV.of_lt .f32 bs[k] (hw _ (List.getElem_mem hlt))
      have hs := Lib.hid (energy_snoc bs hlt)
      clear hc hw
      go_wp2_with (first | (refine upon_widen _ under29 under23 hvk ?_; intro _ _ _) | (refine upon_flop _ (by decide) (by assumption) (by assumption) ?_; intro _ _ _))
      exact ⟨⟨k + 1, _, _, by omega, by go_num, rfl, by rw [hs.out]; assumption, rfl⟩, by simp [intOf]; omega⟩
    · obtain rfl : k = bs.length := by omega
      rw [List.take_length] at hr
      go_wp2
      go_ret
      exact ⟨_, rfl, hr, _, rfl⟩

/-- The element type's row. -/
theorem info29 : (Try.prog.info? 29).map (fun i => (i.zero, i.size, i.bytes)) = some (some (.float .f32 0), 1, 4) := by kernel_rfl
theorem slice22 : Try.prog.underlying 22 = some (.slice 29) := by kernel_rfl

/-- A call that makes a new slice of floats that reads as bs. -/
def NewFs (k : FloatKind) (bs : List Nat) (w : World) (e : Ending) (w' : World) : Prop :=
  ∃ b cap, e = .returned (.slice (some ⟨b, 0, none⟩) bs.length cap) ∧ w.heap.size ≤ b ∧ FsP w' k (some ⟨b, 0, none⟩) bs.length bs ∧ (∀ i, i < bs.length → w'.frozen? ⟨b, i, none⟩ = false) ∧ Below w.heap.size w w'

/-- The first k of vs, zeros behind. -/
def fillV (vs : List Value) (z : Value) (k : Nat) : List Value := vs.take k ++ List.replicate (vs.length - k) z

theorem fillV_set (vs : List Value) (z : Value) {k : Nat} (h : k < vs.length) : (fillV vs z k).set k vs[k] = fillV vs z (k + 1) := by
  unfold fillV
  have hl : (vs.take k).length = k := by rw [List.length_take]; omega
  obtain ⟨m, hm⟩ : ∃ m, vs.length - k = m + 1 := ⟨vs.length - k - 1, by omega⟩
  rw [List.take_succ_eq_append_getElem h, hm, show vs.length - (k + 1) = m by omega, List.replicate_succ, List.set_append_right _ _ (by omega), hl, Nat.sub_self, List.set_cons_zero, List.append_assoc]
  rfl

theorem fillV_zero (vs : List Value) (z : Value) : fillV vs z 0 = List.replicate vs.length z := by simp [fillV]
theorem fillV_all (vs : List Value) (z : Value) : fillV vs z vs.length = vs := by simp [fillV]

def fvals (k : FloatKind) (bs : List Nat) : List Value := bs.map (Value.float k)

theorem FsP.of_owns {w : World} {k : FloatKind} {base g cap n : Nat} {e : TypeId} {bs : List Nat} (hn : n = bs.length) (h : w.ownsRow base e 1 (.slice (some ⟨g, 0, none⟩) n cap) n (fvals k bs)) (hw : ∀ x ∈ bs, x < 2 ^ k.format.width) : FsP w k (some ⟨g, 0, none⟩) n bs := by
  subst hn
  refine ⟨rfl, fun i hi => ⟨g, 0, rfl, ?_, (h.lt g rfl).2⟩, hw⟩
  rw [Nat.zero_add, h.cellAt i (by omega)]
  simp [fvals, hi]

theorem run_store_one {P : Program} {w : World} {a : Addr} {v u : Value} (hv : v.oneCell' = true) (h : w.cell? a = some u) (hf : w.frozen? a = false) : (store a v).run P w = .ok () (w.setCell a v) := by
  rw [run_store P w a v _ hv, h, hf]
  rfl

theorem fillV_get (vs : List Value) (z : Value) {k : Nat} (h : k < vs.length) : (fillV vs z k)[k]? = some z := by
  have hl : (vs.take k).length = k := by rw [List.length_take]; omega
  obtain ⟨m, hm⟩ : ∃ m, vs.length - k = m + 1 := ⟨vs.length - k - 1, by omega⟩
  unfold fillV
  rw [List.getElem?_append_right (by omega), hl, Nat.sub_self, hm]
  rfl

set_option maxHeartbeats 400000 in
theorem toFloat32S_c {a : Option Addr} {len cap : Nat} {bs : List Nat} (w : World) (h : FsP w .f32 a len bs) (hl : len ≤ 1048576) :
    Calls Try.prog 9 #[.slice a len cap] w (NewFs .f32 bs w) := by
  obtain ⟨i0, hi, hz0, hz1, hz2⟩ := info_parts info29
  have hl' : len ≤ 1048576 := hl
  obtain ⟨rfl, hc, hw⟩ := h
  go_enter Try.func9, Try.ntmps9
  go_wp2_with (at_make; refine wpList_make_full _ rfl _ _ 22 rfl w.heap.size 29 i0 (.float .f32 0) 1 slice22 hi hz0 hz1 _ _ _ _ bs.length rfl rfl rfl rfl (by rw [hz2]; omega) (by unfold maxLen; omega) (Nat.le_refl _) ?_; intro w1 hown1 hgrow1)
  have hb0 : Below w.heap.size w w1 := (Below.refl _ _).grown hgrow1 (Nat.le_refl _) (fun k hk => by cases hk)
  rw [Nat.mul_one, show (Value.float .f32 0).cells = #[Value.float .f32 0] from rfl, toList_madeCells_one, show bs.length = (fvals .f32 bs).length by simp [fvals], ← fillV_zero] at hown1
  generalize hfv : (fvals .f32 bs).length = N at hown1
  obtain rfl : bs.length = N := by rw [← hfv]; simp [fvals]
  clear hfv hgrow1
  go_loopw [4] (fun i wr => ∃ k : Nat, k ≤ bs.length ∧ i = .int .i64 k ∧ wr.ownsRow w.heap.size 29 1 (.slice (some ⟨w.heap.size, 0, none⟩) bs.length bs.length) bs.length (fillV (fvals .f32 bs) (.float .f32 0) k) ∧ Below w.heap.size w wr)
    (fun i _ => bs.length - (intOf i).toNat)
  case atStart => exact ⟨0, Nat.zero_le _, rfl, hown1, hb0⟩
  case round =>
    clear hown1 hb0
    obtain ⟨k, hk, rfl, hown, hb⟩ := hrel
    by_cases hlt : k < bs.length
    · obtain ⟨b, off, rfl, hck, hbb⟩ := hc k hlt
      have hck' : wr.cell? ⟨b, off + k, none⟩ = some (.float .f32 bs[k]) := by rw [hb.cell (p := ⟨b, off + k, none⟩) hbb]; exact hck
      have hcw : wr.cell? ⟨w.heap.size, k, none⟩ = some (.float .f32 0) := by
        rw [hown.cellAt k (by omega), fillV_get _ _ (by simp [fvals]; exact hlt)]
      have hrun := run_store_one (P := Try.prog) (v := .float .f32 bs[k]) rfl hcw (hown.frozenAt k)
      have hst := Lib.hid (hown.stored k (.float .f32 bs[k]))
      have hset := Lib.hid (fillV_set (fvals .f32 bs) (.float .f32 0) (k := k) (by simp [fvals]; exact hlt))
      clear hc hw hck hcw
      go_wp2
      obtain ⟨hs1, _⟩ := hst.out
      have hse := hset.out
      simp only [fvals, List.getElem_map] at hse hs1
      rw [hse] at hs1
      exact ⟨⟨k + 1, by omega, by go_num, hs1, hb.setCell (Nat.le_refl _) _⟩, by simp [intOf]; omega⟩
    · obtain rfl : k = bs.length := by omega
      have hfa := fillV_all (fvals .f32 bs) (.float .f32 0)
      rw [show (fvals .f32 bs).length = bs.length by simp [fvals]] at hfa
      rw [hfa] at hown
      clear hfa
      go_wp2
      go_ret
      exact ⟨w.heap.size, _, rfl, Nat.le_refl _, FsP.of_owns rfl hown hw, fun i _ => hown.frozenAt i, hb⟩
end Go.Proofs.Ytkckobbmejckiaa
