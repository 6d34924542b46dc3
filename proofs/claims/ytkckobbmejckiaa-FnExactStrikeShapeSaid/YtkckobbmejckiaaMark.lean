import Derived.Test.YtkckobbmejckiaaEqF
namespace Go.Proofs.Ytkckobbmejckiaa
open Go.RowKit Go.Fl

theorem under32m : Try.prog.underlying 29 = some (.float .f32) := by kernel_rfl
theorem under3 : (Try.prog.underlying 3).isSome = true := by kernel_rfl

theorem int_FV (k : FloatKind) (n : Int) : FV k (some (floatOfInt k n)) (floatOfInt k n) :=
  FV.mk (nearest_not_nan k.format _ _ _) (write_wlt k (.number (n < 0) n.natAbs 0))

theorem floatOfInt_lt (k : FloatKind) (n : Int) : floatOfInt k n < 2 ^ k.format.width := write_wlt k (.number (n < 0) n.natAbs 0)

theorem floatOfInt_self (k : FloatKind) (n : Int) : k.format.order (floatOfInt k n) (floatOfInt k n) = some .eq := order_self (nearest_not_nan k.format _ _ _)

/-- What 'mark' has written after j rounds. -/
def markG (k : Int) (bs : List Nat) (j i : Nat) : Nat := if i < j then floatOfInt .f32 (k + i) else bs.getD i 0
def markL (k : Int) (bs : List Nat) (n j : Nat) : List Nat := (List.range n).map (markG k bs j)
def markBits (k : Int) (n : Nat) : List Nat := (List.range n).map fun i : Nat => floatOfInt .f32 (k + (i : Int))

theorem markL_zero (k : Int) (bs : List Nat) : markL k bs bs.length 0 = bs := by
  apply List.ext_getElem
  · simp [markL]
  · intro i h1 h2
    simp [markL, markG, List.getD, h2]

theorem markL_set (k : Int) (bs : List Nat) (n j : Nat) : (markL k bs n j).set j (floatOfInt .f32 (k + j)) = markL k bs n (j + 1) := by
  apply List.ext_getElem
  · simp [markL]
  · intro i h1 h2
    rw [List.getElem_set]
    split
    · rename_i h; subst h; simp [markL, markG]
    · rename_i h
      simp only [markL, List.getElem_map, List.getElem_range, markG]
      by_cases h3 : i < j
      · rw [if_pos h3, if_pos (by omega)]
      · rw [if_neg h3, if_neg (by omega)]

theorem markL_all (k : Int) (bs : List Nat) (n : Nat) : markL k bs n n = markBits k n := by
  apply List.ext_getElem
  · simp [markL, markBits]
  · intro i h1 h2
    simp only [markL, markBits, List.getElem_map, List.getElem_range, markG]
    rw [if_pos (by simpa [markL] using h1)]

/-- May be written: not frozen, and in a block from B on. -/
def Wr (w : World) (B : Nat) (a : Option Addr) (len : Nat) : Prop := ∀ i, i < len → ∃ b off, a = some ⟨b, off, none⟩ ∧ B ≤ b ∧ w.frozen? ⟨b, off + i, none⟩ = false

theorem FsP.set {w : World} {k : FloatKind} {b off len : Nat} {bs : List Nat} (h : FsP w k (some ⟨b, off, none⟩) len bs) {j : Nat} (hj : j < len) {x : Nat} (hx : x < 2 ^ k.format.width) :
    FsP (w.setCell ⟨b, off + j, none⟩ (.float k x)) k (some ⟨b, off, none⟩) len (bs.set j x) := by
  obtain ⟨rfl, hc, hw⟩ := h
  refine ⟨by simp, fun i hi => ?_, fun y hy => ?_⟩
  · rw [List.length_set] at hi
    obtain ⟨b', off', e1, c1, l1⟩ := hc i hi
    obtain ⟨rfl, rfl⟩ : b = b' ∧ off = off' := by simpa using e1
    refine ⟨b, off, rfl, ?_, by simpa [World.setCell] using l1⟩
    rw [List.getElem_set]
    split
    · rename_i h; subst h; exact World.cell?_setCell_same w _ _ c1
    · rename_i h
      rw [World.cell?_setCell_other w _ _ _ (by intro e; apply h; simp at e)]
      exact c1
  · rcases List.mem_or_eq_of_mem_set hy with h | rfl
    · exact hw _ h
    · exact hx

theorem Wr.set {w : World} {B b off len : Nat} {v : Value} {a : Addr} (h : Wr w B (some ⟨b, off, none⟩) len) : Wr (w.setCell a v) B (some ⟨b, off, none⟩) len := fun i hi => by
  obtain ⟨b', off', e1, hB, hf⟩ := h i hi
  exact ⟨b', off', e1, hB, by rw [World.frozen?_setCell]; exact hf⟩

/-- What a call of 'mark' leaves. -/
def Marked (B : Nat) (a : Option Addr) (len : Nat) (k : Int) (w : World) (e : Ending) (w' : World) : Prop :=
  e = .returned (.int .i64 (k + len)) ∧ FsP w' .f32 a len (markBits k len) ∧ Wr w' B a len ∧ Below B w w'

set_option maxHeartbeats 400000 in
theorem mark_c {B : Nat} {a : Option Addr} {len cap : Nat} {bs : List Nat} {k : Int} (w : World) (h : FsP w .f32 a len bs) (hw : Wr w B a len) (hl : len ≤ 1048576) (h0 : 0 ≤ k) (h1 : k ≤ 1048576) :
    Calls Try.prog 19 #[.slice a len cap, .int .i64 k] w (Marked B a len k w) := by
  have u1 := under32m
  have u2 := under3
  have hlen := h.1
  rw [← markL_zero k bs, hlen] at h
  clear hlen
  go_enter Try.func19, Try.ntmps19
  go_wp2
  go_loopw [1, 5] (fun s i wr => ∃ j : Nat, j ≤ len ∧ i = .int .i64 j ∧ s = .int .i64 (k + j) ∧ FsP wr .f32 a len (markL k bs len j) ∧ Wr wr B a len ∧ Below B w wr) (fun _ i _ => len - (intOf i).toNat)
  case atStart => exact ⟨0, Nat.zero_le _, rfl, by simp, h, hw, Below.refl _ _⟩
  case round =>
    clear h hw
    obtain ⟨j, hj, rfl, rfl, hf, hwr, hb⟩ := hrel
    by_cases hlt : j < len
    · obtain ⟨b, off, rfl, hB, hfz⟩ := hwr j hlt
      obtain ⟨b', off', e1, c1, l1⟩ := hf.2.1 j (by rw [hf.1]; exact hlt)
      obtain ⟨rfl, rfl⟩ : b = b' ∧ off = off' := by simpa using e1
      have hrun := run_store_one (P := Try.prog) (v := .float .f32 (floatOfInt .f32 (k + j))) rfl c1 hfz
      have hfs := Lib.hid (hf.set hlt (floatOfInt_lt .f32 (k + j)))
      have hset := Lib.hid (markL_set k bs len j)
      clear c1 hfz e1
      go_wp2
      have h2 := hfs.out
      rw [hset.out] at h2
      exact ⟨⟨j + 1, by omega, by go_num, by simp; omega, h2, hwr.set, hb.setCell hB _⟩, by simp [intOf]; omega⟩
    · obtain rfl : j = len := by omega
      rw [markL_all] at hf
      go_wp2
      go_ret
      exact ⟨rfl, hf, hwr, hb⟩

set_option maxHeartbeats 400000 in
theorem held_c {a : Option Addr} {len cap : Nat} {k : Int} (w : World) (h : FsP w .f32 a len (markBits k len)) (hl : len ≤ 1048576) (h0 : 0 ≤ k) (h1 : k ≤ 1048576) :
    Calls Try.prog 20 #[.slice a len cap, .int .i64 k] w (Ret (.int .i64 (k + len)) w) := by
  have u1 := under32m
  have u2 := under3
  go_enter Try.func20, Try.ntmps20
  go_wp2
  go_loopw [1, 5] (fun s i wr => ∃ j : Nat, j ≤ len ∧ i = .int .i64 j ∧ s = .int .i64 (k + j) ∧ wr = w) (fun _ i _ => len - (intOf i).toNat)
  case atStart => exact ⟨0, Nat.zero_le _, rfl, by simp, by trivial⟩
  case round =>
    obtain ⟨j, hj, rfl, rfl, rfl⟩ := hrel
    by_cases hlt : j < len
    · obtain ⟨b, off, rfl, c1, l1⟩ := h.2.1 j (by rw [h.1]; exact hlt)
      have e : (markBits k len)[j]'(by rw [h.1]; exact hlt) = floatOfInt .f32 (k + j) := by simp [markBits]
      rw [e] at c1
      have hself := floatOfInt_self .f32 (k + j)
      clear e h
      go_wp2
      exact ⟨⟨j + 1, by omega, by go_num, by simp; omega, by trivial⟩, by simp [intOf]; omega⟩
    · obtain rfl : j = len := by omega
      go_wp2
      go_ret
      exact Ret.mk0
end Go.Proofs.Ytkckobbmejckiaa
