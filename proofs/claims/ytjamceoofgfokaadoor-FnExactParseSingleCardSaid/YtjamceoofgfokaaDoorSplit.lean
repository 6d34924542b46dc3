import Derived.Test.YtjamceoofgfokaaDoorParI
import Derived.Laws.AppendOwn
namespace Go.Fl
open Go
/-- A text, cut at each p. -/
def splitL : List UInt8 → List (List UInt8)
  | [] => [[]]
  | c :: r => if c = 112 then [] :: splitL r else match splitL r with
    | h :: t => (c :: h) :: t
    | [] => [[c]]

theorem splitL_none : ∀ (A : List UInt8), (∀ c ∈ A, c ≠ 112) → splitL A = [A]
  | [], _ => rfl
  | a :: A, h => by
    have ih := splitL_none A (fun c hc => h c (by simp [hc]))
    unfold splitL
    rw [if_neg (h a (by simp)), ih]

theorem splitL_cons : ∀ (A B : List UInt8), (∀ c ∈ A, c ≠ 112) → splitL (A ++ 112 :: B) = A :: splitL B
  | [], B, _ => by
    show splitL (112 :: B) = _
    rw [splitL, if_pos rfl]
  | a :: A, B, h => by
    have ih := splitL_cons A B (fun c hc => h c (by simp [hc]))
    rw [List.cons_append, splitL, if_neg (h a (by simp)), ih]

/-- What the loop of l1Split keeps: ps are the pieces, the next one begins at f, no p lies from f to i. -/
def SpState (l : List UInt8) (ps : List (List UInt8)) (f i : Nat) : Prop :=
  f ≤ i ∧ i ≤ l.length ∧ ps ++ splitL (l.drop f) = splitL l ∧ (∀ c ∈ (l.drop f).take (i - f), c ≠ 112) ∧ ps.length ≤ i ∧ ∀ p ∈ ps, p.length ≤ l.length

theorem SpState.start (l : List UInt8) : SpState l [] 0 0 := ⟨Nat.le_refl _, Nat.zero_le _, rfl, by simp, Nat.le_refl _, by simp⟩

theorem SpState.skip {l : List UInt8} {ps : List (List UInt8)} {f i : Nat} (h : SpState l ps f i) (hi : i < l.length) (hc : l[i] ≠ 112) : SpState l ps f (i + 1) := by
  obtain ⟨h1, h2, h3, h4, h5, h6⟩ := h
  refine ⟨by omega, by omega, h3, ?_, by omega, h6⟩
  rw [show i + 1 - f = (i - f) + 1 by omega, List.take_add_one]
  intro c hm
  rcases List.mem_append.1 hm with hm | hm
  · exact h4 c hm
  · rw [List.getElem?_drop, show f + (i - f) = i by omega, List.getElem?_eq_getElem hi] at hm
    simp at hm
    rw [hm]; exact hc

theorem SpState.cut {l : List UInt8} {ps : List (List UInt8)} {f i : Nat} (h : SpState l ps f i) (hi : i < l.length) (hc : l[i] = 112) : SpState l (ps ++ [(l.drop f).take (i - f)]) (i + 1) (i + 1) := by
  obtain ⟨h1, h2, h3, h4, h5, h6⟩ := h
  have e : l.drop f = (l.drop f).take (i - f) ++ 112 :: l.drop (i + 1) := by
    have e1 := List.take_append_drop (i - f) (l.drop f)
    rw [List.drop_drop, show f + (i - f) = i by omega, List.drop_eq_getElem_cons hi, hc] at e1
    exact e1.symm
  refine ⟨Nat.le_refl _, by omega, ?_, by simp, by simp; omega, ?_⟩
  · rw [← h3]
    conv => rhs; rw [e, splitL_cons _ _ h4]
    simp
  · intro p hp
    rcases List.mem_append.1 hp with hp | hp
    · exact h6 p hp
    · rw [List.mem_singleton.1 hp]; simp; omega

theorem SpState.done {l : List UInt8} {ps : List (List UInt8)} {f : Nat} (h : SpState l ps f l.length) : splitL l = ps ++ [l.drop f] := by
  obtain ⟨h1, h2, h3, h4, h5, h6⟩ := h
  rw [List.take_of_length_le (by simp)] at h4
  rw [← h3, splitL_none _ h4]
end Go.Fl
namespace Go.Proofs.YtjamceoofgfokaaDoor
open Go.RowKit Go.Fl

theorem info9 : (Tryd.prog.info? 9).map (fun i => (i.zero, i.size, i.bytes)) = some (some (.string ByteArray.empty), 1, 16) := by kernel_rfl
theorem sliceStr : Tryd.prog.underlying 43 = some (.slice 9) := by kernel_rfl
theorem info_parts' {i : Option TypeInfo} {z : Option Value} {n b : Nat} (h : i.map (fun i => (i.zero, i.size, i.bytes)) = some (z, n, b)) : ∃ j, i = some j ∧ j.zero = z ∧ j.size = n ∧ j.bytes = b := by
  cases i with
  | none => cases h
  | some j => simp at h; exact ⟨j, rfl, h.1, h.2.1, h.2.2⟩

def strs (ps : List (List UInt8)) : List Value := ps.map fun p => .string ⟨p.toArray⟩

/-- A call that cuts a text at each p. -/
def RetSp (l : List UInt8) (w : World) (e : Ending) (w' : World) : Prop :=
  ∃ g n cap, e = .returned (.slice (some ⟨g, 0, none⟩) n cap) ∧ n = (splitL l).length ∧ (∀ p ∈ splitL l, p.length ≤ l.length) ∧ (∀ j (h : j < (splitL l).length), w'.cell? ⟨g, j, none⟩ = some (.string ⟨((splitL l)[j]).toArray⟩)) ∧ Below w.heap.size w w'

set_option maxRecDepth 10000 in
set_option maxHeartbeats 2000000 in
theorem l1Split_c (l : List UInt8) (hl : l.length ≤ 1048576) (w : World) :
    Calls Tryd.prog 25 #[.string ⟨l.toArray⟩, .int .u8 112] w (RetSp l w) := by
  obtain ⟨i0, hi, hz0, hz1, hz2⟩ := info_parts' info9
  have u3 := under3
  go_enter Tryd.func25, Tryd.ntmps25
  go_wp2_with fail
  go_loopw [5, 6, 7] (fun v f i wr => ∃ (ps : List (List UInt8)) (F I : Nat), f = .int .i64 F ∧ i = .int .i64 I ∧ Hid (SpState l ps F I) ∧ wr.ownsRow w.heap.size 9 1 v ps.length (strs ps) ∧ Below w.heap.size w wr) (fun _ _ i _ => l.length - (intOf i).toNat)
  case atStart => exact ⟨[], 0, 0, rfl, rfl, Lib.hid (SpState.start l), World.ownsRow_lit _ #[] 0 (Nat.le_refl _) (Nat.zero_le _) rfl, (Below.refl _ _).alloc (Nat.le_refl _) _⟩
  case round =>
    obtain ⟨ps, F, I, rfl, rfl, hst, hown, hb⟩ := hrel
    have hFI : F ≤ I := hst.out.1
    have hI : I ≤ l.length := hst.out.2.1
    have hps : ps.length ≤ I := hst.out.2.2.2.2.1
    rcases Nat.lt_or_eq_of_le hI with hlt | heq
    · have d1 : decide ((I : Int) < (l.length : Int)) = true := by simpa using hlt
      have hIl := Lib.hid hlt
      by_cases hc : l[I] = 112
      · have q : ((((⟨l.toArray⟩ : ByteArray)[I]'hlt).toNat : Int) == 112) = true := by
          show ((l[I].toNat : Int) == 112) = true
          rw [hc]; rfl
        have hex : (⟨l.toArray⟩ : ByteArray).extract F I = ⟨((l.drop F).take (I - F)).toArray⟩ := by rw [ext_bytes, List.drop_take]
        have ST := Lib.hid (hst.out.cut hlt hc)
        clear hc
        go_wp2_with (at_builtin; refine wpList_append_own _ rfl _ _ 43 rfl w.heap.size 9 i0 (.string ByteArray.empty) 1 16 sliceStr hi hz0 hz1 hz2 rfl (by decide) _ _ _ rfl (hown.alloc _) _ 1 1 [_] rfl rfl (new_one _ _ _) (one_ok rfl) (by unfold maxLen; omega) (by omega) (by have := hb.size; simp; omega) ?_; intro v' w1 hown1 hgrow1 _)
        refine ⟨⟨ps ++ [(l.drop F).take (I - F)], I + 1, I + 1, by go_num, by go_num, ST, ?_, hb.trans (((Below.refl _ _).alloc hb.size _).trans (below_grown (hown.alloc _) hgrow1 (Nat.le_refl _) (by have := hb.size; simp; omega)))⟩, by simp [intOf]; omega⟩
        rw [List.length_append, List.length_singleton]
        unfold strs
        rw [List.map_append]
        exact hown1
      · have q : ((((⟨l.toArray⟩ : ByteArray)[I]'hlt).toNat : Int) == 112) = false := by
          show ((l[I].toNat : Int) == 112) = false
          have h1 : l[I].toNat ≠ 112 := fun h => hc (by
            apply UInt8.toNat_inj.1
            rw [h]; rfl)
          simp; omega
        have ST := Lib.hid (hst.out.skip hlt hc)
        clear hc
        go_wp2_with fail
        exact ⟨⟨ps, F, I + 1, rfl, by go_num, ST, hown, hb⟩, by simp [intOf]; omega⟩
    · subst heq
      have d1 : decide ((l.length : Int) < (l.length : Int)) = false := by simp
      have hex : (⟨l.toArray⟩ : ByteArray).extract F l.length = ⟨(l.drop F).toArray⟩ := by rw [ext_bytes, List.take_of_length_le (Nat.le_refl _)]
      go_wp2_with (at_builtin; refine wpList_append_own _ rfl _ _ 43 rfl w.heap.size 9 i0 (.string ByteArray.empty) 1 16 sliceStr hi hz0 hz1 hz2 rfl (by decide) _ _ _ rfl (hown.alloc _) _ 1 1 [_] rfl rfl (new_one _ _ _) (one_ok rfl) (by unfold maxLen; omega) (by omega) (by have := hb.size; simp; omega) ?_; intro v' w1 hown1 hgrow1 _)
      rcases hown1.2 with ⟨_, hn⟩ | ⟨g, cap, _, rfl, _⟩
      · omega
      · go_ret
        have hd := hst.out.done
        have hall := hst.out.2.2.2.2.2
        refine ⟨g, _, cap, rfl, by rw [hd]; simp, ?_, fun j hj => ?_, hb.trans (((Below.refl _ _).alloc hb.size _).trans (below_grown (hown.alloc _) hgrow1 (Nat.le_refl _) (by have := hb.size; simp; omega)))⟩
        · rw [hd]
          intro p hp
          rcases List.mem_append.1 hp with hp | hp
          · exact hall p hp
          · rw [List.mem_singleton.1 hp]; simp
        · have hj' : j < ps.length + 1 := by rw [hd] at hj; simpa using hj
          rw [hown1.cellAt j (by omega)]
          have e : strs ps ++ [Value.string ⟨(l.drop F).toArray⟩] = strs (splitL l) := by rw [hd]; unfold strs; rw [List.map_append]; rfl
          rw [e]
          unfold strs
          rw [List.getElem?_map, List.getElem?_eq_getElem hj]
          rfl
end Go.Proofs.YtjamceoofgfokaaDoor
