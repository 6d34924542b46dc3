import Derived.Test.YtkaajnmbmjnplaaBodyB
namespace Go.Proofs.Ytkaajnmbmjnplaa
open Go.RowKit Go.Fl

/-- What the words of a mode stand for. -/
def clM (x : MW) : MQ := ((cl .f32 x.a, cl .f32 x.b), (cl .f32 x.c, cl .f32 x.d))
def wfX (x : MW) : Prop := x.a < 2 ^ 32 ∧ x.b < 2 ^ 32 ∧ x.c < 2 ^ 32 ∧ x.d < 2 ^ 32
def okB (x : MW) : Bool := okMode (clM x)
theorem wfX.fm {x : MW} (h : wfX x) : FM (clM x) x := ⟨FV.of_lt (k := .f32) h.1, FV.of_lt (k := .f32) h.2.1, FV.of_lt (k := .f32) h.2.2.1, FV.of_lt (k := .f32) h.2.2.2⟩
theorem okX.wf {x : MW} (h : okX x) : wfX x ∧ okB x = true := by
  obtain ⟨m, ⟨h1, h2, h3, h4⟩, ho⟩ := h
  refine ⟨⟨h1.2, h2.2, h3.2, h4.2⟩, ?_⟩
  have e : m = clM x := by unfold clM; rw [h1.1, h2.1, h3.1, h4.1]
  unfold okB
  rw [← e]; exact ho
theorem wfX.okX {x : MW} (h : wfX x) (k : okB x = true) : okX x := ⟨clM x, h.fm, k⟩

/-- A slice of modes, as it lies. -/
def MsP (w : World) (a : Option Addr) (xs : List MW) : Prop :=
  ∀ i (h : i < xs.length), ∃ g off, a = some ⟨g, off, none⟩ ∧ w.cell? ⟨g, off + i * 2, none⟩ = some (.complex .f32 xs[i].a xs[i].b) ∧ w.cell? ⟨g, off + i * 2 + 1, none⟩ = some (.complex .f32 xs[i].c xs[i].d) ∧ g < w.heap.size

theorem MsP.below {w w' : World} {a : Option Addr} {xs : List MW} (h : MsP w a xs) (hb : Below w.heap.size w w') : MsP w' a xs := fun i hi => by
  obtain ⟨g, off, h1, h2, h3, h4⟩ := h i hi
  exact ⟨g, off, h1, by rw [hb.cell (p := ⟨g, off + i * 2, none⟩) h4]; exact h2, by rw [hb.cell (p := ⟨g, off + i * 2 + 1, none⟩) h4]; exact h3, Nat.lt_of_lt_of_le h4 hb.size⟩

/-- Is it the modes of a body? -/
def okL (xs : List MW) : Bool := xs.all okB && decide (xs.length ≤ 16)

theorem all_take_succ {xs : List MW} {i : Nat} (hi : i < xs.length) (h : (xs.take i).all okB = true) (k : okB xs[i] = true) : (xs.take (i + 1)).all okB = true := by
  rw [List.take_add_one, List.getElem?_eq_getElem hi, List.all_append, h]
  simp [k]

theorem not_all {xs : List MW} {i : Nat} (hi : i < xs.length) (k : okB xs[i] = false) : xs.all okB = false := by
  rw [List.all_eq_false]
  exact ⟨xs[i], List.getElem_mem hi, by rw [k]; decide⟩

set_option maxRecDepth 10000 in
set_option maxHeartbeats 2000000 in
theorem l2Modes_c {a : Option Addr} {cap : Nat} {xs : List MW} (w : World) (h : MsP w a xs) (hw : ∀ x ∈ xs, wfX x) (hl : xs.length ≤ 1048576) :
    Calls Try.prog 32 #[.slice a xs.length cap] w (RetBel (.bool (okL xs)) w) := by
  have H := Lib.hid h
  have HW := Lib.hid hw
  have t0 := store_new0
  have t1 := store_new1
  have u3 := under3
  clear h hw
  go_enter Try.func32, Try.ntmps32
  go_wp2_with fail
  go_loopw [7] (fun i wr => ∃ I : Nat, i = .int .i64 I ∧ I ≤ xs.length ∧ Hid ((xs.take I).all okB = true) ∧ Hid (Below w.heap.size w wr)) (fun i _ => xs.length - (intOf i).toNat)
  case atStart => exact ⟨0, rfl, Nat.zero_le _, Lib.hid (by simp), Lib.hid (Below.refl _ _)⟩
  case round =>
    obtain ⟨I, rfl, hI, hall, hB⟩ := hrel
    rcases Nat.lt_or_eq_of_le hI with hlt | heq
    · have d1 : decide ((I : Int) < (xs.length : Int)) = true := by simpa using hlt
      obtain ⟨g, off, rfl, c0, c1, hg⟩ := (H.out.below hB.out) I hlt
      have hwf := Lib.hid (HW.out xs[I] (List.getElem_mem hlt))
      have NA := Lib.hid (fun k => not_all hlt k)
      have AS := Lib.hid (fun k => all_take_succ hlt hall.out k)
      generalize hx : xs[I] = x at *
      clear hx
      obtain ⟨v1, v2, v3, v4⟩ := x
      go_upto_region 4 with fail
      have M3 := Lib.hid (heap_alloc_new wr (.cells #[.complex .f32 v1 v2, .complex .f32 v3 v4] 33))
      have B3 := Lib.hid (hB.out.alloc hB.out.size (.cells #[.complex .f32 v1 v2, .complex .f32 v3 v4] 33))
      have hM3 : wr.heap.size < (wr.alloc (.cells #[.complex .f32 v1 v2, .complex .f32 v3 v4] 33)).heap.size := by rw [World.size_alloc]; omega
      have hsz := hB.out.size
      generalize wr.alloc (.cells #[.complex .f32 v1 v2, .complex .f32 v3 v4] 33) = W3 at *
      generalize wr.heap.size = M at *
      have c0 := cur_cell M3.out 0
      have c1 := cur_cell M3.out 1
      simp at c0 c1
      go_wp2_with fail
      refine (isModeSpec_c (x := ⟨v1, v2, v3, v4⟩) hwf.out.fm _).mono ?_
      rintro e W4 ⟨rfl, b4⟩
      have B4 := Lib.hid (B3.out.trans (b4.mono (Nat.le_trans hsz (Nat.le_of_lt hM3))))
      clear b4 M3 B3 c0 c1
      rw [show okMode (clM ⟨v1, v2, v3, v4⟩) = okB ⟨v1, v2, v3, v4⟩ from rfl]
      cases ht : okB ⟨v1, v2, v3, v4⟩
      case false =>
        have e : okL xs = false := by unfold okL; rw [NA.out ht]; rfl
        have E := Lib.hid e
        clear e
        go_wp2_with fail
        go_ret
        exact ⟨by rw [E.out]; rfl, B4.out⟩
      case true =>
        have A5 := Lib.hid (AS.out ht)
        go_wp2_with fail
        exact ⟨⟨I + 1, by go_num, hlt, A5, B4⟩, by simp [intOf]; omega⟩
    · subst heq
      have d1 : decide ((xs.length : Int) < (xs.length : Int)) = false := by simp
      have e : okL xs = decide (xs.length ≤ 16) := by
        unfold okL
        have := hall.out
        rw [List.take_of_length_le (Nat.le_refl _)] at this
        rw [this]; rfl
      have E := Lib.hid e
      clear e
      go_wp2_with fail
      go_ret
      exact ⟨by rw [E.out]; simp; omega, hB.out⟩

set_option maxRecDepth 10000 in
set_option maxHeartbeats 1000000 in
theorem isBodySpec_c {a : Option Addr} {cap : Nat} {xs : List MW} (w : World) (h : MsP w a xs) (hw : ∀ x ∈ xs, wfX x) (hl : xs.length ≤ 1048576) :
    Calls Try.prog 13 #[.agg #[.slice a xs.length cap]] w (RetBel (.bool (okL xs)) w) := by
  have B0 : Below w.heap.size w (w.alloc (.cells #[.slice a xs.length cap] 25)) := (Below.refl _ _).alloc (Nat.le_refl _) _
  have L0 := Lib.hid (fun w' hb => l2Modes_c (cap := cap) w' (h.below hb) hw hl)
  clear h hw
  go_enter Try.func13, Try.ntmps13
  go_wp2_with fail
  refine (L0.out _ B0).mono ?_
  rintro e w1 ⟨rfl, b1⟩
  have B1 := B0.trans (b1.mono B0.size)
  go_wp2_with fail
  go_ret
  exact ⟨rfl, B1⟩
end Go.Proofs.Ytkaajnmbmjnplaa
