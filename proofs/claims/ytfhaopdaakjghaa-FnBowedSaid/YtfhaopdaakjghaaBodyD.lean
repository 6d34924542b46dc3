import Derived.Test.YtfhaopdaakjghaaIdx
import Derived.Shelf.Abstract
namespace Go.Proofs.Ytfhaopdaakjghaa
open Go.RowKit Go.Fl Go.Shelf Go.Proofs

theorem enter_isBody1 : ∀ args w, (callFunc 24 args).run Try.prog w = .ok (.enter 24 args) w :=
  enters_of Try.func24 (by kernel_rfl) rfl

set_option maxRecDepth 10000 in
set_option maxHeartbeats 1000000 in
theorem isBody1_c {x : MW} (h : wfX x) (w : World) :
    Calls Try.prog 24 (#[x.val] ++ #[]) w (RetBel (.bool (!okB x)) w) := by
  have hf := Lib.hid h.fm
  clear h
  obtain ⟨v1, v2, v3, v4⟩ := x
  rw [show (#[MW.val ⟨v1, v2, v3, v4⟩] ++ #[] : Array Value) = #[.agg #[.complex .f32 v1 v2, .complex .f32 v3 v4]] from rfl]
  go_enter Try.func24, Try.ntmps24
  go_upto_region 1 with fail
  have B0 : Below w.heap.size w (w.alloc (.cells #[.complex .f32 v1 v2, .complex .f32 v3 v4] 55)) := (Below.refl _ _).alloc (Nat.le_refl _) _
  have M0 := heap_alloc_new w (.cells #[.complex .f32 v1 v2, .complex .f32 v3 v4] 55)
  generalize w.alloc (.cells #[.complex .f32 v1 v2, .complex .f32 v3 v4] 55) = W0 at *
  generalize hR : w.heap.size = R at *
  have HR := Lib.hid hR
  have c0 := cur_cell M0 0
  have c1 := cur_cell M0 1
  simp at c0 c1
  go_wp2_with fail
  refine (isModeImpl_c (x := ⟨v1, v2, v3, v4⟩) hf.out _).mono ?_
  rintro e w1 ⟨rfl, b1⟩
  have B1 := B0.trans (b1.mono (by have := B0.size; have := HR.out; omega))
  go_wp2_with fail
  go_ret
  exact ⟨by simp [okB], by rw [HR.out]; exact B1⟩

set_option maxRecDepth 10000 in
set_option maxHeartbeats 1000000 in
theorem containsFunc_c {a : Option Addr} {cap : Nat} {xs : List MW} (w : World) (h : MsP w a xs) (hw : ∀ x ∈ xs, wfX x) (hl : xs.length ≤ 1048576) :
    Calls Try.prog 23 #[.slice a xs.length cap, .func (.func 24) #[] #[]] w (RetBel (.bool (!xs.all okB)) w) := by
  have C := Lib.hid (indexFunc_c (cap := cap) (p := fun x => !okB x) (caps := #[]) w h hw hl enter_isBody1 (fun W x _ hx => isBody1_c hx W))
  clear h hw hl
  go_enter Try.func23, Try.ntmps23
  go_wp2_with fail
  refine C.out.mono ?_
  rintro e w1 ⟨⟨i, rfl, hi⟩, b1⟩
  have E : (decide (i ≥ 0)) = !xs.all okB := by
    rcases hi with ⟨rfl, hall⟩ | ⟨k, rfl, hk, hp, _⟩
    · rw [show xs.all okB = true from List.all_eq_true.2 fun x hx => by simpa using hall x hx]; rfl
    · rw [show xs.all okB = false from not_all hk (by simpa using hp hk)]; simp
  clear hi
  go_wp2_with fail
  go_ret
  exact ⟨by simp, b1⟩

set_option maxRecDepth 10000 in
set_option maxHeartbeats 1000000 in
theorem isBodyImpl_c {a : Option Addr} {cap : Nat} {xs : List MW} (w : World) (h : MsP w a xs) (hw : ∀ x ∈ xs, wfX x) (hl : xs.length ≤ 1048576) :
    Calls Try.prog 16 #[.agg #[.slice a xs.length cap]] w (RetBel (.bool (okL xs)) w) := by
  have B0 : Below w.heap.size w (w.alloc (.cells #[.slice a xs.length cap] 30)) := (Below.refl _ _).alloc (Nat.le_refl _) _
  have L0 := Lib.hid (fun w' hb => containsFunc_c (cap := cap) w' (h.below hb) hw hl)
  clear h hw
  rcases Nat.lt_or_ge 16 xs.length with hlt | hge
  · have d1 : decide ((xs.length : Int) ≤ 16) = false := by simp; omega
    have e : okL xs = false := by unfold okL; rw [show decide (xs.length ≤ 16) = false by simp; omega]; simp
    rw [e]
    clear e
    go_enter Try.func16, Try.ntmps16
    go_wp2_with fail
    go_ret
    exact ⟨rfl, B0⟩
  · have d1 : decide ((xs.length : Int) ≤ 16) = true := by simp; omega
    have e : okL xs = xs.all okB := by unfold okL; rw [show decide (xs.length ≤ 16) = true by simp; omega]; simp
    rw [e]
    clear e
    go_enter Try.func16, Try.ntmps16
    go_wp2_with fail
    refine (L0.out _ B0).mono ?_
    rintro e w1 ⟨rfl, b1⟩
    have B1 := B0.trans (b1.mono B0.size)
    go_wp2_with fail
    go_ret
    exact ⟨by simp, B1⟩
end Go.Proofs.Ytfhaopdaakjghaa
