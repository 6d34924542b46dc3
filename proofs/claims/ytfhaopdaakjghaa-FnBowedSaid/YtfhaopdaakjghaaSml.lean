import Derived.Test.YtfhaopdaakjghaaForce
import Derived.Test.YtfhaopdaakjghaaRoomG
import Derived.Test.YtfhaopdaakjghaaDraw
namespace Go.Proofs.Ytfhaopdaakjghaa
open Go.RowKit Go.Fl

/-- The number for a drawn one. -/
def smlT (r : Nat) : Nat := (floatBits .mul .f32 1090519040 (floatOfInt .f32 ((r : Int) - 1000))).getD 0
def sml (r : Nat) : Nat := (floatBits .quo .f32 (smlT r) 1148846080).getD 0
theorem sml_all : ∀ r : Fin 2001, floatBits .mul .f32 1090519040 (floatOfInt .f32 ((r.val : Int) - 1000)) = some (smlT r.val) ∧ floatBits .quo .f32 (smlT r.val) 1148846080 = some (sml r.val) ∧ sml r.val < 2 ^ 32 ∧ rg Ieee.single (sml r.val) ≤ 1090519040 := by decide +kernel
theorem sml_eq {r : Nat} (h : r < 2001) : floatBits .mul .f32 1090519040 (floatOfInt .f32 ((r : Int) - 1000)) = some (smlT r) ∧ floatBits .quo .f32 (smlT r) 1148846080 = some (sml r) ∧ Lim .f32 3 (sml r) := by
  have := sml_all ⟨r, h⟩
  refine ⟨this.1, this.2.1, this.2.2.1, ?_⟩
  show rg Ieee.single (sml r) ≤ pwr .f32 3
  rw [show pwr .f32 3 = 1090519040 by decide]
  exact this.2.2.2

theorem info35'' : (Try.prog.info? 25).map (fun i => (i.zero, i.size, i.bytes)) = some (some (.float .f32 0), 1, 4) := by kernel_rfl
theorem slice44'' : Try.prog.underlying 23 = some (.slice 25) := by kernel_rfl

/-- A call that gives some small numbers. -/
def RetSmall (w : World) (e : Ending) (w' : World) : Prop :=
  ∃ a cap inp, e = .returned (.slice a inp.length cap) ∧ FsP w' .f32 a inp.length inp ∧ (∀ x ∈ inp, Lim .f32 3 x) ∧ Below w.heap.size w w'

set_option maxRecDepth 10000 in
set_option maxHeartbeats 2000000 in
theorem makeSmall_c {a : Option Addr} {len cap : Nat} (w : World) (h : BsP w a len) (hl : len ≤ 1048576) :
    Calls Try.prog 4 #[.slice a len cap, .float .f32 1090519040] w (RetSmall w) := by
  have H := Lib.hid h
  clear h
  obtain ⟨i0, hi, hz0, hz1, hz2⟩ := info_parts' info35''
  have u3 := under3
  go_enter Try.func4, Try.ntmps4
  go_wp2_with fail
  refine (l01New_c _ H.out hl).mono ?_
  rintro e W9 ⟨rfl, c1, b1⟩
  generalize hb : w.heap.size = b at *
  have HB := Lib.hid hb
  have C9 := Lib.hid c1
  have hbr : b < W9.heap.size := c1.lt
  have B9 := Lib.hid b1
  clear c1 b1
  go_upto_region 3 with fail
  have RW := Lib.hid (World.ownsRow_made (base := W9.heap.size) (e := 25) (size := 1) (w := W9) #[] 0 (Nat.le_refl _) (by unfold maxLen; omega) (by simp))
  have gA : W9.grownBy (W9.alloc (.cells #[] 25)) (some b) := grownBy_alloc _ _ _
  have CA := C9.out.alloc (.cells #[] 25)
  generalize W9.alloc (.cells #[] 25) = W4 at *
  go_wp2_with fail
  refine (l01Below_c 12 (by omega) (by omega) _ CA).mono ?_
  rintro e W5 ⟨r, rfl, r0, r1, d5⟩
  obtain ⟨j0, rfl⟩ : ∃ j : Nat, r = j := ⟨r.toNat, by omega⟩
  have R5 := Lib.hid (own_grown RW.out d5.2 (fun g e => by injection e; omega))
  have G5 := Lib.hid (grownBy_trans gA d5.2)
  have C5 := Lib.hid d5.1
  clear RW gA CA d5
  go_wp2_with fail
  go_loopw [6, 7] (fun v p wx => ∃ (j : Nat) (l : List Nat), p = .int .i64 j ∧ l.length + j ≤ 11 ∧ Hid (∀ x ∈ l, Lim .f32 3 x) ∧ Hid (wx.ownsRow W9.heap.size 25 1 v l.length (fvals .f32 l)) ∧ Hid (W9.grownBy wx (some b)) ∧ Hid (CurP wx b a len cap)) (fun _ p _ => (intOf p).toNat)
  case atStart => exact ⟨j0, [], rfl, by simp; omega, Lib.hid (by simp), R5, G5, C5⟩
  case round =>
    clear R5 G5 C5
    obtain ⟨j, l, rfl, hjl, hlim, hown, hg, hc⟩ := hrel
    rcases Nat.eq_zero_or_pos j with h0 | h0
    · subst h0
      have d1 : decide (((0 : Nat) : Int) > 0) = false := by decide
      go_wp2_with fail
      go_ret
      obtain ⟨ra, rc, rfl⟩ := owns_slice hown.out
      refine ⟨ra, rc, l, rfl, fsP_own hown.out (fun x hx => (hlim.out x hx).1), hlim.out, ?_⟩
      rw [HB.out]
      exact B9.out.grown hg.out (by omega) (fun k hk => by injection hk; omega)
    · have d1 : decide ((j : Int) > 0) = true := by simp; omega
      go_wp2_with fail
      refine (l01Below_c 2001 (by omega) (by omega) _ hc.out).mono ?_
      rintro e W5 ⟨r, rfl, r0, r1, d5⟩
      obtain ⟨k, rfl⟩ : ∃ k : Nat, r = k := ⟨r.toNat, by omega⟩
      obtain ⟨q1, q2, q3⟩ := sml_eq (r := k) (by omega)
      have hq := fun W => run_float_arith (P := Try.prog) W .mul 25 .f32 _ _ _ q1
      have hq2 := fun W => run_float_arith (P := Try.prog) W .quo 25 .f32 _ _ _ q2
      have hw : IntKind.i64.wrap ((k : Int) - 1000) = (k : Int) - 1000 := by rw [IntKind.wrap_i64]; omega
      have Q3 := Lib.hid q3
      have own5 := own_grown hown.out d5.2 (fun g e => by injection e; omega)
      have G5 := Lib.hid (grownBy_trans hg.out d5.2)
      have C5 := Lib.hid d5.1
      have hz5 : W9.heap.size ≤ W5.heap.size := (grownBy_trans hg.out d5.2).size
      clear q1 q2 q3 d5 hown hg hc
      generalize sml k = wk at *
      generalize smlT k = tk at *
      go_wp2_with (at_builtin; refine wpList_append_own _ rfl _ _ 23 rfl W9.heap.size 25 i0 (.float .f32 0) 1 4 slice44'' hi hz0 hz1 hz2 rfl (by decide) _ _ _ rfl (own5.alloc _) _ 1 1 [_] rfl rfl (new_one _ _ _) (one_ok rfl) (by unfold maxLen; omega) (by omega) (by rw [World.size_alloc]; omega) ?_; intro v' w1 hown1 hgrow1 _)
      have hgrow2 : (W5.alloc (.cells #[.float .f32 wk] 25)).grownBy w1 u6.ownBlock := hgrow1
      have hsz5 : W5.heap.size ≤ w1.heap.size := by have := hgrow2.size; rw [World.size_alloc] at this; omega
      have hne : ∀ k, k < W9.heap.size → some k ≠ u6.ownBlock := fun k hk e => by have := (own5.lt k e.symm).1; omega
      have hold : ∀ k, k < W9.heap.size → w1.heap[k]? = W5.heap[k]? := fun k hk => by
        rw [hgrow2.block k (by rw [World.size_alloc]; omega) (hne k hk), heap_alloc_old W5 _ (by omega)]
      have g9 : W9.grownBy w1 (some b) := ⟨hgrow2.os.trans G5.out.os, hgrow2.tape.trans G5.out.tape, hgrow2.output.trans G5.out.output, by omega, fun k hk hkb => (hold k hk).trans (G5.out.block k hk hkb)⟩
      have c9 : CurP w1 b a len cap := curP_moved C9.out C5.out (hold b hbr) (fun k hk hkb => (hold k hk).trans (G5.out.block k hk (fun e => hkb (by injection e)))) (by omega)
      refine ⟨⟨j - 1, l ++ [wk], by go_num, by simp; omega, Lib.hid (fun x hx => ?_), Lib.hid ?_, Lib.hid g9, Lib.hid c9⟩, by simp [intOf]; omega⟩
      · rcases List.mem_append.1 hx with h | h
        · exact hlim.out x h
        · rw [List.mem_singleton.1 h]; exact Q3.out
      · unfold fvals
        rw [List.map_append, List.length_append]
        exact hown1
/-- One byte, whatever world comes after. -/
theorem at_ready {a : Option Addr} {len cap : Nat} (w : World) (h : BsP w a len) : ∃ r : Nat, r ≤ 255 ∧ ∀ W, Below w.heap.size w W →
    Calls Try.prog 5 #[.slice a len cap, .int .i64 1] W (fun e w' => e = .returned (.int .i64 r) ∧ w' = W) := by
  have u3 := under3
  by_cases hlt : 1 < len
  · obtain ⟨b, off, x, rfl, hc, x0, x1, hb⟩ := h 1 hlt
    have d1 : decide (1 < (len : Int)) = true := by simp; omega
    refine ⟨x.toNat, by omega, fun W hW => ?_⟩
    have hc : W.cell? ⟨b, off + 1, none⟩ = some (.int .u8 x) := (hW.cell (p := ⟨b, off + 1, none⟩) hb).trans hc
    clear h
    go_enter Try.func5, Try.ntmps5
    go_wp2
    go_ret
    refine ⟨?_, rfl⟩
    rw [show ((x.toNat : Nat) : Int) = x by omega]
    rfl
  · have d1 : decide (1 < (len : Int)) = false := by simp; omega
    refine ⟨((1 * 37 + len * 11) % 256), by omega, fun W hW => ?_⟩
    clear h
    have hl : len ≤ 1 := by omega
    go_enter Try.func5, Try.ntmps5
    go_wp2
    go_ret
    exact ⟨rfl, rfl⟩


/-- The grip for a byte. -/
def grp (r : Nat) : Nat := (floatBits .quo .f32 (floatOfInt .f32 r) 1107296256).getD 0
theorem grp_all : ∀ r : Fin 256, floatBits .quo .f32 (floatOfInt .f32 r.val) 1107296256 = some (grp r.val) ∧ sg Ieee.single (grp r.val) = false ∧ rg Ieee.single (grp r.val) ≤ 1090519040 ∧ grp r.val < 2 ^ 32 := by decide +kernel
theorem grp_eq {r : Nat} (h : r ≤ 255) : floatBits .quo .f32 (floatOfInt .f32 r) 1107296256 = some (grp r) ∧ Lim .f32 3 (grp r) ∧ sg Ieee.single (grp r) = false := by
  have := grp_all ⟨r, by omega⟩
  refine ⟨this.1, ⟨this.2.2.2, ?_⟩, this.2.1⟩
  show rg Ieee.single (grp r) ≤ pwr .f32 3
  rw [show pwr .f32 3 = 1090519040 by decide]
  exact this.2.2.1

end Go.Proofs.Ytfhaopdaakjghaa
