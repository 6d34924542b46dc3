import Derived.Test.YtfhaopdaakjghaaSame
import Derived.Test.YtfhaopdaakjghaaRegion
import Derived.Deep.QuietTactic
import Derived.BigQuiet
namespace Go.Proofs.Ytfhaopdaakjghaa
open Go.RowKit Go.Fl

/-- A slice of bytes: what a walk is told of it (the bytes' values are of no matter). -/
def BsP (w : World) (a : Option Addr) (len : Nat) : Prop := ∀ i, i < len → ∃ b off x, a = some ⟨b, off, none⟩ ∧ w.cell? ⟨b, off + i, none⟩ = some (.int .u8 x) ∧ 0 ≤ x ∧ x ≤ 255 ∧ b < w.heap.size

/-- A cursor over a slice of bytes: three cells of block b. -/
def CurP (w : World) (b : Nat) (a : Option Addr) (len cap : Nat) : Prop :=
  ∃ i h : Int, w.heap[b]? = some (.cells #[.slice a len cap, .int .i64 i, .int .i64 h] 50 (0, 0)) ∧ 0 ≤ i ∧ i ≤ len ∧ BsP w a len ∧ len ≤ 1048576 ∧ (∀ i, i < len → ∀ x, a = some x → x.block ≠ b)

/-- What a draw from a cursor leaves: the cursor, and all other blocks as they were. -/
def Drawn (b : Nat) (a : Option Addr) (len cap : Nat) (w : World) (w' : World) : Prop := CurP w' b a len cap ∧ w.grownBy w' (some b)

theorem grownBy_drewN {w w' : World} {row : Option Nat} (h : w.grownBy w' row) (n : Nat) : w.grownBy (w'.drewN n) row := ⟨h.os, h.tape, h.output, h.size, h.block⟩

theorem grownBy_trans {a b c : World} {row : Option Nat} (h : a.grownBy b row) (k : b.grownBy c row) : a.grownBy c row :=
  ⟨k.os.trans h.os, k.tape.trans h.tape, k.output.trans h.output, Nat.le_trans h.size k.size, fun i hi hne => (k.block i (Nat.lt_of_lt_of_le hi h.size) hne).trans (h.block i hi hne)⟩

theorem BsP.grown {w w' : World} {b : Nat} {a : Option Addr} {len : Nat} (h : BsP w a len) (hb : ∀ i, i < len → ∀ x, a = some x → x.block ≠ b) (hg : w.grownBy w' (some b)) : BsP w' a len := fun i hi => by
  obtain ⟨b1, off, x, h1, h2, h3, h4, h5⟩ := h i hi
  refine ⟨b1, off, x, h1, ?_, h3, h4, Nat.lt_of_lt_of_le h5 hg.size⟩
  rw [World.cell?_of_block (w := w) (hg.block b1 h5 (fun e => hb i hi _ h1 (by simpa using e)))]
  exact h2

theorem cur_cell {w : World} {b : Nat} {c : Array Value} {t : TypeId} (h : w.heap[b]? = some (.cells c t (0, 0))) (k : Nat) : w.cell? ⟨b, k, none⟩ = c[k]? := by
  unfold World.cell?
  rw [h]
  rfl

theorem cur_free {w : World} {b : Nat} {c : Array Value} {t : TypeId} (h : w.heap[b]? = some (.cells c t (0, 0))) (k : Nat) : w.frozen? ⟨b, k, none⟩ = false := by
  unfold World.frozen?
  rw [h]
  simp

theorem cur_set {w : World} {b : Nat} {c : Array Value} {t : TypeId} (h : w.heap[b]? = some (.cells c t (0, 0))) (k : Nat) (v : Value) : (w.setCell ⟨b, k, none⟩ v).heap[b]? = some (.cells (c.setIfInBounds k v) t (0, 0)) := by
  simp only [World.setCell, Array.getElem?_modify, if_true, h, Option.map_some]
  rfl

theorem cur_grown (w : World) (b k : Nat) (v : Value) : w.grownBy (w.setCell ⟨b, k, none⟩ v) (some b) :=
  ⟨rfl, rfl, rfl, by simp [World.setCell], fun j _ hj => Below.heap_setCell _ _ _ _ (fun e => hj (by simp [e]))⟩

theorem and_mask (a m : Int) (h0 : 0 ≤ m) (h1 : m < 4294967296) : 0 ≤ bits .and .i64 a m ∧ bits .and .i64 a m ≤ m := by
  obtain ⟨k, rfl⟩ : ∃ k : Nat, m = k := ⟨m.toNat, by omega⟩
  have hk : k < 4294967296 := by omega
  have hb : (BitVec.ofInt 64 (k : Int)).toNat = k := by
    simp
    omega
  have hle : (BitVec.ofInt 64 a &&& BitVec.ofInt 64 (k : Int)).toNat ≤ k := by
    rw [BitVec.toNat_and, hb]
    exact Nat.and_le_right
  unfold bits
  show 0 ≤ IntKind.i64.wrap ((BitVec.ofInt 64 a &&& BitVec.ofInt 64 (k : Int)).toNat : Int) ∧ IntKind.i64.wrap ((BitVec.ofInt 64 a &&& BitVec.ofInt 64 (k : Int)).toNat : Int) ≤ k
  generalize (BitVec.ofInt 64 a &&& BitVec.ofInt 64 (k : Int)).toNat = x at hle
  rw [IntWalk.i64_in _ (by omega)]
  omega

/-- A call that draws a number from lo up to below hi. -/
def DrawsInt (lo hi : Int) (b : Nat) (a : Option Addr) (len cap : Nat) (w : World) (e : Ending) (w' : World) : Prop := ∃ r : Int, e = .returned (.int .i64 r) ∧ lo ≤ r ∧ r < hi ∧ Drawn b a len cap w w'

set_option maxHeartbeats 1000000 in
theorem l01Byte_c {b : Nat} {a : Option Addr} {len cap : Nat} (w : World) (h : CurP w b a len cap) :
    Calls Try.prog 19 #[.pointer (some ⟨b, 0, none⟩)] w (DrawsInt 0 256 b a len cap w) := by
  obtain ⟨i, h0, hh, hi0, hil, hbs, hlen, hne⟩ := h
  have c0 := cur_cell hh 0
  have c1 := cur_cell hh 1
  have c2 := cur_cell hh 2
  simp at c0 c1 c2
  have f1 := cur_free hh 1
  have f2 := cur_free hh 2
  go_enter Try.func19, Try.ntmps19
  have HH := Lib.hid hh
  have HN := Lib.hid hne
  clear hh hne
  go_wp2
  clear c0 c1 c2 f1 f2
  generalize wrap64 (wrap64 (h0 * 6364136223846793005) + 1442695040888963407) = H
  have HW := cur_set HH.out 2 (.int .i64 H)
  have hg1 := cur_grown w b 2 (.int .i64 H)
  have hbs1 := hbs.grown HN.out hg1
  generalize w.setCell ⟨b, 2, none⟩ (.int .i64 H) = W1 at *
  have c0 := cur_cell HW 0
  have c1 := cur_cell HW 1
  have c2 := cur_cell HW 2
  simp at c0 c1 c2
  have f1 := cur_free HW 1
  replace HW := Lib.hid HW
  replace hg1 := Lib.hid hg1
  clear HH hbs
  go_quiet (fail)
  have hx := and_mask (bits BinOp.xor IntKind.i64 (H / 8589934592) (H / 35184372088832)) 255 (by decide) (by decide)
  generalize bits BinOp.and IntKind.i64 (bits BinOp.xor IntKind.i64 (H / 8589934592) (H / 35184372088832)) 255 = X at *
  obtain ⟨x0, x1⟩ := hx
  go_wp2_with fail
  go_quiet (fail)
  by_cases hlt : i < len
  · obtain ⟨cb, co, y, rfl, hc, y0, y1, _⟩ := hbs1 i.toNat (by omega)
    have hd : decide (i < (len : Int)) = true := by simpa using hlt
    have hi1 : (i.toNat : Int) = i := by omega
    have HB := Lib.hid hbs1
    clear hbs1 hi1
    go_wp2_with fail
    go_quiet (fail)
    have hx := and_mask (X + y) 255 (by decide) (by decide)
    generalize bits BinOp.and IntKind.i64 (X + y) 255 = Z at *
    obtain ⟨z0, z1⟩ := hx
    have hwr : wrap64 (i + 1) = i + 1 := by unfold wrap64; omega
    go_wp2_with fail
    go_ret
    exact ⟨Z, rfl, z0, by omega, ⟨i + 1, H, cur_set (w := W1.drewN _) HW.out 1 (.int .i64 (i + 1)), by omega, by omega, BsP.grown (w := W1.drewN _) HB.out HN.out (cur_grown _ b 1 _), hlen, HN.out⟩, grownBy_trans (grownBy_drewN hg1.out _) (cur_grown _ b 1 _)⟩
  · have hd : decide (i < (len : Int)) = false := by simpa using hlt
    go_wp2_with fail
    go_ret
    exact ⟨X, rfl, x0, by omega, ⟨i, H, HW.out, hi0, hil, hbs1, hlen, HN.out⟩, grownBy_drewN hg1.out _⟩

theorem Drawn.trans {b : Nat} {a : Option Addr} {len cap : Nat} {w w1 w2 : World} (h : Drawn b a len cap w w1) (k : Drawn b a len cap w1 w2) : Drawn b a len cap w w2 := ⟨k.1, grownBy_trans h.2 k.2⟩
theorem Drawn.drewN {b : Nat} {a : Option Addr} {len cap : Nat} {w w1 : World} (h : Drawn b a len cap w w1) (n : Nat) : Drawn b a len cap w (w1.drewN n) := ⟨h.1, grownBy_drewN h.2 n⟩

set_option maxHeartbeats 1000000 in
theorem l01Below_c {b : Nat} {a : Option Addr} {len cap : Nat} (n : Int) (hn : 1 ≤ n) (hn2 : n ≤ 4294967295) (w : World) (h : CurP w b a len cap) :
    Calls Try.prog 13 #[.pointer (some ⟨b, 0, none⟩), .int .i64 n] w (DrawsInt 0 n b a len cap w) := by
  have H := Lib.hid h
  clear h
  by_cases h256 : n ≤ 256
  · go_enter Try.func13, Try.ntmps13
    go_wp2_with fail
    refine (l01Byte_c _ H.out).mono ?_
    rintro e w1 ⟨r, rfl, r0, r1, d1⟩
    have D1 := Lib.hid d1
    clear d1
    go_wp2_with fail
    go_ret
    refine ⟨r % n, ?_, Int.emod_nonneg _ (by omega), Int.emod_lt_of_pos _ (by omega), D1.out⟩
    rfl
  · go_enter Try.func13, Try.ntmps13
    go_wp2_with fail
    refine (l01Byte_c _ H.out).mono ?_
    rintro e w1 ⟨r1, rfl, p1, q1, d1⟩
    have D1 := Lib.hid d1
    clear d1
    go_wp2_with fail
    refine (l01Byte_c _ D1.out.1).mono ?_
    rintro e w2 ⟨r2, rfl, p2, q2, d2⟩
    have D2 := Lib.hid d2
    clear d2
    go_wp2_with fail
    refine (l01Byte_c _ D2.out.1).mono ?_
    rintro e w3 ⟨r3, rfl, p3, q3, d3⟩
    have D3 := Lib.hid d3
    clear d3
    go_wp2_with fail
    refine (l01Byte_c _ D3.out.1).mono ?_
    rintro e w4 ⟨r4, rfl, p4, q4, d4⟩
    have D4 := Lib.hid d4
    clear d4
    go_wp2_with fail
    go_ret
    refine ⟨(r1 * 16777216 + r2 * 65536 + r3 * 256 + r4) % n, ?_, Int.emod_nonneg _ (by omega), Int.emod_lt_of_pos _ (by omega), ((D1.out.trans D2.out).trans D3.out).trans D4.out⟩
    rfl
end Go.Proofs.Ytfhaopdaakjghaa
