import Derived.Test.YtjamceoofgfokaaDoorFmt
import Derived.Laws.NewBlocks
import Derived.Laws.BytesArg
import Derived.Lib.ItoaNum
namespace Go.Proofs.YtjamceoofgfokaaDoor
open Go.RowKit Go.Fl

/-- A call that gives a text; what lay below stays. -/
def RetS (l : List UInt8) (w : World) (e : Ending) (w' : World) : Prop := e = .returned (.string ⟨l.toArray⟩) ∧ Below w.heap.size w w'

theorem under54 : Tryd.prog.underlying 54 = some (.slice 5) := by kernel_rfl
theorem under5 : Tryd.prog.underlying 5 = some (.int .u8) := by kernel_rfl
theorem under9 : Tryd.prog.underlying 9 = some .string := by kernel_rfl

/-- The last digit of a number. -/
def digitOf (k : Nat) : UInt8 := UInt8.ofNat (48 + k % 10)

/-- A byte made into a text. -/
theorem conv_byte (W : World) (k : Nat) : (convert 54 9 (.slice (some ⟨W.heap.size, 0, none⟩) 1 1)).run Tryd.prog (W.alloc (.cells #[.int .u8 (48 + (k : Int) % 10)] 5)) = .ok (.string ⟨[digitOf k].toArray⟩) (W.alloc (.cells #[.int .u8 (48 + (k : Int) % 10)] 5)) := by
  rw [run_convert_bytes_arg _ _ _ under54 under5 W.heap.size 0 1 1 [48 + (k : Int) % 10] rfl (fun i hi => by
    obtain rfl : i = 0 := by omega
    have := new_one W (.int .u8 (48 + (k : Int) % 10)) 5 0 _ rfl
    exact this) _ under9]
  have e : (48 + (k : Int) % 10).toNat = 48 + k % 10 := by omega
  unfold strOfNums digitOf
  rw [List.map_cons, e]
  rfl

theorem cat_bytes (l m : List UInt8) : (⟨l.toArray⟩ : ByteArray) ++ ⟨m.toArray⟩ = ⟨(l ++ m).toArray⟩ := by
  apply ByteArray.ext
  simp

theorem decDigits_step {k : Nat} : Lib.decDigits k = if k / 10 = 0 then [digitOf k] else Lib.decDigits (k / 10) ++ [digitOf k] := by
  rw [Lib.decDigits]
  by_cases h : k < 10
  · rw [dif_pos h, if_pos (by omega)]
    unfold digitOf
    rw [Nat.mod_eq_of_lt h]
  · rw [dif_neg h, if_neg (by omega)]
    rfl

theorem nDigits_le : ∀ (k u : Nat), u < 10 ^ (k + 1) → Lib.nDigits u ≤ k + 1
  | 0, u, h => by rw [Lib.nDigits_small (by simpa using h)]; omega
  | k + 1, u, h => by
    by_cases h1 : u < 10
    · rw [Lib.nDigits_small h1]; omega
    · rw [Lib.nDigits_big h1]
      have := nDigits_le k (u / 10) (by rw [Nat.pow_succ] at h; omega)
      omega

theorem itoa_length {n : Int} (h1 : -9223372036854775808 ≤ n) (h2 : n ≤ 9223372036854775807) : (Lib.itoa n).length ≤ 20 := by
  unfold Lib.itoa
  split
  · rw [List.length_cons, Lib.decDigits_length]
    have := nDigits_le 18 n.natAbs (by omega)
    omega
  · rw [Lib.decDigits_length]
    have := nDigits_le 18 n.toNat (by omega)
    omega

/-- What the loop of l1Number keeps. -/
def NumRel (N : Nat) (w : World) (n o : Value) (wr : World) : Prop :=
  ∃ (k : Nat) (l : List UInt8), n = .int .i64 k ∧ o = .string ⟨l.toArray⟩ ∧ k ≤ 9223372036854775807 ∧ (k = 0 ∨ k * 10 ^ l.length ≤ 9223372036854775807) ∧ l.length ≤ 40 ∧ (if k = 0 then Lib.decDigits N = l else Lib.decDigits N = Lib.decDigits k ++ l) ∧ Below w.heap.size w wr

set_option maxRecDepth 10000 in
set_option maxHeartbeats 1000000 in
theorem l1Number_nat {N : Nat} (h : N ≤ 9223372036854775807) (w : World) :
    Calls Tryd.prog 19 #[.int .i64 N] w (RetS (Lib.decDigits N) w) := by
  have cb := conv_byte
  have d0 : decide ((N : Int) < 0) = false := by simp
  go_enter Tryd.func19, Tryd.ntmps19
  go_wp2
  go_loopw [0, 3] (fun n o wr => NumRel N w n o wr) (fun n _ _ => (intOf n).toNat)
  case atStart =>
    refine ⟨N / 10, [digitOf N], by go_num, rfl, by omega, ?_, by simp, ?_, (Below.refl _ _).alloc (Nat.le_refl _) _⟩
    · right; simp; omega
    · rw [decDigits_step (k := N)]
      split <;> rfl
  case round =>
    obtain ⟨k, l, rfl, rfl, hk, hb, hl, hd, B⟩ := hrel
    rcases Nat.eq_zero_or_pos k with rfl | hp
    · rw [if_pos rfl] at hd
      have D := Lib.hid hd
      clear hd hb
      go_wp2
      go_ret
      exact ⟨by rw [D.out]; rfl, B⟩
    · rw [if_neg (by omega)] at hd
      have hb' : k * 10 ^ l.length ≤ 9223372036854775807 := by rcases hb with h | h; omega; exact h
      have D := Lib.hid (And.intro hd hb')
      clear hd hb hb'
      have d1 : decide ((0 : Int) < (k : Int)) = true := by simp; omega
      have cat : (⟨#[digitOf k]⟩ : ByteArray) ++ ⟨l.toArray⟩ = ⟨(digitOf k :: l).toArray⟩ := cat_bytes [digitOf k] l
      have sz : (⟨l.toArray⟩ : ByteArray).size ≤ 40 := hl
      go_wp2
      obtain ⟨D1, D2⟩ := D.out
      have hle : l.length < 19 := by
        refine (Nat.pow_lt_pow_iff_right (a := 10) (by decide)).1 ?_
        have := Nat.le_mul_of_pos_left (10 ^ l.length) hp
        omega
      refine ⟨⟨k / 10, digitOf k :: l, by go_num, rfl, by omega, ?_, by simp; omega, ?_, B.alloc B.size _⟩, by show ((k : Int) / 10).toNat < (k : Int).toNat; omega⟩
      · right
        rw [List.length_cons, Nat.pow_succ, Nat.mul_comm (10 ^ l.length), ← Nat.mul_assoc]
        exact Nat.le_trans (Nat.mul_le_mul_right _ (by omega)) D2
      · rw [D1, decDigits_step (k := k)]
        split
        · rfl
        · rw [List.append_assoc]; rfl

set_option maxRecDepth 10000 in
set_option maxHeartbeats 1000000 in
theorem l1Number_c {n : Int} (h1 : -9223372036854775807 ≤ n) (h2 : n ≤ 9223372036854775807) (w : World) :
    Calls Tryd.prog 19 #[.int .i64 n] w (RetS (Lib.itoa n) w) := by
  rcases Int.lt_or_le n 0 with hn | hn
  · obtain ⟨N, rfl⟩ : ∃ N : Nat, n = -(N : Int) := ⟨n.natAbs, by omega⟩
    have hN : N ≤ 9223372036854775807 := by omega
    have hp : 0 < N := by omega
    have d0 : decide (0 < N) = true := by simpa using hp
    have d0' : decide (-(N : Int) < 0) = true := by simp; omega
    have hd : Hid (Lib.itoa (-(N : Int)) = 45 :: Lib.decDigits N) := Lib.hid (by
      unfold Lib.itoa
      rw [if_pos hn, Int.natAbs_neg, Int.natAbs_natCast])
    have hlen : (⟨(Lib.decDigits N).toArray⟩ : ByteArray).size ≤ 40 := by
      have := itoa_length (n := (N : Int)) (by omega) (by omega)
      unfold Lib.itoa at this
      rw [if_neg (by omega), Int.toNat_natCast] at this
      show (Lib.decDigits N).length ≤ 40
      omega
    have cat : (⟨#[45]⟩ : ByteArray) ++ ⟨(Lib.decDigits N).toArray⟩ = ⟨(45 :: Lib.decDigits N).toArray⟩ := cat_bytes [45] _
    have hlen3 : (9223372036854775807 < 1 + (Lib.decDigits N).length) = False := by
      have h3 : (Lib.decDigits N).length ≤ 40 := hlen
      simp; omega
    clear hn hlen
    go_enter Tryd.func19, Tryd.ntmps19
    go_wp2_with (go_at_call 19; refine (l1Number_nat hN _).mono ?_; rintro e w1 ⟨rfl, b1⟩)
    go_ret
    exact ⟨by rw [hd.out]; rfl, b1⟩
  · obtain ⟨N, rfl⟩ : ∃ N : Nat, n = (N : Int) := ⟨n.toNat, by omega⟩
    have e : Lib.itoa (N : Int) = Lib.decDigits N := by
      unfold Lib.itoa
      rw [if_neg (by omega), Int.toNat_natCast]
    rw [e]
    exact l1Number_nat (by omega) w
end Go.Proofs.YtjamceoofgfokaaDoor
