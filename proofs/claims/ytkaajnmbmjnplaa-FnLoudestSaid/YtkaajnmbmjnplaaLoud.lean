import Derived.Test.YtkaajnmbmjnplaaRingR
import Derived.Test.YtkaajnmbmjnplaaEnergy
import Derived.Deep.QuietTactic
import Derived.BigQuiet
namespace Go.Proofs.Ytkaajnmbmjnplaa
open Go.RowKit Go.Fl Go.BigFrame

theorem ringW_lim {xs : List MW} {inp : List Nat} (hm : ∀ m ∈ xs, MLim m) (hl : xs.length ≤ 16) (hi : ∀ x ∈ inp, Lim .f32 1 x) : ∀ x ∈ ringW xs inp 20, Lim .f32 100 x := by
  intro x hx
  unfold ringW at hx
  obtain ⟨i, h1, rfl⟩ := List.mem_map.1 hx
  have h2 := List.mem_range.1 h1
  have hz := (stW_lim (inp := inp) hm hi (i + 1) (by omega)).1
  have hlen := stW_length xs inp (i + 1)
  have h3 := (outW_lim hz (by omega) _ (Nat.le_refl _)).1
  rw [List.take_length] at h3
  exact h3.mono (by omega)

/-- The energy that an ear hears, in words. -/
def enW (xs : List MW) (ls le inp : List Nat) : Nat := energyW (ringW (roomW xs ls le) inp 20)

theorem room_mlim {xs : List MW} {sh : List (List Nat)} (ok : RoomOk xs sh) {s e : Nat} (hs : s < sh.length) (he : e < sh.length) : (∀ m ∈ roomW xs sh[s] sh[e], MLim m) ∧ (roomW xs sh[s] sh[e]).length ≤ 16 := by
  obtain ⟨h1, h2⟩ := roomW_ok ok.ok ok.wf (ok.row _ (List.getElem_mem hs)).1 (ok.row _ (List.getElem_mem he)).1 (ok.row _ (List.getElem_mem hs)).2 (ok.row _ (List.getElem_mem he)).2
  have h3 := h1
  unfold okL at h3
  simp only [Bool.and_eq_true, decide_eq_true_eq] at h3
  exact ⟨fun m hm => MLim.of (h2 m hm) (List.all_eq_true.1 h3.1 m hm), h3.2⟩

theorem en_num {xs : List MW} {sh : List (List Nat)} {inp : List Nat} (ok : RoomOk xs sh) {s e : Nat} (hs : s < sh.length) (he : e < sh.length) (hi : ∀ x ∈ inp, Lim .f32 1 x) :
    rg FloatKind.f64.format (enW xs sh[s] sh[e] inp) ≤ FloatKind.f64.format.infRung := by
  obtain ⟨h1, h2⟩ := room_mlim ok hs he
  have h3 := ringW_lim h1 h2 hi
  have h4 := (energy_lim h3 (by rw [ringW_length]; omega) _ (Nat.le_refl _)).1
  rw [List.take_length, ringW_length] at h4
  exact Nat.le_of_lt (h4.fin64 (by omega))

/-- What an ear hears: a number that any other ear's is held against. -/
def ev (xs : List MW) (ls le inp : List Nat) : Int := iv FloatKind.f64.format (enW xs ls le inp)

/-- A list of numbers that was given back, as EnergyOf reads it. -/
theorem FsP.back {w' : World} {v : Value} {base : Nat} {os : List Nat} (h : w'.ownsRow base 35 1 v os.length (fvals .f32 os)) (hw : ∀ x ∈ os, x < 2 ^ 32) (h0 : 0 < os.length) : ∃ a c, v = .slice a os.length c ∧ FsP w' .f32 a os.length os := by
  obtain ⟨a, c, rfl⟩ := owns_slice h
  cases a with
  | none =>
    rcases h.2 with ⟨_, h1⟩ | ⟨g, c', cur, e, _⟩
    · omega
    · cases e
  | some ad =>
    rcases h.2 with ⟨_, h1⟩ | ⟨g, c', cur, e, _⟩
    · omega
    · have : ad = ⟨g, 0, none⟩ := by injection e with e; injection e
      subst this
      exact ⟨_, _, rfl, FsP.of_owns rfl h hw⟩

def EN (xs : List MW) (sh : List (List Nat)) (inp : List Nat) (s p : Nat) : Nat := enW xs (sh.getD s []) (sh.getD p []) inp
def EV (xs : List MW) (sh : List (List Nat)) (inp : List Nat) (s p : Nat) : Int := iv FloatKind.f64.format (EN xs sh inp s p)

theorem getD_row {sh : List (List Nat)} {p : Nat} (h : p < sh.length) : sh.getD p [] = sh[p] := by
  rw [List.getD_eq_getElem?_getD, List.getElem?_eq_getElem h]; rfl

theorem EN_order {xs : List MW} {sh : List (List Nat)} {inp : List Nat} (ok : RoomOk xs sh) {s p q : Nat} (hs : s < sh.length) (hp : p < sh.length) (hq : q < sh.length) (hi : ∀ x ∈ inp, Lim .f32 1 x) :
    FloatKind.f64.format.order (EN xs sh inp s p) (EN xs sh inp s q) = some (compare (EV xs sh inp s p) (EV xs sh inp s q)) := by
  unfold EV EN
  rw [getD_row hs, getD_row hp, getD_row hq]
  exact order_le (en_num ok hs hp hi) (en_num ok hs hq hi)

/-- A place's ringing, and its energy. -/
theorem heard_c {ma sa ia : Option Addr} {mc sc ic s e : Nat} {xs : List MW} {sh : List (List Nat)} {inp : List Nat} (w : World) (h : RoomP w ma xs sa sh) (ok : RoomOk xs sh) (hs : s < sh.length) (he : e < sh.length) (hi : FsP w .f32 ia inp.length inp) (hin : ∀ x ∈ inp, Lim .f32 1 x) :
    Calls Try.prog 18 #[.agg #[.slice ma xs.length mc, .slice sa sh.length sc], .int .i64 s, .int .i64 e, .slice ia inp.length ic, .int .i64 20] w fun r w' => ∃ a l c, r = .returned (.tuple #[.slice a l c, .bool true]) ∧ Below w.heap.size w w' ∧
      ∀ W, Below w'.heap.size w' W → Calls Try.prog 19 #[.slice a l c] W fun r2 W' => r2 = .returned (.float .f64 (EN xs sh inp s e)) ∧ W' = W := by
  refine (ringRoom_c w h ok hs he hi hin).mono ?_
  rintro r w' ⟨v, rfl, hown, hb⟩
  obtain ⟨m1, m2⟩ := room_mlim ok hs he
  have hl := ringW_lim m1 m2 hin
  obtain ⟨a, c, rfl, hf⟩ := FsP.back hown (fun x hx => (hl x hx).1) (by rw [ringW_length]; omega)
  refine ⟨a, _, c, rfl, hb, fun W hW => ?_⟩
  unfold EN enW
  rw [getD_row hs, getD_row he]
  exact energy_c W (hf.below hW) (by rw [ringW_length]; omega) hl

/-- The loudest ear, as far as P. -/
def Best (f : Nat → Int) (P best : Nat) : Prop := best < P ∧ (∀ p, p < P → f p ≤ f best) ∧ ∀ p, p < best → f p < f best

theorem Best.first (f : Nat → Int) : Best f 1 0 := ⟨by omega, fun p hp => by rw [show p = 0 by omega]; exact Int.le_refl _, fun p hp => by omega⟩
theorem Best.keep {f : Nat → Int} {P best : Nat} (h : Best f P best) (hP : f P ≤ f best) : Best f (P + 1) best :=
  ⟨by have := h.1; omega, fun p hp => by
    rcases Nat.lt_or_eq_of_le (Nat.lt_succ_iff.1 hp) with h1 | h1
    · exact h.2.1 p h1
    · rw [h1]; exact hP, h.2.2⟩
theorem Best.new {f : Nat → Int} {P best : Nat} (h : Best f P best) (hP : f best < f P) : Best f (P + 1) P :=
  ⟨by omega, fun p hp => by
    rcases Nat.lt_or_eq_of_le (Nat.lt_succ_iff.1 hp) with h1 | h1
    · have := h.2.1 p h1; omega
    · rw [h1]; exact Int.le_refl _, fun p hp => by have := h.2.1 p hp; omega⟩

set_option maxRecDepth 10000 in
set_option maxHeartbeats 4000000 in
theorem loudest_c {ma sa ia : Option Addr} {mc sc ic s : Nat} {xs : List MW} {sh : List (List Nat)} {inp : List Nat} (w : World) (h : RoomP w ma xs sa sh) (ok : RoomOk xs sh) (hs : s < sh.length) (hi : FsP w .f32 ia inp.length inp) (hin : ∀ x ∈ inp, Lim .f32 1 x) :
    Calls Try.prog 16 #[.agg #[.slice ma xs.length mc, .slice sa sh.length sc], .int .i64 s, .slice ia inp.length ic, .int .i64 20] w fun r w' => ∃ best : Nat, r = .returned (.tuple #[.int .i64 best, .bool true]) ∧ Best (EV xs sh inp s) sh.length best ∧ Below w.heap.size w w' := by
  have hpl := ok.places
  have RR := Lib.hid (fun w' (hb : Below w.heap.size w w') e (he : e < sh.length) => heard_c (mc := mc) (sc := sc) (ic := ic) w' (h.below hb) ok hs he (hi.below hb) hin)
  have OD := Lib.hid (fun p q (hp : p < sh.length) (hq : q < sh.length) => EN_order ok hs hp hq hin)
  have u3 := under3
  have dl : decide ((sh.length : Int) > 0) = true := by simp; omega
  clear h ok hi hin
  generalize EV xs sh inp s = f at *
  generalize EN xs sh inp s = en at *
  go_enter Try.func16, Try.ntmps16
  go_upto_region 1 with fail
  have B0 := Lib.hid (show Below w.heap.size w (w.alloc (.cells #[.slice ma xs.length mc, .slice sa sh.length sc] 42)) from (Below.refl _ _).alloc (Nat.le_refl _) _)
  have P0 := Lib.hid (heap_alloc_new w (.cells #[.slice ma xs.length mc, .slice sa sh.length sc] 42))
  have hs0 : w.heap.size < (w.alloc (.cells #[.slice ma xs.length mc, .slice sa sh.length sc] 42)).heap.size := by rw [World.size_alloc]; omega
  generalize w.alloc (.cells #[.slice ma xs.length mc, .slice sa sh.length sc] 42) = W0 at *
  have c1 := cur_cell P0.out 1
  simp at c1
  go_wp2_with fail
  go_loopw [10, 11, 19] (fun b m i wr => ∃ P best : Nat, i = .int .i64 P ∧ P ≤ sh.length ∧ b = .int .i64 best ∧ ((P = 0 ∧ best = 0) ∨ (0 < P ∧ m = .float .f64 (en best) ∧ Best f P best)) ∧ Hid (wr.heap[w.heap.size]? = some (.cells #[.slice ma xs.length mc, .slice sa sh.length sc] 42 (0, 0))) ∧ Hid (Below w.heap.size w wr) ∧ w.heap.size < wr.heap.size) (fun _ _ i _ => sh.length - (intOf i).toNat)
  case atStart => exact ⟨0, 0, rfl, Nat.zero_le _, rfl, Or.inl ⟨rfl, rfl⟩, P0, B0, hs0⟩
  case round =>
    clear P0 B0 hs0 c1
    obtain ⟨P, best, rfl, hP, rfl, hst, hR, hB, hsz⟩ := hrel
    have c0 := cur_cell hR.out 0
    have c1 := cur_cell hR.out 1
    simp at c0 c1
    rcases Nat.lt_or_eq_of_le hP with hlt | heq
    · have d1 : decide ((P : Int) < (sh.length : Int)) = true := by simpa using hlt
      go_wp2_with fail
      refine (RR.out _ hB.out P hlt).mono ?_
      rintro r W1 ⟨a, l, c, rfl, b1, hen⟩
      have HEN := Lib.hid hen
      have R1 := Lib.hid ((b1.block _ hsz).trans hR.out)
      have B1 := Lib.hid (hB.out.trans (b1.mono hB.out.size))
      have hsz1 := Nat.lt_of_lt_of_le hsz b1.size
      clear hen b1 c0 c1 hR hB
      go_wp2_with fail
      refine (HEN.out _ (Below.refl _ _)).mono ?_
      rintro r W2 ⟨rfl, e2⟩
      rw [← e2] at R1 B1 hsz1
      clear e2 HEN
      rcases hst with ⟨rfl, rfl⟩ | ⟨h0, rfl, hbest⟩
      · go_wp2_with fail
        exact ⟨⟨1, 0, by go_num, hlt, rfl, Or.inr ⟨by omega, rfl, Best.first _⟩, R1, B1, hsz1⟩, by simp [intOf]; omega⟩
      · have d2 : decide ((P : Int) = 0) = false := by simp; omega
        have ho := OD.out P best hlt (by have := hbest.1; omega)
        have HB := Lib.hid hbest
        clear hbest
        cases hgt : (FloatKind.f64.format.order (en P) (en best) == some .gt)
        case false =>
          have hk : f P ≤ f best := by
            rw [ho] at hgt
            cases hc : compare (f P) (f best) with
            | gt => rw [hc] at hgt; cases hgt
            | lt => rw [Int.compare_eq_lt] at hc; omega
            | eq => rw [Int.compare_eq_eq] at hc; omega
          have HK := Lib.hid hk
          clear ho hk
          go_wp2_with fail
          exact ⟨⟨P + 1, best, by go_num, hlt, rfl, Or.inr ⟨by omega, rfl, HB.out.keep HK.out⟩, R1, B1, hsz1⟩, by simp [intOf]; omega⟩
        case true =>
          have hk : f best < f P := by
            rw [ho] at hgt
            cases hc : compare (f P) (f best) with
            | gt => rw [Int.compare_eq_gt] at hc; exact hc
            | lt => rw [hc] at hgt; cases hgt
            | eq => rw [hc] at hgt; cases hgt
          have HK := Lib.hid hk
          clear ho hk
          go_wp2_with fail
          exact ⟨⟨P + 1, P, by go_num, hlt, rfl, Or.inr ⟨by omega, rfl, HB.out.new HK.out⟩, R1, B1, hsz1⟩, by simp [intOf]; omega⟩
    · subst heq
      have d1 : decide ((sh.length : Int) < (sh.length : Int)) = false := by simp
      rcases hst with ⟨h0, _⟩ | ⟨_, rfl, hbest⟩
      · omega
      · go_upto_region 12 with fail
        go_big_quiet (fail)
        go_wp2_with fail
        go_ret2
        exact ⟨best, rfl, hbest, below_drewN' hB.out _⟩
end Go.Proofs.Ytkaajnmbmjnplaa
