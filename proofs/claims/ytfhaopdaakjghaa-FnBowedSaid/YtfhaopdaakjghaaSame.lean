import Derived.Test.YtfhaopdaakjghaaChecked
import Derived.Test.YtfhaopdaakjghaaFloat
import Derived.Lib.Hide
import Derived.WalkSmall
import Derived.Laws.OwnMore
import Derived.Laws.Cover3
namespace Go.Proofs.Ytfhaopdaakjghaa
open Go.RowKit Go.Fl
/-- A call that gives v and leaves the world as it was, but for draws. -/
def Ret (v : Value) (w : World) (e : Ending) (w' : World) : Prop := e = .returned v ∧ ∃ n, w' = w.drewN n

theorem Ret.mk {v : Value} {w : World} {n : Nat} : Ret v w (.returned v) (w.drewN n) := ⟨rfl, n, rfl⟩
theorem Ret.mk0 {v : Value} {w : World} : Ret v w (.returned v) w := ⟨rfl, 0, rfl⟩

theorem same_order {k : FloatKind} {p : Option Nat} {x y : Nat} (hx : FV k p x) (hy : FV k p y) (z : Nat) : k.format.order x z = k.format.order y z := by
  rcases hx.eq_or_nan hy with rfl | rfl
  · rfl
  · rw [order_nan hx, order_nan hy]

/-- A slice of floats that reads as bs: what a walk is told of it. -/
def FsP (w : World) (k : FloatKind) (a : Option Addr) (len : Nat) (bs : List Nat) : Prop :=
  bs.length = len ∧ (∀ i (h : i < bs.length), ∃ b off, a = some ⟨b, off, none⟩ ∧ w.cell? ⟨b, off + i, none⟩ = some (.float k bs[i]) ∧ b < w.heap.size) ∧ ∀ x ∈ bs, x < 2 ^ k.format.width

theorem FsP.below {w w' : World} {k : FloatKind} {a : Option Addr} {len : Nat} {bs : List Nat} (h : FsP w k a len bs) (hb : Below w.heap.size w w') : FsP w' k a len bs :=
  ⟨h.1, fun i hi => by
    obtain ⟨b, off, h1, h2, h3⟩ := h.2.1 i hi
    exact ⟨b, off, h1, by rw [hb.cell (p := ⟨b, off + i, none⟩) h3]; exact h2, Nat.lt_of_lt_of_le h3 hb.size⟩, h.2.2⟩

/-- What the words of a list stand for. -/
def cls (k : FloatKind) (bs : List Nat) : List (Option Nat) := bs.map (cl k)

/-- A call that gives a word that stands for p, and leaves the world as it was, but for draws. -/
def RetF (k : FloatKind) (p : Option Nat) (w : World) (e : Ending) (w' : World) : Prop := ∃ r, e = .returned (.float k r) ∧ FV k p r ∧ ∃ n, w' = w.drewN n

theorem under29 : (Try.prog.underlying 25).isSome = true := by kernel_rfl
theorem under23 : Try.prog.underlying 71 = some (.float .f64) := by kernel_rfl

/-- The first k of vs, zeros behind. -/
def fillV (vs : List Value) (z : Value) (k : Nat) : List Value := vs.take k ++ List.replicate (vs.length - k) z

theorem fillV_set (vs : List Value) (z : Value) {k : Nat} (h : k < vs.length) : (fillV vs z k).set k vs[k] = fillV vs z (k + 1) := by
  unfold fillV
  have hl : (vs.take k).length = k := by rw [List.length_take]; omega
  obtain ⟨m, hm⟩ : ∃ m, vs.length - k = m + 1 := ⟨vs.length - k - 1, by omega⟩
  rw [List.take_succ_eq_append_getElem h, hm, show vs.length - (k + 1) = m by omega, List.replicate_succ, List.set_append_right _ _ (by omega), hl, Nat.sub_self, List.set_cons_zero, List.append_assoc]
  rfl

theorem fillV_zero (vs : List Value) (z : Value) : fillV vs z 0 = List.replicate vs.length z := by simp [fillV]
theorem fillV_all (vs : List Value) (z : Value) : fillV vs z vs.length = vs := by simp [fillV]

def fvals (k : FloatKind) (bs : List Nat) : List Value := bs.map (Value.float k)

theorem FsP.of_owns {w : World} {k : FloatKind} {base g cap n : Nat} {e : TypeId} {bs : List Nat} (hn : n = bs.length) (h : w.ownsRow base e 1 (.slice (some ⟨g, 0, none⟩) n cap) n (fvals k bs)) (hw : ∀ x ∈ bs, x < 2 ^ k.format.width) : FsP w k (some ⟨g, 0, none⟩) n bs := by
  subst hn
  refine ⟨rfl, fun i hi => ⟨g, 0, rfl, ?_, (h.lt g rfl).2⟩, hw⟩
  rw [Nat.zero_add, h.cellAt i (by omega)]
  simp [fvals, hi]

theorem run_store_one {P : Program} {w : World} {a : Addr} {v u : Value} (hv : v.oneCell' = true) (h : w.cell? a = some u) (hf : w.frozen? a = false) : (store a v).run P w = .ok () (w.setCell a v) := by
  rw [run_store P w a v _ hv, h, hf]
  rfl

theorem fillV_get (vs : List Value) (z : Value) {k : Nat} (h : k < vs.length) : (fillV vs z k)[k]? = some z := by
  have hl : (vs.take k).length = k := by rw [List.length_take]; omega
  obtain ⟨m, hm⟩ : ∃ m, vs.length - k = m + 1 := ⟨vs.length - k - 1, by omega⟩
  unfold fillV
  rw [List.getElem?_append_right (by omega), hl, Nat.sub_self, hm]
  rfl

theorem own_da {w : World} {base : Nat} {e : TypeId} {size : Nat} {v : Value} {n : Nat} {xs : List Value} (h : w.ownsRow base e size v n xs) (m : Nat) (o : Obj) : ((w.drewN m).alloc o).ownsRow base e size v n xs :=
  World.ownsRow.alloc (w := w.drewN m) h o

theorem new_one (w : World) (v : Value) (e : TypeId) : ∀ (j : Nat) (u : Value), [v][j]? = some u → (w.alloc (.cells #[v] e)).cell? ((⟨w.heap.size, 0, none⟩ : Addr).add j) = some u := by
  intro j u hj
  cases j with
  | zero =>
    simp at hj
    subst hj
    show (w.alloc (.cells #[v] e)).cell? ⟨w.heap.size, 0, none⟩ = some v
    unfold World.cell?
    rw [heap_alloc_new]
    rfl
  | succ j => simp at hj

theorem one_ok {v : Value} (h : v.oneCell' = true) : ∀ u ∈ [v], u.oneCell' = true := fun u hu => by rw [List.mem_singleton.1 hu]; exact h

theorem below_grown {B : Nat} {w w' : World} {v : Value} {base : Nat} {e : TypeId} {size n : Nat} {xs : List Value} (h : w.ownsRow base e size v n xs) (hg : w.grownBy w' v.ownBlock) (hB : B ≤ base) (hB2 : B ≤ w.heap.size) : Below B w w' :=
  (Below.refl _ _).grown hg hB2 (fun k hk => Nat.le_trans hB (h.lt k hk).1)

/-- A float that stands for p. -/
def isF (k : FloatKind) (p : Option Nat) (v : Value) : Prop := ∃ r, v = .float k r ∧ FV k p r

theorem order_FV {k : FloatKind} {p q : Option Nat} {x y : Nat} (hx : FV k p x) (hy : FV k q y) : k.format.order x y = ford k p q := by
  rw [← hx.1, ← hy.1, ford_cl]

theorem under3 : (Try.prog.underlying 3).isSome = true := by kernel_rfl
theorem under8 : (Try.prog.underlying 5).isSome = true := by kernel_rfl
theorem under32 : Try.prog.underlying 25 = some (.float .f32) := by kernel_rfl
theorem under64s : (Try.prog.underlying 71).isSome = true := by kernel_rfl

theorem int_FV (k : FloatKind) (n : Int) : FV k (some (floatOfInt k n)) (floatOfInt k n) :=
  FV.mk (nearest_not_nan k.format _ _ _) (write_wlt k (.number (n < 0) n.natAbs 0))
end Go.Proofs.Ytfhaopdaakjghaa
