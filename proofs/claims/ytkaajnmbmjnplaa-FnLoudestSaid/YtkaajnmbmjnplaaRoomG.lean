import Derived.Test.YtkaajnmbmjnplaaRoom
import Derived.Test.YtkaajnmbmjnplaaSteps
import Derived.Test.YtkaajnmbmjnplaaModeG
import Derived.Test.YtkaajnmbmjnplaaBodyB
namespace Go.Proofs.Ytkaajnmbmjnplaa
open Go.RowKit Go.Fl

theorem fsP_own {W : World} {base c : Nat} {a : Option Addr} {bs : List Nat} (h : W.ownsRow base 35 1 (.slice a bs.length c) bs.length (fvals .f32 bs)) (hw : ∀ x ∈ bs, x < 2 ^ 32) : FsP W .f32 a bs.length bs := by
  rcases h.2 with ⟨e, h1⟩ | ⟨g, c', cur, e, _⟩
  · have : bs = [] := List.eq_nil_of_length_eq_zero h1
    subst this
    exact ⟨rfl, fun i hi => by simp at hi, by simp⟩
  · have : a = some ⟨g, 0, none⟩ := by injection e
    subst this
    exact FsP.of_owns rfl h hw

theorem own_apart {W : World} {b1 b2 s1 s2 n1 n2 : Nat} {e1 e2 : TypeId} {v1 v2 : Value} {x1 x2 : List Value} (h1 : W.ownsRow b1 e1 s1 v1 n1 x1) (h2 : W.ownsRow b2 e2 s2 v2 n2 x2) (hne : e1 ≠ e2) : v1.ownBlock = none ∨ v1.ownBlock ≠ v2.ownBlock := by
  rcases h1.2 with ⟨rfl, _⟩ | ⟨g, c, cur, rfl, _, hg, _⟩
  · exact Or.inl rfl
  · right
    intro e
    rcases h2.2 with ⟨rfl, _⟩ | ⟨g', c', cur', rfl, _, hg', _⟩
    · cases e
    · have : g = g' := by injection e
      subst this
      rw [hg] at hg'
      injection hg' with hg'
      injection hg' with _ h
      exact hne h

theorem own_not_box {W : World} {b1 s1 n1 K : Nat} {e1 t : TypeId} {v1 : Value} {x1 : List Value} {cs : Array Value} (h1 : W.ownsRow b1 e1 s1 v1 n1 x1) (h2 : W.heap[K]? = some (.cells cs t (0, 0))) (hne : e1 ≠ t) : v1.ownBlock ≠ some K := by
  rcases h1.2 with ⟨rfl, _⟩ | ⟨g, c, cur, rfl, _, hg, _⟩
  · exact fun e => by cases e
  · intro e
    have : g = K := by injection e
    subst this
    rw [hg] at h2
    injection h2 with h2
    injection h2 with _ h
    exact hne h

/-- The rows of a room's shapes. -/
def RowsAt (W : World) (base : Nat) (vals : List Value) (sh : List (List Nat)) : Prop :=
  ∀ p (_ : p < sh.length), ∃ ra rc, vals[p]? = some (.slice ra sh[p].length rc) ∧ W.ownsRow base 35 1 (.slice ra sh[p].length rc) sh[p].length (fvals .f32 sh[p])

/-- A room that is being made: the result's block R, the room's own block K. -/
structure RoomG (w W : World) (b : Nat) (a : Option Addr) (len cap R K : Nat) (ma : Option Addr) (mc : Nat) (xs : List MW) (sa : Option Addr) (sc : Nat) (sh : List (List Nat)) : Prop where
  cur : CurP w b a len cap
  drawn : Drawn b a len cap w W
  res : W.heap[R]? = some (.cells #[.slice none 0 0, .slice none 0 0] 42 (0, 0))
  box : W.heap[K]? = some (.cells #[.slice ma xs.length mc, .slice sa sh.length sc] 42 (0, 0))
  modes : W.ownsRow (R + 1) 33 2 (.slice ma xs.length mc) xs.length (flat xs)
  shapes : ∃ vals, W.ownsRow (R + 1) 44 1 (.slice sa sh.length sc) sh.length vals ∧ RowsAt W (R + 1) vals sh
  ord : b < R ∧ R < K ∧ w.heap.size = R ∧ K < W.heap.size

variable {w W W' : World} {b len cap R K mc sc : Nat} {a ma sa : Option Addr} {xs : List MW} {sh : List (List Nat)}

theorem RowsAt.grown {base : Nat} {vals : List Value} {row : Option Nat} (h : RowsAt W base vals sh) (hg : W.grownBy W' row) (hne : ∀ g, row = some g → g < base) : RowsAt W' base vals sh := fun p hp => by
  obtain ⟨ra, rc, e, ho⟩ := h p hp
  refine ⟨ra, rc, e, ho.kept hg ?_⟩
  cases hr : Value.ownBlock (.slice ra sh[p].length rc) with
  | none => exact Or.inl rfl
  | some k => right; intro e2; have := hne k e2.symm; have := (ho.lt k hr).1; omega

theorem own_grown {base n size : Nat} {e : TypeId} {v : Value} {ys : List Value} {row : Option Nat} (h : W.ownsRow base e size v n ys) (hg : W.grownBy W' row) (hne : ∀ g, row = some g → g < base) : W'.ownsRow base e size v n ys := by
  refine h.kept hg ?_
  cases hr : v.ownBlock with
  | none => exact Or.inl rfl
  | some k => right; intro e2; have := hne k e2.symm; have := (h.lt k hr).1; omega

/-- What draws, or makes new blocks, leaves the room. -/
theorem RoomG.grown (h : RoomG w W b a len cap R K ma mc xs sa sc sh) (hg : W.grownBy W' (some b)) (hc : CurP W' b a len cap) : RoomG w W' b a len cap R K ma mc xs sa sc sh := by
  obtain ⟨o1, o2, o3, o4⟩ := h.ord
  have hb : ∀ g, some b = some g → g < R + 1 := fun g e => by injection e; omega
  obtain ⟨vals, h1, h2⟩ := h.shapes
  refine ⟨h.cur, ⟨hc, grownBy_trans h.drawn.2 hg⟩, (hg.block R (by omega) (fun e => by injection e; omega)).trans h.res, (hg.block K o4 (fun e => by injection e; omega)).trans h.box, own_grown h.modes hg hb, ⟨vals, own_grown h1 hg hb, h2.grown hg hb⟩, o1, o2, o3, Nat.lt_of_lt_of_le o4 hg.size⟩

/-- A row is appended to the shapes, and stored. -/
theorem RoomG.push {o : Obj} {W1 : World} {v' : Value} {ra : Option Addr} {rc : Nat} {l : List Nat} {vals : List Value} (h : RoomG w W b a len cap R K ma mc xs sa sc sh) (hrow : W.ownsRow (R + 1) 35 1 (.slice ra l.length rc) l.length (fvals .f32 l))
    (hv : W.ownsRow (R + 1) 44 1 (.slice sa sh.length sc) sh.length vals) (hrows : RowsAt W (R + 1) vals sh)
    (hown : W1.ownsRow (R + 1) 44 1 v' (sh.length + 1) (vals ++ [.slice ra l.length rc])) (hg : (W.alloc o).grownBy W1 (Value.ownBlock (.slice sa sh.length sc))) :
    ∃ sa' sc', v' = .slice sa' (sh.length + 1) sc' ∧ W1.cell? ⟨K, 1, none⟩ = some (.slice sa sh.length sc) ∧ W1.frozen? ⟨K, 1, none⟩ = false ∧ RoomG w (W1.setCell ⟨K, 1, none⟩ v') b a len cap R K ma mc xs sa' sc' (sh ++ [l]) := by
  obtain ⟨o1, o2, o3, o4⟩ := h.ord
  obtain ⟨sa', sc', rfl⟩ := owns_slice hown
  have hnew : ∀ k, k < W.heap.size → some k ≠ Value.ownBlock (.slice sa sh.length sc) → W1.heap[k]? = W.heap[k]? := fun k hk hne => by
    rw [hg.block k (by rw [World.size_alloc]; omega) hne, heap_alloc_old W o hk]
  have hbase : ∀ k, k < R + 1 → some k ≠ Value.ownBlock (.slice sa sh.length sc) := fun k hk e => by have := (hv.lt k e.symm).1; omega
  have hKb := own_not_box hv h.box (by decide)
  have box1 := (hnew K o4 (fun e => hKb e.symm)).trans h.box
  have gW : W.grownBy (W.alloc o) none := ⟨rfl, rfl, rfl, by rw [World.size_alloc]; omega, fun k hk _ => heap_alloc_old W o hk⟩
  have kept : ∀ {e : TypeId} {size n : Nat} {v : Value} {ys : List Value}, W.ownsRow (R + 1) e size v n ys → e ≠ 44 → e ≠ 42 → (W1.setCell ⟨K, 1, none⟩ (.slice sa' (sh.length + 1) sc')).ownsRow (R + 1) e size v n ys := fun {e size n v ys} hh he he2 => by
    have h1 := (hh.alloc o).kept hg (own_apart hh hv he)
    refine ownsRow_setCell_other h1 (fun e2 => ?_) _
    exact own_not_box hh h.box he2 e2
  have hsz : W.heap.size ≤ W1.heap.size := by have := hg.size; rw [World.size_alloc] at this; omega
  have blk : ∀ k, k < R + 1 → (W1.setCell ⟨K, 1, none⟩ (.slice sa' (sh.length + 1) sc')).heap[k]? = W.heap[k]? := fun k hk => by
    rw [Below.heap_setCell _ _ _ _ (show k ≠ K by omega)]
    exact hnew k (by omega) (hbase k hk)
  refine ⟨sa', sc', rfl, by rw [cur_cell box1]; rfl, cur_free box1 1, ⟨h.cur, ?_, (blk R (by omega)).trans h.res, ?_, kept h.modes (by decide) (by decide), ⟨vals ++ [.slice ra l.length rc], ?_, ?_⟩, o1, o2, o3, ?_⟩⟩
  · have hd := h.drawn
    have hold : ∀ k, k < w.heap.size → k ≠ b → W1.heap[k]? = w.heap[k]? := fun k hk hne => by
      have h4 : k < W.heap.size := Nat.lt_of_lt_of_le hk hd.2.size
      exact (hnew k h4 (hbase k (by omega))).trans (hd.2.block k hk (fun e => hne (by injection e)))
    have hwb := h.cur.lt
    have hWb : b < W.heap.size := Nat.lt_of_lt_of_le hwb hd.2.size
    have d1 : Drawn b a len cap w W1 := ⟨curP_moved h.cur hd.1 (hnew b hWb (hbase b (by omega))) hold (by have := hd.2.size; omega), ⟨hg.os.trans hd.2.os, hg.tape.trans hd.2.tape, hg.output.trans hd.2.output, by have := hd.2.size; omega, fun k hk hne => hold k hk (fun e => hne (by rw [e]))⟩⟩
    exact Drawn.setNew h.cur d1 (by omega) 1 _
  · have := cur_set box1 1 (.slice sa' (sh.length + 1) sc')
    rw [List.length_append]
    exact this
  · rw [List.length_append]
    exact ownsRow_setCell_other hown (fun e2 => own_not_box hown box1 (by decide) e2) _
  · intro p hp
    have hp2 := hp
    rw [List.length_append] at hp2
    rcases Nat.lt_or_ge p sh.length with hlt | hge
    · obtain ⟨r1, r2, e, ho⟩ := hrows p hlt
      refine ⟨r1, r2, ?_, ?_⟩
      · rw [List.getElem?_append_left (by have := hv.1; omega)]
        rw [List.getElem_append_left hlt]
        exact e
      · rw [List.getElem_append_left hlt]
        exact kept ho (by decide) (by decide)
    · have hpe : p = sh.length := by simp at hp2; omega
      subst hpe
      refine ⟨ra, rc, ?_, ?_⟩
      · rw [List.getElem?_append_right (by have := hv.1; omega)]
        have hvl : vals.length = sh.length := by have := hv.1; omega
        rw [hvl, Nat.sub_self]
        simp
      · have e1 : (sh ++ [l])[sh.length]'hp = l := by simp
        rw [e1]
        exact kept hrow (by decide) (by decide)
  · simp [World.setCell]; omega
end Go.Proofs.Ytkaajnmbmjnplaa
