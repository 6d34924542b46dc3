import Derived.Test.YtfhaopdaakjghaaModeG
import Derived.Laws.AppendOwn
namespace Go.Proofs.Ytfhaopdaakjghaa
open Go.RowKit Go.Fl

theorem info33 : (Try.prog.info? 55).map (fun i => (i.zero, i.size, i.bytes)) = some (some (.agg #[.complex .f32 0 0, .complex .f32 0 0]), 2, 16) := by kernel_rfl
theorem sliceM : Try.prog.underlying 28 = some (.slice 55) := by kernel_rfl

theorem CurP.below {w w' : World} {b : Nat} {a : Option Addr} {len cap : Nat} (h : CurP w b a len cap) (hb : Below w.heap.size w w') : CurP w' b a len cap := by
  obtain ⟨i, x, h1, h2, h3, h4, h5, h6⟩ := h
  have hlt : b < w.heap.size := CurP.lt ⟨i, x, h1, h2, h3, h4, h5, h6⟩
  exact ⟨i, x, (hb.block b hlt).trans h1, h2, h3, h4.below hb, h5, h6⟩

/-- The cells of modes, one behind the other. -/
def flat (xs : List MW) : List Value := xs.flatMap fun x => [.complex .f32 x.a x.b, .complex .f32 x.c x.d]
def okX (x : MW) : Prop := ∃ m, FM m x ∧ okMode m = true

theorem flat_append (xs ys : List MW) : flat (xs ++ ys) = flat xs ++ flat ys := by unfold flat; exact List.flatMap_append
theorem flat_length (xs : List MW) : (flat xs).length = xs.length * 2 := by
  induction xs with
  | nil => rfl
  | cons x xs ih =>
    show ([_, _] ++ flat xs).length = _
    rw [List.length_append, ih, List.length_cons]
    show 2 + xs.length * 2 = (xs.length + 1) * 2
    omega

/-- A call that gives a body, its modes in a row of its own. -/
def DrawsB (most : Nat) (b : Nat) (a : Option Addr) (len cap : Nat) (w : World) (e : Ending) (w' : World) : Prop :=
  ∃ v xs, e = .returned (.agg #[v]) ∧ w'.ownsRow w.heap.size 55 2 v xs.length (flat xs) ∧ xs.length ≤ most ∧ (∀ x ∈ xs, okX x) ∧ Drawn b a len cap w w'

theorem owns_le {w : World} {base base' size n : Nat} {e : TypeId} {v : Value} {xs : List Value} (h : w.ownsRow base e size v n xs) (hb : base' ≤ base) : w.ownsRow base' e size v n xs := by
  refine ⟨h.1, ?_⟩
  rcases h.2 with h1 | ⟨g, c, cur, h1, h2, h3⟩
  · exact Or.inl h1
  · exact Or.inr ⟨g, c, cur, h1, Nat.le_trans hb h2, h3⟩

theorem new_two (w : World) (u v : Value) (e : TypeId) : ∀ (j : Nat) (x : Value), [u, v][j]? = some x → (w.alloc (.cells #[u, v] e)).cell? ((⟨w.heap.size, 0, none⟩ : Addr).add j) = some x := by
  intro j x hj
  have hc : ∀ i, (w.alloc (.cells #[u, v] e)).cell? ⟨w.heap.size, i, none⟩ = (#[u, v] : Array Value)[i]? := fun i => by
    unfold World.cell?
    rw [heap_alloc_new]
    rfl
  match j with
  | 0 => have := hc 0; simp at hj; subst hj; exact this
  | 1 => have := hc 1; simp at hj; subst hj; exact this
  | j + 2 => simp at hj

theorem two_ok {u v : Value} (h : u.oneCell' = true) (k : v.oneCell' = true) : ∀ x ∈ [u, v], x.oneCell' = true := fun x hx => by
  rcases List.mem_cons.1 hx with rfl | hx
  · exact h
  · rw [List.mem_singleton.1 hx]; exact k

/-- A cursor lies on where its own block and the bytes do. -/
theorem curP_moved {b : Nat} {a : Option Addr} {len cap : Nat} {w W4 w1 : World} (h0 : CurP w b a len cap) (h4 : CurP W4 b a len cap) (hb : w1.heap[b]? = W4.heap[b]?) (hold : ∀ k, k < w.heap.size → k ≠ b → w1.heap[k]? = w.heap[k]?) (hsz : w.heap.size ≤ w1.heap.size) : CurP w1 b a len cap := by
  obtain ⟨i, x, h1, h2, h3, _, h5, h6⟩ := h4
  obtain ⟨_, _, _, _, _, hbs, _, _⟩ := h0
  refine ⟨i, x, hb.trans h1, h2, h3, fun k hk => ?_, h5, h6⟩
  obtain ⟨g, off, y, e, c, y0, y1, hlt⟩ := hbs k hk
  refine ⟨g, off, y, e, ?_, y0, y1, Nat.lt_of_lt_of_le hlt hsz⟩
  rw [World.cell?_of_block (hold g hlt (h6 k hk _ e))]
  exact c

/-- What an append to the body's modes leaves, once it is stored. -/
theorem push_body {R b n : Nat} {a : Option Addr} {len cap : Nat} {w W4 w1 : World} {v v' : Value} {o : Obj} {xs : List Value} (hown1 : w1.ownsRow (R + 2) 55 2 v' (n + 1) xs) (hg : (W4.alloc o).grownBy w1 v.ownBlock) (hnob : ∀ k, k < R + 2 → v.ownBlock ≠ some k)
    (hKs : R + 1 < W4.heap.size) (hRs : R < W4.heap.size) (hbs : b < W4.heap.size) (hbR : b < R + 2) (hR4 : W4.heap[R]? = some (.cells #[.slice none 0 0] 30 (0, 0))) (hK4 : W4.heap[R + 1]? = some (.cells #[v] 30 (0, 0))) (hD : Drawn b a len cap w W4) (h0 : CurP w b a len cap) (hRw : w.heap.size = R) :
    (storeCells ⟨R + 1, 0, none⟩ [v']).run Try.prog w1 = .ok () (w1.setCell ⟨R + 1, 0, none⟩ v') ∧
      ((w1.setCell ⟨R + 1, 0, none⟩ v').heap[R]? = some (.cells #[.slice none 0 0] 30 (0, 0)) ∧ (w1.setCell ⟨R + 1, 0, none⟩ v').heap[R + 1]? = some (.cells #[v'] 30 (0, 0)) ∧ (w1.setCell ⟨R + 1, 0, none⟩ v').ownsRow (R + 2) 55 2 v' (n + 1) xs ∧ Drawn b a len cap w (w1.setCell ⟨R + 1, 0, none⟩ v') ∧ R + 2 ≤ (w1.setCell ⟨R + 1, 0, none⟩ v').heap.size) := by
  have hform : ∃ g c', v' = .slice (some ⟨g, 0, none⟩) (n + 1) c' := by
    rcases hown1.2 with ⟨_, hn⟩ | ⟨g, c', _, hv, _⟩
    · omega
    · exact ⟨g, c', hv⟩
  have old : ∀ k, k < W4.heap.size → k < R + 2 → w1.heap[k]? = W4.heap[k]? := fun k h1 h2 =>
    (hg.block k (by rw [World.size_alloc]; omega) (fun e => hnob k h2 e.symm)).trans (heap_alloc_old W4 o h1)
  have R5 := (old R hRs (by omega)).trans hR4
  have K5 := (old (R + 1) hKs (by omega)).trans hK4
  have b5 := old b hbs hbR
  have hsz : W4.heap.size < w1.heap.size := Nat.lt_of_lt_of_le (show W4.heap.size < (W4.alloc o).heap.size by rw [World.size_alloc]; omega) hg.size
  have hv1 : v'.oneCell' = true := by obtain ⟨g, c', rfl⟩ := hform; rfl
  have hst0 := run_store_one (P := Try.prog) hv1 (show w1.cell? ⟨R + 1, 0, none⟩ = some v by rw [cur_cell K5]; rfl) (cur_free K5 0)
  refine ⟨by simp [storeCells, Addr.add, hst0], ?_, cur_set K5 0 v', ?_, ?_, ?_⟩
  · rw [Below.heap_setCell _ _ _ _ (show R ≠ R + 1 by omega)]; exact R5
  · exact ownsRow_setCell_other hown1 (fun e => by have := (hown1.lt _ e).1; simp at this) v'
  · have hold : ∀ k, k < w.heap.size → k ≠ b → w1.heap[k]? = w.heap[k]? := fun k hk hne => by
      have h4 : k < W4.heap.size := Nat.lt_of_lt_of_le hk hD.2.size
      exact (old k h4 (by omega)).trans (hD.2.block k hk (fun e => hne (by injection e)))
    have d1 : Drawn b a len cap w w1 := ⟨curP_moved h0 hD.1 b5 hold (by have := hD.2.size; omega), ⟨hg.os.trans hD.2.os, hg.tape.trans hD.2.tape, hg.output.trans hD.2.output, by have := hD.2.size; omega, fun k hk hne => hold k hk (fun e => hne (by rw [e]))⟩⟩
    exact Drawn.setNew h0 d1 (by omega) 0 v'
  · simp [World.setCell]; omega

set_option maxRecDepth 10000 in
set_option maxHeartbeats 4000000 in
theorem l2Body_c {most : Nat} (hmost : most ≤ 16) {b : Nat} {a : Option Addr} {len cap : Nat} (w : World) (h : CurP w b a len cap) :
    Calls Try.prog 15 #[.pointer (some ⟨b, 0, none⟩), .int .i64 most] w (DrawsB most b a len cap w) := by
  have H := Lib.hid h
  have hbl := h.lt
  clear h
  obtain ⟨i0, hi, hz0, hz1, hz2⟩ := info_parts' info33
  have t0 := store_new0
  have t1 := store_new1
  have u3 := under3
  go_enter Try.func15, Try.ntmps15
  go_upto_region 2 with fail
  have D0 : Drawn b a len cap w ((w.alloc (.cells #[.slice none 0 0] 30)).alloc (.cells #[.slice none 0 0] 30)) := Drawn.alloc (Drawn.alloc ⟨H.out, ⟨rfl, rfl, rfl, Nat.le_refl _, fun _ _ _ => rfl⟩⟩ _) _
  have hlt0 : w.heap.size < (w.alloc (.cells #[.slice none 0 0] 30)).heap.size := by rw [World.size_alloc]; omega
  have R0 : ((w.alloc (.cells #[.slice none 0 0] 30)).alloc (.cells #[.slice none 0 0] 30)).heap[w.heap.size]? = some (.cells #[.slice none 0 0] 30 (0, 0)) := (heap_alloc_old _ _ hlt0).trans (heap_alloc_new w _)
  have K0 : ((w.alloc (.cells #[.slice none 0 0] 30)).alloc (.cells #[.slice none 0 0] 30)).heap[w.heap.size + 1]? = some (.cells #[.slice none 0 0] 30 (0, 0)) := by
    have := heap_alloc_new (w.alloc (.cells #[.slice none 0 0] 30)) (.cells #[.slice none 0 0] 30)
    rw [World.size_alloc] at this
    exact this
  have hs0 : w.heap.size + 2 ≤ ((w.alloc (.cells #[.slice none 0 0] 30)).alloc (.cells #[.slice none 0 0] 30)).heap.size := by rw [World.size_alloc, World.size_alloc]; omega
  generalize ((w.alloc (.cells #[.slice none 0 0] 30)).alloc (.cells #[.slice none 0 0] 30)) = W0 at *
  clear hlt0
  go_wp2_with fail
  refine (l01Below_c ((most : Int) + 1) (by omega) (by omega) _ D0.1).mono ?_
  rintro e W1 ⟨r, rfl, r0, r1, d1⟩
  have D1 := Lib.hid (D0.trans d1)
  have R1 := Lib.hid ((d1.2.block _ (by omega) (by simp; omega)).trans R0)
  have K1 := Lib.hid ((d1.2.block _ (by omega) (by simp; omega)).trans K0)
  have hs1 : w.heap.size + 2 ≤ W1.heap.size := Nat.le_trans hs0 d1.2.size
  obtain ⟨j0, rfl⟩ : ∃ j : Nat, r = j := ⟨r.toNat, by omega⟩
  clear d1 D0 R0 K0 hs0
  generalize hR : w.heap.size = R at *
  have HR := Lib.hid hR
  go_wp2_with fail
  go_loopw [6] (fun k wr => ∃ (j : Nat) (xs : List MW) (v : Value), k = .int .i64 j ∧ xs.length + j ≤ most ∧ Hid (∀ x ∈ xs, okX x) ∧ Hid (wr.heap[R]? = some (.cells #[.slice none 0 0] 30 (0, 0))) ∧ Hid (wr.heap[R + 1]? = some (.cells #[v] 30 (0, 0))) ∧ Hid (wr.ownsRow (R + 2) 55 2 v xs.length (flat xs)) ∧ Hid (Drawn b a len cap w wr) ∧ R + 2 ≤ wr.heap.size) (fun k _ => (intOf k).toNat)
  case atStart => exact ⟨j0, [], _, rfl, by simp; omega, Lib.hid (by simp), R1, K1, Lib.hid (World.ownsRow_nil _ _ _ _), D1, hs1⟩
  case round =>
    obtain ⟨j, xs, v, rfl, hlen, hok, hRr, hKr, hown, hD, hs⟩ := hrel
    clear R1 K1 D1 hs1
    by_cases hj : 0 < j
    · have d1 : decide ((0 : Int) < (j : Int)) = true := by simp; omega
      go_wp2_with fail
      refine (l2Mode_c _ hD.out.1).mono ?_
      rintro e W2 ⟨m, x, rfl, fm, d2⟩
      have hR2 := Lib.hid ((d2.2.block R (by omega) (by simp; omega)).trans hRr.out)
      have hK2 := Lib.hid ((d2.2.block (R + 1) (by omega) (by simp; omega)).trans hKr.out)
      have hbne : v.ownBlock = none ∨ v.ownBlock ≠ some b := by
        cases ho : v.ownBlock with
        | none => exact Or.inl rfl
        | some g => right; intro e; injection e with e; have := (hown.out.lt g ho).1; omega
      have hown2 := Lib.hid (hown.out.kept d2.2 hbne)
      have hD2 := Lib.hid (hD.out.trans d2)
      have hs2 : R + 2 ≤ W2.heap.size := Nat.le_trans hs d2.2.size
      clear d2 hRr hKr hown hD hbne hs
      obtain ⟨v1, v2, v3, v4⟩ := x
      go_upto_region 6 with fail
      have M3 := Lib.hid (heap_alloc_new W2 (.cells #[.complex .f32 v1 v2, .complex .f32 v3 v4] 55))
      have hR3 := Lib.hid ((heap_alloc_old W2 (.cells #[.complex .f32 v1 v2, .complex .f32 v3 v4] 55) (show R < W2.heap.size by omega)).trans hR2.out)
      have hK3 := Lib.hid ((heap_alloc_old W2 (.cells #[.complex .f32 v1 v2, .complex .f32 v3 v4] 55) (show R + 1 < W2.heap.size by omega)).trans hK2.out)
      have hown3 := Lib.hid (hown2.out.alloc (.cells #[.complex .f32 v1 v2, .complex .f32 v3 v4] 55))
      have hD3 := Lib.hid (hD2.out.alloc (.cells #[.complex .f32 v1 v2, .complex .f32 v3 v4] 55))
      have hs3 : R + 2 ≤ (W2.alloc (.cells #[.complex .f32 v1 v2, .complex .f32 v3 v4] 55)).heap.size := by rw [World.size_alloc]; omega
      have hM3 : W2.heap.size < (W2.alloc (.cells #[.complex .f32 v1 v2, .complex .f32 v3 v4] 55)).heap.size := by rw [World.size_alloc]; omega
      generalize W2.alloc (.cells #[.complex .f32 v1 v2, .complex .f32 v3 v4] 55) = W3 at *
      generalize W2.heap.size = M at *
      clear hR2 hK2 hown2 hD2
      have c0 := cur_cell M3.out 0
      have c1 := cur_cell M3.out 1
      simp at c0 c1
      go_wp2_with fail
      refine (isModeSpec_c (x := ⟨v1, v2, v3, v4⟩) fm _).mono ?_
      rintro e W4 ⟨rfl, b4⟩
      have M4 := Lib.hid ((b4.block _ hM3).trans M3.out)
      have hR4 := Lib.hid ((b4.block _ (by omega)).trans hR3.out)
      have hK4 := Lib.hid ((b4.block _ (by omega)).trans hK3.out)
      have g4 : W3.grownBy W4 none := ⟨b4.os, b4.tape, b4.output, b4.size, fun k hk _ => b4.block k hk⟩
      have hown4 := Lib.hid (hown3.out.kept g4 (by cases v.ownBlock <;> simp))
      have hD4 := Lib.hid (show Drawn b a len cap w W4 from hD3.out.trans ⟨CurP.below hD3.out.1 b4, ⟨b4.os, b4.tape, b4.output, b4.size, fun k hk _ => b4.block k hk⟩⟩)
      have hs4 : R + 2 ≤ W4.heap.size := Nat.le_trans hs3 b4.size
      clear b4 g4 M3 hR3 hK3 hown3 hD3 c0 c1
      have c0 := cur_cell M4.out 0
      have c1 := cur_cell M4.out 1
      have ck := cur_cell hK4.out 0
      simp at c0 c1 ck
      cases ht : okMode m
      case false =>
        go_wp2_with fail
        exact ⟨⟨j - 1, xs, v, by go_num, by omega, hok, hR4, hK4, hown4, hD4, hs4⟩, by simp [intOf]; omega⟩
      case true =>
        have OX := Lib.hid (show okX ⟨v1, v2, v3, v4⟩ from ⟨m, fm, ht⟩)
        have hown := hown4.out
        have hnob : ∀ k, k < R + 2 → v.ownBlock ≠ some k := fun k hk e => by have := (hown.lt k e).1; omega
        have hKs : R + 1 < W4.heap.size := by omega
        have hRs : R < W4.heap.size := by omega
        have hbs : b < W4.heap.size := hD4.out.1.lt
        have hbR : b < R + 2 := by omega
        go_wp2_with (at_builtin; refine wpList_append_own _ rfl _ _ 28 rfl (R + 2) 55 i0 (.agg #[.complex .f32 0 0, .complex .f32 0 0]) 2 16 sliceM hi hz0 hz1 hz2 rfl (by decide) _ _ _ rfl (hown.alloc _) _ 1 1 [_, _] rfl rfl (new_two _ _ _ _) (two_ok rfl rfl) (by unfold maxLen; omega) (by omega) (by simp; omega) ?_; intro v' w1 hown1 hgrow1 _; obtain ⟨hst, hfin⟩ := push_body hown1 hgrow1 hnob hKs hRs hbs hbR hR4.out hK4.out hD4.out H.out HR.out)
        rw [hst]
        go_wp2_with fail
        refine ⟨⟨j - 1, xs ++ [⟨v1, v2, v3, v4⟩], v', by go_num, by simp; omega, Lib.hid (fun y hy => ?_), Lib.hid hfin.1, Lib.hid hfin.2.1, Lib.hid ?_, Lib.hid hfin.2.2.2.1, ?_⟩, by simp [intOf]; omega⟩
        · rcases List.mem_append.1 hy with hy | hy
          · exact hok.out y hy
          · rw [List.mem_singleton.1 hy]; exact OX.out
        · rw [List.length_append, flat_append]
          exact hfin.2.2.1
        · exact hfin.2.2.2.2
    · have d1 : decide ((0 : Int) < (j : Int)) = false := by simp; omega
      have ck := cur_cell hKr.out 0
      simp at ck
      have hv1 : v.oneCell' = true := by
        rcases hown.out.2 with ⟨rfl, _⟩ | ⟨g, c', _, rfl, _⟩ <;> rfl
      have hst0 := run_store_one (P := Try.prog) hv1 (show wr.cell? ⟨R, 0, none⟩ = some (.slice none 0 0) by rw [cur_cell hRr.out]; rfl) (cur_free hRr.out 0)
      have hst : (storeCells ⟨R, 0, none⟩ [v]).run Try.prog wr = .ok () (wr.setCell ⟨R, 0, none⟩ v) := by simp [storeCells, Addr.add, hst0]
      have hR5 := Lib.hid (cur_set hRr.out 0 v)
      have hD5 := Lib.hid (Drawn.setNew H.out hD.out (Nat.le_of_eq HR.out) 0 v)
      have hown5 := Lib.hid (ownsRow_setCell_other (a := ⟨R, 0, none⟩) hown.out (fun e => by have := (hown.out.lt _ e).1; simp at this; omega) v)
      have hsl : (∃ g c', v = .slice (some ⟨g, 0, none⟩) xs.length c') ∨ v = .slice none 0 0 := by
        rcases hown.out.2 with ⟨h1, _⟩ | ⟨g, c', _, h1, _⟩
        · exact Or.inr h1
        · exact Or.inl ⟨g, c', h1⟩
      clear hv1 hRr hKr hD hown hst
      go_wp2_with fail
      refine bodyPost_ret_by (v := .agg #[v]) ?_ rfl ⟨v, xs, rfl, ?_, by omega, hok.out, hD5.out⟩
      · exact results_cell_row rfl _ _ R _ #[v] _ _ rfl hR5.out Try.underlying30 rfl (by kernel_rfl)
      · rw [HR.out]
        exact owns_le hown5.out (by omega)
end Go.Proofs.Ytfhaopdaakjghaa
