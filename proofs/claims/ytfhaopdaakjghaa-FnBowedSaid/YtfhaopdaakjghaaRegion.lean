import Derived.WalkKit
import Derived.Deep.Quiet
import Derived.Deep.Draws
namespace Go.Fl
open Go
/-! ### A region that draws its order, whose operations come to some value of a set: one walk in the order of the text serves every order -/
section
variable {P : Program} {ops : Array Oper} {md : Region.Mode} {C : World → Prop}

/-- What is asked once an operation has yielded this: a value of the set S, and a world of the class C. -/
def relUpon (P : Program) (C : World → Prop) (S : Value → Prop) : Result Next → Prop
  | .ok (.value u) w' => C w' ∧ S u
  | .ok .skip w' => C w' ∧ S undef
  | .ok (.enter f args) w' => Calls P f args w' (fun e w'' => ∃ u, e = .returned u ∧ S u ∧ C w'')
  | _ => False

def relAt (P : Program) (o : Oper) (a : Act) (C : World → Prop) (S : Value → Prop) (w : World) : Prop := relUpon P C S ((execOp a.eval o).run P w)

def relOp (P : Program) (o : Oper) (a : Act) (C : World → Prop) (S : Value → Prop) (next : Act → Prop) : Prop :=
  (∀ w, C w → relAt P o a C S w) ∧ ∀ v, S v → next (a.put o.dst v)

theorem relAt_some {o : Oper} {a : Act} {S : Value → Prop} {w : World} (h : relAt P o a C S w) : ∃ v, S v := by
  unfold relAt at h
  generalize (execOp a.eval o).run P w = r at h
  cases r with
  | ok n w' =>
    cases n <;> simp only [relUpon] at h
    case value u => exact ⟨u, h.2⟩
    case skip => exact ⟨_, h.2⟩
    case enter f args => obtain ⟨e, w1, fr, ⟨u, _, hu, _⟩, _⟩ := h []; exact ⟨u, hu⟩
  | halt x w' => simp only [relUpon] at h

/-- The walk in the order of the text; operation number k may yield what S k says. -/
def wpRel (P : Program) (ops : Array Oper) (C : World → Prop) (Q : Act → Prop) (S : Nat → Value → Prop) : Nat → List Oper → Act → Prop
  | _, [], a => Q a
  | k, o :: rest, a => if Region.wanted o (yielded ops a.tmps) then relOp P o a C (S k) (wpRel P ops C Q S (k + 1) rest) else wpRel P ops C Q S (k + 1) rest (a.put o.dst undef)

def rOp (P : Program) (ops : Array Oper) (C : World → Prop) (S : Nat → Value → Prop) (i : Nat) (K : Act → Prop) (a : Act) : Prop :=
  match ops[i]? with
  | none => K a
  | some o => if Region.wanted o (yielded ops a.tmps) then relOp P o a C (S i) K else K (a.put o.dst undef)

theorem relOp_mono {o : Oper} {a : Act} {S : Value → Prop} {K K' : Act → Prop} (h : ∀ a, K a → K' a) (hh : relOp P o a C S K) : relOp P o a C S K' :=
  ⟨hh.1, fun v hv => h _ (hh.2 v hv)⟩

theorem rOp_mono {S : Nat → Value → Prop} {i : Nat} {a : Act} {K K' : Act → Prop} (h : ∀ a, K a → K' a) (hh : rOp P ops C S i K a) : rOp P ops C S i K' a := by
  unfold rOp at *
  split
  · exact h _ (by simpa [*] using hh)
  · rename_i o ho
    simp only [ho] at hh
    split
    · rename_i hw; simp only [hw, if_true] at hh; exact relOp_mono h hh
    · rename_i hw; simp only [hw] at hh; exact h _ hh

/-- Whatever order is picked from here on. -/
def wpAnyR (P : Program) (md : Region.Mode) (ops : Array Oper) (C : World → Prop) (S : Nat → Value → Prop) (Q : Act → Prop) : Nat → Array Bool → Act → Prop
  | 0, listed, a => Region.ready md ops listed = [] ∧ Q a
  | fuel + 1, listed, a =>
    (Region.ready md ops listed = [] → Q a) ∧
    ∀ i ∈ Region.ready md ops listed, rOp P ops C S i (wpAnyR P md ops C S Q fuel (listed.setIfInBounds i true)) a

theorem wp_of_rel {o : Oper} {a : Act} {S : Value → Prop} {K : Act → Prop} {K' : Act → World → Prop} {Q' : Exit → Act → World → Prop} {w : World} (hw : C w) (h : ∀ a w', C w' → K a → K' a w') (hh : relOp P o a C S K) : o.wp P a w K' Q' := by
  obtain ⟨h1, h2⟩ := hh
  have h3 := h1 w hw
  unfold relAt at h3
  unfold Oper.wp
  generalize (execOp a.eval o).run P w = r at *
  cases r with
  | ok n w' =>
    cases n <;> simp only [relUpon] at h3 <;> simp only [Oper.upon]
    case value u => exact h _ _ h3.1 (h2 _ h3.2)
    case skip => exact h _ _ h3.1 (h2 _ h3.2)
    case enter f args =>
      exact h3.mono fun e w'' ⟨u, he, hu, hw''⟩ => by subst he; exact h _ _ hw'' (h2 _ hu)
  | halt x w' => simp only [relUpon] at h3

theorem wpOp_of_rOp {S : Nat → Value → Prop} {i : Nat} {a : Act} {K : Act → Prop} {K' : Act → World → Prop} {Q' : Exit → Act → World → Prop} {w : World} (hC : C w) (h : ∀ a w', C w' → K a → K' a w') (hh : rOp P ops C S i K a) : wpOp P ops Q' i K' a w := by
  unfold rOp at hh
  unfold wpOp
  split
  · rename_i ho; simp only [ho] at hh; exact h _ _ hC hh
  · rename_i o ho
    simp only [ho] at hh
    split
    · rename_i hw; simp only [hw, if_true] at hh; exact .inl (wp_of_rel hC h hh)
    · rename_i hw; simp only [hw] at hh; exact h _ _ hC hh

theorem wpAny_of_rel {S : Nat → Value → Prop} {Q : Act → Prop} {Q' : Exit → Act → World → Prop} (hQ : ∀ a w, C w → Q a → Q' .normal a w) : ∀ (fuel : Nat) (listed : Array Bool) (a : Act) (w : World), C w →
    wpAnyR P md ops C S Q fuel listed a → wpAny P md ops Q' fuel listed a w
  | 0, _, _, _, hw, h => ⟨h.1, hQ _ _ hw h.2⟩
  | fuel + 1, _, _, _, hw, h => ⟨fun h0 => hQ _ _ hw (h.1 h0), fun i hi => wpOp_of_rOp hw (fun a' w' hw' => wpAny_of_rel hQ fuel _ a' w' hw') (h.2 i hi)⟩

/-- In state a operation o leaves a value of T in its slot, from every world of the class, and a world of the class; T is not empty. -/
def YieldsR (P : Program) (ops : Array Oper) (C : World → Prop) (S : Value → Prop) (o : Oper) (T : Value → Prop) (a : Act) : Prop :=
  (∃ v, T v) ∧ ((Region.wanted o (yielded ops a.tmps) = true ∧ T = S ∧ ∀ w, C w → relAt P o a C S w) ∨
  (Region.wanted o (yielded ops a.tmps) = false ∧ T = fun v => v = undef))

theorem YieldsR.rOp {S : Nat → Value → Prop} {i : Nat} {o : Oper} {T : Value → Prop} {a : Act} (hi : ops[i]? = some o) (hy : YieldsR P ops C (S i) o T a) {K : Act → Prop} (h : ∀ v, T v → K (a.put o.dst v)) : rOp P ops C S i K a := by
  unfold Go.Fl.rOp
  simp only [hi]
  rcases hy.2 with ⟨hw, rfl, hv⟩ | ⟨hw, rfl⟩
  · simp only [hw, if_true]; exact ⟨hv, h⟩
  · simp only [hw, Bool.false_eq_true, if_false]; exact h _ rfl

theorem YieldsR.of_same {o : Oper} {S T : Value → Prop} {a a' : Act} (hy : YieldsR P ops C S o T a) (he : execOp a'.eval o = execOp a.eval o)
    (hw : Region.wanted o (yielded ops a'.tmps) = Region.wanted o (yielded ops a.tmps)) : YieldsR P ops C S o T a' := by
  unfold YieldsR relAt at *
  rw [he, hw]
  exact hy

theorem yieldsR_of_rOp {S : Nat → Value → Prop} (hC : ∃ w, C w) {i : Nat} {o : Oper} {a : Act} {K : Act → Prop} (hi : ops[i]? = some o) (h : rOp P ops C S i K a) : ∃ T, YieldsR P ops C (S i) o T a ∧ ∀ v, T v → K (a.put o.dst v) := by
  obtain ⟨w0, hw0⟩ := hC
  unfold rOp at h
  simp only [hi] at h
  by_cases hw : Region.wanted o (yielded ops a.tmps) = true
  · simp only [hw, if_true] at h
    obtain ⟨h1, h2⟩ := h
    exact ⟨S i, ⟨relAt_some (h1 w0 hw0), .inl ⟨hw, rfl, h1⟩⟩, h2⟩
  · simp only [hw] at h
    exact ⟨fun v => v = undef, ⟨⟨_, rfl⟩, .inr ⟨by simpa using hw, rfl⟩⟩, fun v hv => by subst hv; exact h⟩

theorem rOp_put {S : Nat → Value → Prop} {i j : Nat} {oi oj : Oper} {T : Value → Prop} (hj : ops[j]? = some oj) (hap : oi.apart ops oj = true)
    (hsi : ∀ cs b, oi.op ≠ .select cs b) (hsj : ∀ cs b, oj.op ≠ .select cs b) {K : Act → Prop} {a : Act}
    (hy : YieldsR P ops C (S i) oi T a) (h : ∀ v, T v → rOp P ops C S j K (a.put oi.dst v)) :
    rOp P ops C S j (fun a' => YieldsR P ops C (S i) oi T a' ∧ ∀ v, T v → K (a'.put oi.dst v)) a := by
  obtain ⟨h1, h2, h3⟩ := Oper.apart_spec hap
  have keep : ∀ (a : Act), YieldsR P ops C (S i) oi T a → ∀ u, YieldsR P ops C (S i) oi T (a.put oj.dst u) := fun a hy u =>
    hy.of_same (execOp_put oi hsi a oj.dst u h3) (wanted_put oi a oj.dst u h3)
  unfold rOp at *
  simp only [hj] at *
  have h' : ∀ v, T v → if Region.wanted oj (yielded ops a.tmps) = true then relOp P oj (a.put oi.dst v) C (S j) K else K ((a.put oi.dst v).put oj.dst undef) := fun v hv => by
    have := h v hv
    rwa [wanted_put oj a oi.dst v h1] at this
  split
  · rename_i hw
    simp only [hw, if_true] at h'
    obtain ⟨v0, hv0⟩ := hy.1
    refine ⟨fun w hw' => ?_, fun u hu => ⟨keep a hy u, fun v hv => ?_⟩⟩
    · have := (h' v0 hv0).1 w hw'
      unfold relAt at *
      rwa [execOp_put oj hsj a oi.dst v0 h1] at this
    · rw [← Act.put_comm a v u h2]
      exact (h' v hv).2 u hu
  · rename_i hw
    simp only [hw] at h'
    exact ⟨keep a hy _, fun v hv => by rw [← Act.put_comm a v undef h2]; exact h' v hv⟩

theorem wpAnyR_first {S : Nat → Value → Prop} {Q : Act → Prop} {i : Nat} {oi : Oper} {T : Value → Prop} (hi : ops[i]? = some oi) (hsel : ∀ (j : Nat) (o : Oper) cs b, ops[j]? = some o → o.op ≠ .select cs b) :
    ∀ (fuel : Nat) (listed : Array Bool) (a : Act),
      (∀ j oj, ops[j]? = some oj → j ≠ i → listed.getD j true = false → (∀ e ∈ oj.after, Region.binds md e = true → e.on ≠ i) → oi.apart ops oj = true) →
      i ∈ Region.ready md ops listed → YieldsR P ops C (S i) oi T a →
      (∀ v, T v → wpAnyR P md ops C S Q fuel (listed.setIfInBounds i true) (a.put oi.dst v)) → wpAnyR P md ops C S Q (fuel + 1) listed a := by
  intro fuel
  induction fuel with
  | zero =>
    intro listed a _ hr hy H
    refine ⟨fun h => (by rw [h] at hr; cases hr), fun j hj => ?_⟩
    by_cases hji : j = i
    · subst hji; exact hy.rOp hi H
    · have := ready_mono hj hji
      obtain ⟨v0, hv0⟩ := hy.1
      rw [(H v0 hv0).1] at this
      cases this
  | succ fuel ih =>
    intro listed a hfree hr hy H
    refine ⟨fun h => (by rw [h] at hr; cases hr), fun j hj => ?_⟩
    by_cases hji : j = i
    · subst hji; exact hy.rOp hi H
    · have h1 := fun v hv => (H v hv).2 j (ready_mono hj hji)
      obtain ⟨hjun, oj, hoj, hall⟩ := mem_ready.1 hj
      have hnot : ∀ e ∈ oj.after, Region.binds md e = true → e.on ≠ i := fun e he hb heq => by
        have h1 := hall e he hb
        have h0 := (mem_ready.1 hr).1
        rw [heq] at h1
        rcases Nat.lt_or_ge i listed.size with h' | h'
        · simp [h'] at h0 h1; rw [h0] at h1; cases h1
        · simp [Array.getElem?_eq_none h'] at h1
      have h2 := rOp_put hoj (hfree j oj hoj hji hjun hnot) (fun cs b => hsel i oi cs b hi) (fun cs b => hsel j oj cs b hoj) hy h1
      have hfree' : ∀ k ok, ops[k]? = some ok → k ≠ i → (listed.setIfInBounds j true).getD k true = false →
          (∀ e ∈ ok.after, Region.binds md e = true → e.on ≠ i) → oi.apart ops ok = true := fun k ok hk hki hun hno => by
        refine hfree k ok hk hki ?_ hno
        by_cases hjk : j = k
        · subst hjk; exact hjun
        · rw [getD_set_ne true hjk] at hun; exact hun
      refine rOp_mono (fun a' h3 => ih (listed.setIfInBounds j true) a' hfree' (ready_mono hr (Ne.symm hji)) h3.1 fun v hv => ?_) h2
      rw [Array.setIfInBounds_comm _ _ hji]
      exact h3.2 v hv

theorem wpAnyR_lex {S : Nat → Value → Prop} {Q : Act → Prop} (hC : ∃ w, C w) (hs : Region.noSelect ops = true) : ∀ (l : List Oper) (k : Nat) (listed : Array Bool) (a : Act), (∀ j, l[j]? = ops[k + j]?) →
    Region.lexFrom md ops l.length k listed = true → wpRel P ops C Q S k l a → wpAnyR P md ops C S Q l.length listed a
  | [], _, _, _, _, hB, h => ⟨by simpa [Region.lexFrom] using hB, h⟩
  | o :: l, k, listed, a, hl, hB, h => by
    have h0 : ops[k]? = some o := by simpa using (hl 0).symm
    simp only [List.length_cons, Region.lexFrom, Bool.and_eq_true] at hB
    obtain ⟨⟨hr, hf⟩, hB'⟩ := hB
    have hst : rOp P ops C S k (wpRel P ops C Q S (k + 1) l) a := by unfold rOp; simp only [h0]; exact h
    obtain ⟨T, hy, hK⟩ := yieldsR_of_rOp hC h0 hst
    exact wpAnyR_first h0 (Region.noSelect_spec hs) l.length listed a (Region.free_spec h0 hf) (by simpa using hr) hy
      (fun v hv => wpAnyR_lex hC hs l (k + 1) _ _ (fun j => by have := hl (j + 1); simpa [Nat.add_assoc, Nat.add_comm 1 j] using this) hB' (hK v hv))

/-- The i-th of a list of sets. -/
def setAt (Ss : List (Value → Prop)) (i : Nat) : Value → Prop := Ss.getD i fun _ => False

/-- ONE WALK IN THE ORDER OF THE TEXT SERVES EVERY ORDER. -/
theorem wp_region_rel {id : Nat} {Q : Exit → Act → World → Prop} {a : Act} {w : World} {l : List Oper} (C : World → Prop) (Ss : List (Value → Prop)) (hm : P.follows .mixedOrders = true) (hB : Region.lexB .any l.toArray = true)
    (hC : C w.drew) (h : wpRel P l.toArray C (fun a' => ∀ w', C w' → Q .normal a' w') (setAt Ss) 0 l a) : (Code.region id l.toArray true).wp P Q a w := by
  simp only [Region.lexB, Bool.and_eq_true] at hB
  refine wp_region_any hm (wpAny_of_rel (S := setAt Ss) (Q := fun a' => ∀ w', C w' → Q .normal a' w') (fun _ w' hw' h => h w' hw') _ _ _ _ hC ?_)
  have := wpAnyR_lex (C := C) (S := setAt Ss) (md := .any) ⟨_, hC⟩ hB.1 l 0 (Array.replicate l.toArray.size false) a (by simp) (by simpa using hB.2) h
  simpa using this

/-! Steps of the walk -/
variable {Q : Act → Prop} {S : Nat → Value → Prop} {k : Nat} {rest : List Oper} {o : Oper} {a : Act}

theorem wpRel_nil (h : Q a) : wpRel P ops C Q S k [] a := h

theorem wpRel_op (hg : o.guard = none) (h1 : ∀ w, C w → relAt P o a C (S k) w) (h2 : ∀ v, S k v → wpRel P ops C Q S (k + 1) rest (a.put o.dst v)) : wpRel P ops C Q S k (o :: rest) a := by
  unfold wpRel
  rw [if_pos (by simp [Region.wanted, hg])]
  exact ⟨h1, h2⟩

/-- The same, what follows behind a variable. -/
theorem wpRel_opK (hg : o.guard = none) (h1 : ∀ w, C w → relAt P o a C (S k) w) (h2 : ∀ K : Act → Prop, (∀ a, wpRel P ops C Q S (k + 1) rest a → K a) → ∀ v, S k v → K (a.put o.dst v)) : wpRel P ops C Q S k (o :: rest) a :=
  wpRel_op hg h1 (h2 _ fun _ h => h)

theorem wpRel_moveK (hg : o.guard = none) (x : Operand) (ho : o.op = .move x ∨ o.op = .assign x) (hS : S k (a.eval x)) (h2 : ∀ K : Act → Prop, (∀ a, wpRel P ops C Q S (k + 1) rest a → K a) → ∀ v, S k v → K (a.put o.dst v)) : wpRel P ops C Q S k (o :: rest) a :=
  wpRel_op hg (fun w hw => by unfold relAt; rcases ho with ho | ho <;> simp [execOp, ho, relUpon, hw, hS]) (h2 _ fun _ h => h)

/-- An operation that yields one value, whatever the world. -/
theorem wpRel_val (hg : o.guard = none) (v : Value) (hS : S k = fun u => u = v) (h1 : ∀ w, C w → (execOp a.eval o).run P w = .ok (.value v) w) (h2 : wpRel P ops C Q S (k + 1) rest (a.put o.dst v)) : wpRel P ops C Q S k (o :: rest) a :=
  wpRel_op hg (fun w hw => by unfold relAt; rw [h1 w hw, hS]; exact ⟨hw, rfl⟩) (fun u hu => by rw [hS] at hu; subst hu; exact h2)

/-- A move of a slot: it holds what the slot holds. -/
theorem wpRel_move (hg : o.guard = none) (x : Operand) (ho : o.op = .move x ∨ o.op = .assign x) (hS : S k (a.eval x)) (h2 : ∀ v, S k v → wpRel P ops C Q S (k + 1) rest (a.put o.dst v)) : wpRel P ops C Q S k (o :: rest) a :=
  wpRel_op hg (fun w hw => by unfold relAt; rcases ho with ho | ho <;> simp [execOp, ho, relUpon, hw, hS]) h2

theorem relUpon_run {C : World → Prop} {S : Value → Prop} {m : Sem Value} {w : World} (h : ∃ v w', m.run P w = .ok v w' ∧ C w' ∧ S v) : relUpon P C S ((m.run P w).andThen fun v w' => .ok (.value v) w') := by
  obtain ⟨v, w', hr, h1, h2⟩ := h
  rw [hr]
  exact ⟨h1, h2⟩

theorem relUpon_enter {C : World → Prop} {S : Value → Prop} {f : FuncId} {args : Array Value} {w : World} {R : Ending → World → Prop} (h : Calls P f args w R) (hR : ∀ e w'', R e w'' → ∃ u, e = .returned u ∧ S u ∧ C w'') : relUpon P C S (.ok (.enter f args) w) :=
  h.mono hR
end
end Go.Fl
