import Derived.Test.YtfhaopdaakjghaaForce
namespace Go.Proofs.Ytfhaopdaakjghaa
open Go.RowKit Go.Fl

/-- Is a list of words finite? -/
def finL (bs : List Nat) : Bool := bs.all fun x => isFin .f32 (cl .f32 x)

theorem sub_self_eq {x r : Nat} (h : FV .f32 (fop .sub .f32 (cl .f32 x) (cl .f32 x)) r) : (FloatKind.f32.format.order r 0 == some .eq) = isFin .f32 (cl .f32 x) := by
  cases hp : cl .f32 x with
  | none => rw [hp] at h; rw [order_nan_left (FV.nan (k := .f32) h)]; rfl
  | some c =>
    rw [hp] at h
    have hn : (FloatKind.f32.decode c).isNaN = false := by
      unfold cl at hp
      split at hp
      · cases hp
      · rename_i hn; cases hp; simpa using hn
    rcases Nat.lt_or_eq_of_le (rg_le_of_not_nan hn) with h1 | h1
    · obtain ⟨z, hz, ho⟩ := sub_self_fin h1
      rw [hz] at h
      obtain rfl := h.some_eq
      rw [ho]
      simp [isFin, h1]
    · rw [sub_self_inf h1] at h
      rw [order_nan_left h.nan]
      simp [isFin, h1]

set_option maxHeartbeats 1000000 in
theorem lawsFinite_c {a : Option Addr} {cap : Nat} {bs : List Nat} (w : World) (h : FsP w .f32 a bs.length bs) (hl : bs.length ≤ 16) : Calls Try.prog 11 #[.slice a bs.length cap] w (Ret (.bool (finL bs)) w) := by
  have H := Lib.hid h
  clear h
  go_enter Try.func11, Try.ntmps11
  go_wp2_with fail
  go_loopw [7] (fun i wr => ∃ (I : Nat) (n : Nat), i = .int .i64 I ∧ I ≤ bs.length ∧ Hid (finL (bs.take I) = true) ∧ wr = w.drewN n) (fun i _ => bs.length - (intOf i).toNat)
  case atStart => exact ⟨0, 0, rfl, Nat.zero_le _, Lib.hid (by simp [finL]), rfl⟩
  case round =>
    obtain ⟨I, n0, rfl, hI, hf, rfl⟩ := hrel
    rcases Nat.lt_or_eq_of_le hI with hlt | heq
    · have d1 : decide ((I : Int) < (bs.length : Int)) = true := by simpa using hlt
      obtain ⟨g, off, rfl, c0, _⟩ := H.out.2.1 I hlt
      have c0 : (w.drewN n0).cell? ⟨g, off + I, none⟩ = some (.float .f32 bs[I]) := c0
      have hx : FV .f32 (cl .f32 bs[I]) bs[I] := FV.of_lt (k := .f32) (H.out.2.2 _ (List.getElem_mem hlt))
      have hx2 := Lib.hid (show ∀ r : Nat, FV .f32 (fop .sub .f32 (cl .f32 bs[I]) (cl .f32 bs[I])) r → (FloatKind.f32.format.order r 0 != some .eq) = !isFin .f32 (cl .f32 bs[I]) from fun _ h => by rw [bne, sub_self_eq h])
      have hT := Lib.hid (show finL (bs.take (I + 1)) = (finL (bs.take I) && isFin .f32 (cl .f32 bs[I])) from by
        unfold finL
        rw [List.take_succ_eq_append_getElem hlt, List.all_append]
        simp)
      have hA := Lib.hid (show isFin .f32 (cl .f32 bs[I]) = false → finL bs = false from fun e => by
        unfold finL
        rw [List.all_eq_false]
        exact ⟨bs[I], List.getElem_mem hlt, by simp [e]⟩)
      rw [hf.out, Bool.true_and] at hT
      clear hf
      generalize bs[I] = x at *
      generalize cl .f32 x = px at *
      cases hb : isFin .f32 px
      · rw [hb] at hx2
        have hF := hA.out hb
        go_wp2_with (refine upon_flop _ (by decide) hx hx ?_; intro r n1 hr; have ho : (FloatKind.f32.format.order r 0 != some .eq) = true := hx2.out r hr)
        go_ret
        rw [hF]
        exact ⟨rfl, _, rfl⟩
      · rw [hb] at hx2 hT
        go_wp2_with (refine upon_flop _ (by decide) hx hx ?_; intro r n1 hr; have ho : (FloatKind.f32.format.order r 0 != some .eq) = false := hx2.out r hr)
        exact ⟨⟨I + 1, _, by go_num, hlt, hT, rfl⟩, by simp [intOf]; omega⟩
    · subst heq
      have d1 : decide ((bs.length : Int) < (bs.length : Int)) = false := by simp
      go_wp2_with fail
      go_ret
      have hf2 := hf.out
      rw [List.take_of_length_le (Nat.le_refl _)] at hf2
      rw [hf2]
      exact ⟨rfl, _, rfl⟩

end Go.Proofs.Ytfhaopdaakjghaa
