/- Plain texts: characters that XML knows, one after another. -/
import Derived.Test.YtkjopcbleefioaaGreatDoorE0
import Derived.Test.YtkjopcbleefioaaGreatDoorF1
import Derived.Test.YtkjopcbleefioaaGreatDoorY2
namespace Go.Proofs.YtkjopcbleefioaaGreatDoor
open Go Go.RowKit
set_option linter.unusedSimpArgs false
set_option linter.unusedVariables false

inductive Plain : List UInt8 → Prop
  | nil : Plain []
  | cons {c : Nat} {t : List UInt8} (hr : isRune c) (hk : knowsB c = true) (h : Plain t) : Plain (encR c ++ t)

theorem plain_from (s : ByteArray) : ∀ (f pos : Nat), s.size ≤ f + pos → Lib.validD ((bs s).drop pos) = true → ¬ (0 ≤ Lib.idxFuncFrom (fun r => !knowsB r) true s f pos) → Plain ((bs s).drop pos)
  | 0, pos, hf, _, _ => by
    rw [List.drop_eq_nil_of_le (by rw [bs_length]; omega)]
    exact .nil
  | f + 1, pos, hf, hv, hi => by
    by_cases hp : pos < s.size
    · have hne : (bs s).drop pos ≠ [] := by
        intro h
        have := congrArg List.length h
        rw [List.length_drop, bs_length] at this
        simp at this
        omega
      rw [Lib.validD_step _ hne] at hv
      have hd : Lib.decodeL ((bs s).drop pos) = Utf8.decode s pos := Lib.decodeL_drop s pos
      have hR : decR ((bs s).drop pos) = Lib.decodeL ((bs s).drop pos) := decR_L hne
      split at hv
      · cases hv
      · rename_i hn
        rw [Lib.idxFuncFrom, if_pos hp] at hi
        split at hi
        · exact absurd (by omega) hi
        · rename_i hk
          rw [← hd] at hk hi
          rw [List.drop_drop] at hv
          have hrec := plain_from s f (pos + (Lib.decodeL ((bs s).drop pos)).2) (by have := Lib.decodeL_width ((bs s).drop pos); omega) hv hi
          have he : encR (decR ((bs s).drop pos)).1 = ((bs s).drop pos).take (decR ((bs s).drop pos)).2 := decR_enc hne (by rw [hR]; exact hn)
          have hsplit : (bs s).drop pos = encR (decR ((bs s).drop pos)).1 ++ (bs s).drop (pos + (Lib.decodeL ((bs s).drop pos)).2) := by
            rw [he, hR, ← List.drop_drop]
            exact (List.take_append_drop _ _).symm
          rw [hsplit]
          refine .cons (decR_isRune hne) ?_ hrec
          rw [hR]
          simpa using hk
    · rw [List.drop_eq_nil_of_le (by rw [bs_length]; omega)]
      exact .nil
theorem Plain.of {l : List UInt8} (h : plainB l = true) : Plain l := by
  unfold plainB at h
  rw [Bool.and_eq_true, Bool.not_eq_true', decide_eq_false_iff_not] at h
  have := plain_from (sb l) (sb l).size 0 (by omega) (by rw [bs_sb]; exact h.1) h.2
  rw [bs_sb] at this
  exact this

/-! ### what is written of a character -/
theorem escS_nil : escS [] = [] := rfl
theorem escS_app (a b : List UInt8) : escS (a ++ b) = escS a ++ escS b := List.flatMap_append ..
theorem escS_one (b : UInt8) : escS [b] = escB b := by unfold escS; simp
/-- Bytes that are never written otherwise. -/
theorem escS_high {l : List UInt8} (h : ∀ b ∈ l, 128 ≤ b.toNat) : escS l = l := by
  induction l with
  | nil => rfl
  | cons b l ih =>
    have hb := h b (by simp)
    have : escB b = [b] := by
      unfold escB repl
      rw [if_neg (by omega), if_neg (by omega), if_neg (by omega), if_neg (by omega), if_neg (by omega)]
      rfl
    rw [show b :: l = [b] ++ l from rfl, escS_app, escS_one, this, ih (fun x hx => h x (by simp [hx]))]
theorem encR_high {c : Nat} (h : isRune c) (hc : 128 ≤ c) : ∀ b ∈ encR c, 128 ≤ b.toNat := by
  rcases encR_cases h with ⟨h1, _⟩ | ⟨_, _, a, b, e, h1, h2⟩ | ⟨_, _, a, b, d, e, h1, h2, h3⟩ | ⟨_, _, a, b, d, f, e, h1, h2, h3, h4⟩
  · omega
  · rw [e]; intro x hx; simp at hx; rcases hx with rfl | rfl <;> omega
  · rw [e]; intro x hx; simp at hx; rcases hx with rfl | rfl | rfl <;> omega
  · rw [e]; intro x hx; simp at hx; rcases hx with rfl | rfl | rfl | rfl <;> omega
theorem encR_low {c : Nat} (hc : c < 128) : encR c = [UInt8.ofNat c] := by
  rcases encR_cases (c := c) (.inl (by omega)) with ⟨_, e⟩ | ⟨h1, _⟩ | ⟨h1, _⟩ | ⟨h1, _⟩
  · exact e
  all_goals omega
/-- A character, written: its name, or itself. -/
theorem escS_encR {c : Nat} (h : isRune c) : escS (encR c) = (repl c).getD (encR c) := by
  by_cases hc : c < 128
  · have e : (UInt8.ofNat c).toNat = c := by simp; omega
    rw [encR_low hc, escS_one]
    unfold escB
    rw [e]
  · rw [escS_high (encR_high h (by omega))]
    unfold repl
    rw [if_neg (by omega), if_neg (by omega), if_neg (by omega), if_neg (by omega), if_neg (by omega)]
    rfl
theorem encR_pos {c : Nat} (h : isRune c) : ∃ a r, encR c = a :: r := by
  rcases encR_cases h with ⟨_, e⟩ | ⟨_, _, a, b, e, _⟩ | ⟨_, _, a, b, d, e, _⟩ | ⟨_, _, a, b, d, f, e, _⟩ <;> exact ⟨_, _, e⟩
/-- The first byte of a character is that character, or beyond ASCII. -/
theorem encR_head {c : Nat} (h : isRune c) {a : UInt8} {r : List UInt8} (e : encR c = a :: r) (ha : a.toNat < 128) : a.toNat = c := by
  by_cases hc : c < 128
  · rw [encR_low hc] at e
    injection e with e _
    rw [← e]; simp; omega
  · have := encR_high h (by omega) a (by rw [e]; simp)
    omega
end Go.Proofs.YtkjopcbleefioaaGreatDoor
