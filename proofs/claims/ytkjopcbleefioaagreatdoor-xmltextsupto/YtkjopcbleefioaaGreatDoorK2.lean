/- What was written of a text is read as that text: plain. -/
import Derived.Test.YtkjopcbleefioaaGreatDoorK1
import Derived.Test.YtkjopcbleefioaaGreatDoorE3
namespace Go.Proofs.YtkjopcbleefioaaGreatDoor
open Go Go.RowKit
set_option linter.unusedSimpArgs false
set_option linter.unusedVariables false

theorem refR_amp (r : List UInt8) : refR ([38, 97, 109, 112, 59] ++ r) = .is [38] 5 := by
  simp [refR, ents, pre, List.isPrefixOf, List.find?]
theorem refR_lt (r : List UInt8) : refR ([38, 108, 116, 59] ++ r) = .is [60] 4 := by
  simp [refR, ents, pre, List.isPrefixOf, List.find?]
theorem refR_gt (r : List UInt8) : refR ([38, 103, 116, 59] ++ r) = .is [62] 4 := by
  simp [refR, ents, pre, List.isPrefixOf, List.find?]
theorem refR_quot (r : List UInt8) : refR ([38, 113, 117, 111, 116, 59] ++ r) = .is [34] 6 := by
  simp [refR, ents, pre, List.isPrefixOf, List.find?]
theorem refR_13 (r : List UInt8) : refR ([38, 35, 49, 51, 59] ++ r) = .is [13] 5 := by
  have h59 : isDec 59 = false := by decide
  have h49 : isDec 49 = true := by decide
  have h51 : isDec 51 = true := by decide
  have hn : numN isDec 7 (49 :: 51 :: 59 :: r) = 2 := by
    unfold numN
    rw [List.takeWhile_cons, h49, if_pos rfl, List.takeWhile_cons, h51, if_pos rfl, List.takeWhile_cons, h59]
    simp
  have hd : digV 10 0 [49, 51] = 13 := by decide
  have hk : knowsB 13 = true := by decide
  have hT : numT isDec 10 7 2 (49 :: 51 :: 59 :: r) = .is 13 5 := by
    unfold numT
    rw [hn, if_neg (by simp)]
    have ht : (49 :: 51 :: 59 :: r : List UInt8).take 2 = [49, 51] := rfl
    rw [ht, hd, if_pos ⟨by decide, rfl, hk⟩]
  have hp : pre [38, 35] ([38, 35, 49, 51, 59] ++ r) = true := by simp [pre, List.isPrefixOf]
  have hN : numR [38, 35] isDec 10 7 ([38, 35, 49, 51, 59] ++ r) = .is 13 5 := by
    unfold numR
    rw [if_pos hp]
    exact hT
  have hf : ents.find? (fun x => pre x.1 ([38, 35, 49, 51, 59] ++ r)) = none := by
    simp [ents, pre, List.isPrefixOf, List.find?]
  have he : encR 13 = [13] := by rw [encR_low (by omega)]; rfl
  unfold refR
  rw [hf]
  dsimp only
  unfold refN
  rw [hN, ← he]
/-- A name stands for its character. -/
theorem refR_repl {c : Nat} {e : List UInt8} (h : repl c = some e) (r : List UInt8) : refR (e ++ r) = .is (encR c) e.length ∧ (∃ x y, e = 38 :: x :: y ∧ x ≠ 47) := by
  unfold repl at h
  split at h
  · injection h with h; subst h; subst_vars; exact ⟨by rw [refR_amp, encR_low (by omega)]; rfl, _, _, rfl, by decide⟩
  split at h
  · injection h with h; subst h; subst_vars; exact ⟨by rw [refR_lt, encR_low (by omega)]; rfl, _, _, rfl, by decide⟩
  split at h
  · injection h with h; subst h; subst_vars; exact ⟨by rw [refR_gt, encR_low (by omega)]; rfl, _, _, rfl, by decide⟩
  split at h
  · injection h with h; subst h; subst_vars; exact ⟨by rw [refR_quot, encR_low (by omega)]; rfl, _, _, rfl, by decide⟩
  split at h
  · injection h with h; subst h; subst_vars; exact ⟨by rw [refR_13, encR_low (by omega)]; rfl, _, _, rfl, by decide⟩
  · cases h

/-- One written character, within an element that has no kids. -/
theorem withinS_char {s : List UInt8} {k : Nat} {o : OS} {l : List OS} {c : Nat} {r : List UInt8} (hr : isRune c) (hk : knowsB c = true) (ho : o.kids = []) (h : s.drop k = escS (encR c) ++ r) :
    ∃ sd, withinS s k o l = (⟨k + (escS (encR c)).length, none⟩, { o with text := o.text ++ encR c, solid := sd } :: l) := by
  rw [escS_encR hr] at h ⊢
  cases hc : repl c with
  | some e =>
    rw [hc] at h
    rw [Option.getD_some] at h ⊢
    obtain ⟨hR, x, y, rfl, hx⟩ := refR_repl hc r
    have hd : decR (s.drop k) = (38, 1) := by rw [h]; exact decR_ascii (by decide)
    have hp60 : pre [60] (s.drop k) = false := by rw [h]; simp [pre, List.isPrefixOf]
    have hp6047 : pre [60, 47] (s.drop k) = false := by rw [h]; simp [pre, List.isPrefixOf]
    have hp38 : pre [38] (s.drop k) = true := by rw [h]; simp [pre, List.isPrefixOf]
    refine ⟨true, ?_⟩
    unfold withinS
    rw [if_neg (by rw [hd]; decide), if_neg (by rw [hp60]; rintro ⟨h, _⟩; cases h), if_neg (by rw [hp6047]; decide), if_neg (by rw [hp60]; decide), if_neg (by rw [ho]; simp), if_pos hp38, h, hR]
  | none =>
    rw [hc] at h
    rw [Option.getD_none] at h ⊢
    obtain ⟨a, t, he⟩ := encR_pos hr
    have hd : decR (s.drop k) = (c, (encR c).length) := by rw [h]; exact decR_encR hr r
    have hl : (encR c).length ≠ 0 := by rw [he]; simp
    have hne : ∀ b : UInt8, repl b.toNat ≠ none → b.toNat < 128 → a ≠ b := by
      rintro b hb hb2 rfl
      rw [encR_head hr he hb2] at hb
      exact hb hc
    have hp60 : pre [60] (s.drop k) = false := by
      have := hne 60 (by decide) (by decide)
      rw [h, he]; simp [pre, List.isPrefixOf, Ne.symm this]
    have hp6047 : pre [60, 47] (s.drop k) = false := by
      have := hne 60 (by decide) (by decide)
      rw [h, he]; simp [pre, List.isPrefixOf, Ne.symm this]
    have hp38 : pre [38] (s.drop k) = false := by
      have := hne 38 (by decide) (by decide)
      rw [h, he]; simp [pre, List.isPrefixOf, Ne.symm this]
    refine ⟨o.solid || solidR c, ?_⟩
    unfold withinS
    rw [if_neg (by rw [hd]; exact hl), if_neg (by rw [hp60]; rintro ⟨h, _⟩; cases h), if_neg (by rw [hp6047]; decide), if_neg (by rw [hp60]; decide), if_neg (by rw [ho]; simp), if_neg (by rw [hp38]; decide), if_neg ?_, hd]
    rw [hd]
    rintro (⟨h1, h2⟩ | h1)
    · dsimp only at h1 h2
      rcases encR_cases hr with ⟨h3, _⟩ | ⟨_, _, a, b, e, h3, h4⟩ | ⟨_, _, a, b, d, e, h3, h4, h5⟩ | ⟨_, _, a, b, d, f, e, h3, h4, h5, h6⟩
      · omega
      · rw [e] at h2; simp at h2
      · rw [e] at h2; simp at h2
      · rw [e] at h2; simp at h2
    · dsimp only at h1
      rw [hk] at h1; cases h1

/-- From one state of the loop to another, in so many rounds, each of which takes a byte at least. -/
def Goes (s : List UInt8) (k : Nat) (o : OS) (l : List OS) (k' : Nat) (o' : OS) (l' : List OS) : Prop :=
  ∃ n, n + k ≤ k' ∧ ∀ f, loopS s (f + n) k o l = loopS s f k' o' l'
theorem Goes.refl (s : List UInt8) (k : Nat) (o : OS) (l : List OS) : Goes s k o l k o l := ⟨0, by omega, fun f => rfl⟩
theorem Goes.trans {s : List UInt8} {k k' k'' : Nat} {o o' o'' : OS} {l l' l'' : List OS} (h : Goes s k o l k' o' l') (h' : Goes s k' o' l' k'' o'' l'') : Goes s k o l k'' o'' l'' := by
  obtain ⟨n, hn, e⟩ := h
  obtain ⟨m, hm, e'⟩ := h'
  exact ⟨m + n, by omega, fun f => by rw [← Nat.add_assoc, e, e']⟩
theorem Goes.step {s : List UInt8} {k k' : Nat} {o p : OS} {l l' : List OS} (h : withinS s k o l = (⟨k', none⟩, p :: l')) (hl : ¬ (l = [] ∧ pre [60, 47] (s.drop k) = true)) (hk : k < k') : Goes s k o l k' p l' :=
  ⟨1, by omega, fun f => loopS_on h hl⟩
theorem escS_enc_ne {c : Nat} (hr : isRune c) : ∃ a t, escS (encR c) = a :: t ∧ (a = 38 ∨ a ≠ 60) := by
  rw [escS_encR hr]
  cases hc : repl c with
  | some e =>
    obtain ⟨_, x, y, rfl, _⟩ := refR_repl hc []
    exact ⟨_, _, rfl, .inl rfl⟩
  | none =>
    obtain ⟨a, t, he⟩ := encR_pos hr
    refine ⟨a, t, he, .inr ?_⟩
    rintro rfl
    have := encR_head hr he (by decide)
    rw [← this] at hc
    exact absurd hc (by decide)
/-- A written text, within an element that has no kids. -/
theorem goes_text {t : List UInt8} (h : Plain t) : ∀ {s : List UInt8} {k : Nat} {o : OS} {l : List OS} {r : List UInt8}, o.kids = [] → s.drop k = escS t ++ r →
    ∃ sd, Goes s k o l (k + (escS t).length) { o with text := o.text ++ t, solid := sd } l := by
  induction h with
  | nil =>
    intro s k o l r ho hd
    exact ⟨o.solid, by rw [escS_nil, List.append_nil]; exact Goes.refl _ _ _ _⟩
  | @cons c t hr hk h ih =>
    intro s k o l r ho hd
    rw [escS_app, List.append_assoc] at hd
    obtain ⟨sd, hw⟩ := withinS_char (l := l) hr hk ho hd
    have hd2 : s.drop (k + (escS (encR c)).length) = escS t ++ r := by
      rw [← List.drop_drop, hd, List.drop_left]
    obtain ⟨sd2, hg⟩ := ih (s := s) (k := k + (escS (encR c)).length) (o := { o with text := o.text ++ encR c, solid := sd }) (l := l) (r := r) ho hd2
    obtain ⟨a, tl, ha, hx⟩ := escS_enc_ne hr
    refine ⟨sd2, ?_⟩
    rw [escS_app, List.length_append, ← Nat.add_assoc]
    have hp : pre [60, 47] (s.drop k) = false := by
      rw [hd, ha]
      rcases hx with rfl | hx
      · simp [pre, List.isPrefixOf]
      · simp [pre, List.isPrefixOf, Ne.symm hx]
    have h1 : Goes s k o l (k + (escS (encR c)).length) { o with text := o.text ++ encR c, solid := sd } l := Goes.step hw (by rw [hp]; rintro ⟨_, h⟩; cases h) (by rw [ha]; simp)
    have h2 := h1.trans hg
    simpa [List.append_assoc] using h2
end Go.Proofs.YtkjopcbleefioaaGreatDoor
