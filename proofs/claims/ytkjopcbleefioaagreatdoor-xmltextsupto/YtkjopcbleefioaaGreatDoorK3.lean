/- What is written of a right element is read as that element: plain. -/
import Derived.Test.YtkjopcbleefioaaGreatDoorK2
namespace Go.Proofs.YtkjopcbleefioaaGreatDoor
open Go Go.RowKit
set_option linter.unusedSimpArgs false
set_option linter.unusedVariables false

/-- A name. -/
def nameG (n : List UInt8) : Prop := n ≠ [] ∧ n.length ≤ 100 ∧ firstB (n.getD 0 0).toNat = true ∧ ∀ b ∈ n, moreB b.toNat = true
theorem nameN_app {n : List UInt8} (h : ∀ b ∈ n, moreB b.toNat = true) {a : UInt8} (ha : nameOk [] a = false) (r : List UInt8) : nameN [] (n ++ a :: r) = n.length := by
  induction n with
  | nil => rw [List.nil_append, nameN_cons, ha]; rfl
  | cons b n ih =>
    have hb : nameOk [] b = true := by unfold nameOk; rw [h b (by simp)]; rfl
    rw [List.cons_append, nameN_cons, hb, if_pos rfl, ih (fun x hx => h x (by simp [hx]))]
    rfl
theorem drop_getD {s : List UInt8} {k : Nat} {a : UInt8} {r : List UInt8} (h : s.drop k = a :: r) : s[k]? = some a := by
  have := congrArg (·[0]?) h
  simpa using this
theorem nameS_app {s n r : List UInt8} {k : Nat} {a : UInt8} (hn : nameG n) (ha : nameOk [] a = false) (h : s.drop k = n ++ a :: r) : nameS [] s ⟨k, none⟩ = (⟨k + n.length, none⟩, n) := by
  obtain ⟨h0, h1, h2, h3⟩ := hn
  cases n with
  | nil => exact absurd rfl h0
  | cons c n =>
    unfold nameS
    have hg : s[k]? = some c := drop_getD h
    dsimp only
    rw [hg]
    dsimp only
    rw [if_pos (by simpa using h2), h, nameN_app h3 ha r, if_pos h1]
    simp
theorem blanksN_zero {a : UInt8} (ha : isBlank a = false) (r : List UInt8) : blanksN (a :: r) = 0 := by rw [blanksN_cons, ha]; rfl
theorem blanksS_zero {s : List UInt8} {k : Nat} {a : UInt8} {r : List UInt8} {o : Option (Int × Int)} (ha : isBlank a = false) (h : s.drop k = a :: r) : blanksS s ⟨k, o⟩ = ⟨k, o⟩ := by
  unfold blanksS
  dsimp only
  rw [h, blanksN_zero ha]
  rfl
theorem attrS_end' {s : List UInt8} {k f : Nat} {a : UInt8} {r : List UInt8} (ha : a = 47 ∨ a = 62) (h : s.drop k = a :: r) : attrS s (f + 1) ⟨k, none⟩ = ⟨k, none⟩ := by
  have hb : blanksS s ⟨k, none⟩ = ⟨k, none⟩ := blanksS_zero (by rcases ha with rfl | rfl <;> decide) h
  have hR : attrR s ⟨k, none⟩ = (⟨k, none⟩, false) := by
    unfold attrR
    rw [hb]
    dsimp only
    rw [h]
    rcases ha with rfl | rfl
    · rw [if_pos (by simp [pre, List.isPrefixOf])]
    · rw [if_neg (by simp [pre, List.isPrefixOf]), if_pos (by simp [pre, List.isPrefixOf])]
  rw [attrS, hR]
  rfl
theorem drop_next {s : List UInt8} {k : Nat} {x r : List UInt8} (h : s.drop k = x ++ r) : s.drop (k + x.length) = r := by
  rw [← List.drop_drop, h, List.drop_left]
theorem drop_next1 {s : List UInt8} {k : Nat} {a : UInt8} {r : List UInt8} (h : s.drop k = a :: r) : s.drop (k + 1) = r := drop_next (x := [a]) h
theorem beginS_head {s n r : List UInt8} {k m : Nat} {a : UInt8} (hn : nameG n) (ha : a = 47 ∨ a = 62) (hm : m ≠ 20) (h : s.drop k = 60 :: (n ++ a :: r)) :
    beginS s m ⟨k, none⟩ = if a = 47 then (wantS s [62] ⟨k + 1 + n.length + 1, none⟩, some n, false) else (⟨k + 1 + n.length + 1, none⟩, some n, true) := by
  have h1 := drop_next1 h
  have h2 := drop_next h1
  have hw : wantS s [60] ⟨k, none⟩ = ⟨k + 1, none⟩ := wantS_ok (by rw [h]; simp [pre, List.isPrefixOf])
  have hnm : nameS [] s ⟨k + 1, none⟩ = (⟨k + 1 + n.length, none⟩, n) := nameS_app hn (by rcases ha with rfl | rfl <;> decide) h1
  have hat : attrS s (s.length + 1) ⟨k + 1 + n.length, none⟩ = ⟨k + 1 + n.length, none⟩ := attrS_end' ha h2
  unfold beginS
  rw [if_neg (fun h => hm h.1), hw]
  dsimp only
  rw [if_neg (by simp), hnm]
  dsimp only
  rw [if_neg (by simp), hat]
  dsimp only
  rw [if_neg (by simp), h2]
  rcases ha with rfl | rfl
  · rw [if_pos (by simp [pre, List.isPrefixOf]), if_pos rfl]
  · rw [if_neg (by simp [pre, List.isPrefixOf]), if_neg (by decide)]
theorem beginS_open {s n r : List UInt8} {k m : Nat} (hn : nameG n) (hm : m ≠ 20) (h : s.drop k = 60 :: (n ++ 62 :: r)) : beginS s m ⟨k, none⟩ = (⟨k + (n.length + 2), none⟩, some n, true) := by
  rw [beginS_head hn (.inr rfl) hm h, if_neg (by decide)]
  congr 2; omega
theorem beginS_leaf {s n r : List UInt8} {k m : Nat} (hn : nameG n) (hm : m ≠ 20) (h : s.drop k = 60 :: (n ++ 47 :: 62 :: r)) : beginS s m ⟨k, none⟩ = (⟨k + (n.length + 3), none⟩, some n, false) := by
  rw [beginS_head hn (.inl rfl) hm h, if_pos rfl, wantS_ok]
  · congr 2; simp; omega
  · have h1 := drop_next1 h
    have h2 := drop_next h1
    rw [drop_next1 h2]; simp [pre, List.isPrefixOf]
/-- The end of an element. -/
theorem withinS_close {s r : List UInt8} {k : Nat} {o : OS} {l : List OS} (h : s.drop k = 60 :: 47 :: (o.name ++ 62 :: r)) : withinS s k o l = (⟨k + (o.name.length + 3), none⟩, endS none (o :: l)) := by
  have hd : decR (s.drop k) = (60, 1) := by rw [h]; exact decR_ascii (by decide)
  have h1 := drop_next (x := [60, 47]) h
  have h2 := drop_next h1
  have hl : s.length ≠ k + 1 := by
    intro e
    have := congrArg List.length h
    rw [List.length_drop] at this
    simp at this; omega
  have hw1 : wantS s o.name ⟨k + 2, none⟩ = ⟨k + 2 + o.name.length, none⟩ := wantS_ok (by rw [show s.drop (k + 2) = _ from h1]; exact pre_app _ _)
  have hb : blanksS s ⟨k + 2 + o.name.length, none⟩ = ⟨k + 2 + o.name.length, none⟩ := blanksS_zero (by decide) h2
  have hw2 : wantS s [62] ⟨k + 2 + o.name.length, none⟩ = ⟨k + 2 + o.name.length + 1, none⟩ := wantS_ok (by rw [show s.drop (k + 2 + o.name.length) = _ from h2]; simp [pre, List.isPrefixOf])
  unfold withinS
  rw [if_neg (by rw [hd]; decide), if_neg (fun x => hl x.2.symm), if_pos (by rw [h]; simp [pre, List.isPrefixOf])]
  dsimp only
  rw [hw1]
  simp only [Option.isSome_none, Bool.false_eq_true, if_false]
  rw [hb, hw2]
  congr 2; omega
/-- A beginning, within an element. -/
theorem withinS_begin {s n r : List UInt8} {k : Nat} {o : OS} {l : List OS} (hn : nameG n) (ho : o.solid = false) (h : s.drop k = 60 :: (n ++ r)) (hr : r ≠ []) :
    withinS s k o l = ((beginS s (l.length + 1) ⟨k, none⟩).1, if (beginS s (l.length + 1) ⟨k, none⟩).2.2 then pushed (beginS s (l.length + 1) ⟨k, none⟩).2.1 (o :: l) else endS (beginS s (l.length + 1) ⟨k, none⟩).1.bad (pushed (beginS s (l.length + 1) ⟨k, none⟩).2.1 (o :: l))) := by
  have hd : decR (s.drop k) = (60, 1) := by rw [h]; exact decR_ascii (by decide)
  obtain ⟨h0, h1, h2, h3⟩ := hn
  cases n with
  | nil => exact absurd rfl h0
  | cons c n =>
    have hc : c ≠ 47 := by
      rintro rfl
      have h2 : firstB (47 : UInt8).toNat = true := h2
      exact absurd h2 (by decide)
    have hl : s.length ≠ k + 1 := by
      intro e
      have := congrArg List.length h
      rw [List.length_drop] at this
      simp at this; omega
    unfold withinS
    rw [if_neg (by rw [hd]; decide), if_neg (fun x => hl x.2.symm), if_neg (by rw [h]; simp [pre, List.isPrefixOf, Ne.symm hc]), if_pos (by rw [h]; simp [pre, List.isPrefixOf]), ho]
    rfl
end Go.Proofs.YtkjopcbleefioaaGreatDoor
