/- The plain account of reading: what each part takes, and that a good part goes on. -/
import Derived.Test.YtkjopcbleefioaaGreatDoorD1
namespace Go.Proofs.YtkjopcbleefioaaGreatDoor
open Go Go.RowKit
set_option linter.unusedSimpArgs false
set_option linter.unusedVariables false

/-! ### pre -/
theorem pre_iff {p l : List UInt8} : pre p l = true ↔ ∃ t, l = p ++ t := by
  unfold pre
  rw [List.isPrefixOf_iff_prefix]
  exact ⟨fun ⟨t, h⟩ => ⟨t, h.symm⟩, fun ⟨t, h⟩ => ⟨t, h.symm⟩⟩
theorem pre_app (p t : List UInt8) : pre p (p ++ t) = true := pre_iff.2 ⟨t, rfl⟩
theorem pre_len {p l : List UInt8} (h : pre p l = true) : p.length ≤ l.length := by
  obtain ⟨t, rfl⟩ := pre_iff.1 h; simp
theorem pre_cons (a b : UInt8) (p l : List UInt8) : pre (a :: p) (b :: l) = (a == b && pre p l) := rfl
theorem pre_nil (l : List UInt8) : pre [] l = true := by cases l <;> rfl
theorem pre_cons_nil (a : UInt8) (p : List UInt8) : pre (a :: p) [] = false := rfl
theorem pre_drop_lt {c : UInt8} {p s : List UInt8} {k : Nat} (h : pre (c :: p) (s.drop k) = true) : k < s.length := by
  have := pre_len h
  rw [List.length_drop, List.length_cons] at this
  omega

/-! ### want -/
theorem wantP_ok {s : List UInt8} : ∀ (p : List UInt8) (k : Nat), pre p (s.drop k) = true → wantP s p k = ⟨k + p.length, none⟩
  | [], k, _ => rfl
  | c :: p, k, h => by
    have hk := pre_drop_lt h
    have hd : s.drop k = s[k] :: s.drop (k + 1) := List.drop_eq_getElem_cons hk
    rw [hd, pre_cons, Bool.and_eq_true, beq_iff_eq] at h
    unfold wantP
    rw [if_pos (by rw [List.getElem?_eq_getElem hk, h.1]), wantP_ok p (k + 1) h.2]
    simp only [List.length_cons]
    congr 1
    omega
theorem wantP_bad {s : List UInt8} : ∀ (p : List UInt8) (k : Nat), pre p (s.drop k) = false → ∃ j, wantP s p k = ⟨j, some (55, j)⟩
  | [], k, h => by rw [pre_nil] at h; cases h
  | c :: p, k, h => by
    unfold wantP
    split
    · rename_i e
      obtain ⟨hk, e⟩ := List.getElem?_eq_some_iff.1 e
      have hd : s.drop k = s[k] :: s.drop (k + 1) := List.drop_eq_getElem_cons hk
      rw [hd, pre_cons, e] at h
      simp at h
      obtain ⟨j, hj⟩ := wantP_bad p (k + 1) h
      exact ⟨j, hj⟩
    · exact ⟨k, rfl⟩
theorem wantS_none {s p : List UInt8} {st : St} (h : (wantS s p st).bad = none) : st.bad = none ∧ pre p (s.drop st.at_) = true ∧ wantS s p st = ⟨st.at_ + p.length, none⟩ := by
  obtain ⟨k, o⟩ := st
  cases o with
  | some x => unfold wantS at h; dsimp only at h; cases h
  | none =>
    unfold wantS at h ⊢
    dsimp only at h ⊢
    cases hp : pre p (s.drop k) with
    | true => exact ⟨rfl, rfl, wantP_ok p k hp⟩
    | false =>
      obtain ⟨j, hj⟩ := wantP_bad p k hp
      rw [hj] at h; cases h
theorem wantS_ok {s p : List UInt8} {k : Nat} (h : pre p (s.drop k) = true) : wantS s p ⟨k, none⟩ = ⟨k + p.length, none⟩ := wantP_ok p k h
theorem wantS_no {s p : List UInt8} {k : Nat} (h : pre p (s.drop k) = false) : ∃ j, wantS s p ⟨k, none⟩ = ⟨j, some (55, j)⟩ := wantP_bad p k h
theorem wantS_some {s p : List UInt8} {k : Nat} {x : Int × Int} : wantS s p ⟨k, some x⟩ = ⟨k, some x⟩ := rfl

/-! ### names -/
theorem failS_bad (e a : Int) (st : St) : (failS e a st).bad ≠ none := by
  obtain ⟨k, o⟩ := st
  cases o <;> simp [failS]
/-- A name is right. -/
def nameOkB (also nm : List UInt8) : Bool := match nm with | [] => false | c :: _ => firstB c.toNat && decide (nm.length ≤ 100) && nm.all (nameOk also)
theorem first_more {b : Int} (h : firstB b = true) : moreB b = true := by unfold moreB; rw [h]; rfl
theorem takeWhile_take {α : Type} (p : α → Bool) : ∀ l : List α, l.take (l.takeWhile p).length = l.takeWhile p
  | [] => rfl
  | a :: l => by
    rw [List.takeWhile_cons]
    split
    · simp [takeWhile_take p l]
    · rfl
theorem takeWhile_ok {α : Type} (p : α → Bool) : ∀ l : List α, (l.takeWhile p).all p = true
  | [] => rfl
  | a :: l => by
    rw [List.takeWhile_cons]
    split
    · rename_i h; rw [List.all_cons, h, takeWhile_ok p l]; rfl
    · rfl
theorem nameS_none {also s : List UInt8} {st : St} (h : (nameS also s st).1.bad = none) :
    st.bad = none ∧ nameOkB also (nameS also s st).2 = true ∧ (nameS also s st).2 = (s.drop st.at_).take (nameS also s st).2.length ∧ (nameS also s st).2.length = nameN also (s.drop st.at_) ∧
      (nameS also s st).1 = ⟨st.at_ + (nameS also s st).2.length, none⟩ ∧ st.at_ < s.length := by
  obtain ⟨k, o⟩ := st
  unfold nameS at h ⊢
  dsimp only at h ⊢
  split at h
  · exact absurd h (failS_bad _ _ _)
  · rename_i c hc
    obtain ⟨hk, e⟩ := List.getElem?_eq_some_iff.1 hc
    have hd : s.drop k = s[k] :: s.drop (k + 1) := List.drop_eq_getElem_cons hk
    split at h
    · rename_i hf
      split at h
      · rename_i hn
        dsimp only at h
        rw [if_pos hf, if_pos hn]
        dsimp only
        have hl : ((s.drop k).take (nameN also (s.drop k))).length = nameN also (s.drop k) := by
          rw [List.length_take]; exact Nat.min_eq_left (nameN_le _ _)
        refine ⟨h, ?_, ?_, hl, ?_, hk⟩
        · have ht : (s.drop k).take (nameN also (s.drop k)) = (s.drop k).takeWhile (nameOk also) := takeWhile_take _ _
          rw [ht]
          have ha := takeWhile_ok (nameOk also) (s.drop k)
          have hl' : ((s.drop k).takeWhile (nameOk also)).length ≤ 100 := hn
          revert ha hl'
          rw [hd, List.takeWhile_cons, if_pos (by unfold nameOk; rw [e, first_more hf]; rfl)]
          intro ha hl'
          unfold nameOkB
          dsimp only
          rw [e] at ha hl'
          rw [e, hf, decide_eq_true hl', ha]; rfl
        · rw [hl]
        · rw [hl, h]
      · exact absurd h (failS_bad _ _ _)
    · exact absurd h (failS_bad _ _ _)
theorem nameS_le100 {also s : List UInt8} {st : St} (h : (nameS also s st).1.bad = none) : (nameS also s st).2.length ≤ 100 ∧ 1 ≤ (nameS also s st).2.length := by
  have := (nameS_none h).2.1
  revert this
  generalize (nameS also s st).2 = nm
  cases nm with
  | nil => intro h; cases h
  | cons c nm =>
    unfold nameOkB
    dsimp only
    rw [Bool.and_eq_true, Bool.and_eq_true, decide_eq_true_eq]
    intro h
    exact ⟨h.1.2, by simp⟩

/-! ### attributes -/
theorem attrR_none {s : List UInt8} {st : St} (h : (attrR s st).1.bad = none) : st.bad = none := by
  cases hb : st.bad with
  | none => rfl
  | some x =>
    exfalso
    have h1 : (blanksS s st).bad = some x := hb
    have h2 : ∀ also, (nameS also s (blanksS s st)).1.bad ≠ none := fun also e => by rw [(nameS_none e).1] at h1; cases h1
    have h3 : ∀ p, (wantS s p (nameS [58] s (blanksS s st)).1).bad ≠ none := fun p e => h2 _ (wantS_none e).1
    unfold attrR at h
    split at h
    · rw [h1] at h; cases h
    · split at h
      · rw [h1] at h; cases h
      · split at h
        · exact failS_bad _ _ _ h
        · split at h
          · exact h3 _ h
          · dsimp only at h
            split at h
            · exact h3 _ (wantS_none h).1
            · exact failS_bad _ _ _ h
theorem attrR_ge' (s : List UInt8) (st : St) : st.at_ ≤ (attrR s st).1.at_ := by
  have h1 := blanksS_ge s st
  have h2 := nameS_ge [58] s (blanksS s st)
  have h3 := wantS_ge s [61] (nameS [58] s (blanksS s st)).1
  cases hr : (attrR s st).2 with
  | true => exact Nat.le_of_lt (attrR_ge s st hr)
  | false =>
    revert hr
    unfold attrR
    split
    · intro _; exact h1
    · split
      · intro _; exact h1
      · split
        · intro _; rw [failS_at]; exact h1
        · split
          · intro _; dsimp only; omega
          · dsimp only
            split
            · intro h; cases h
            · intro _; rw [failS_at]; omega
theorem attrS_ge (s : List UInt8) : ∀ (f : Nat) (st : St), st.at_ ≤ (attrS s f st).at_
  | 0, st => Nat.le_refl _
  | f + 1, st => by
    unfold attrS
    split
    · exact Nat.le_refl _
    · split
      · exact Nat.le_trans (attrR_ge' s st) (attrS_ge s f _)
      · exact attrR_ge' s st
theorem attrS_le (s : List UInt8) : ∀ (f : Nat) (st : St), st.at_ ≤ s.length → (attrS s f st).at_ ≤ s.length
  | 0, st, h => h
  | f + 1, st, h => by
    unfold attrS
    split
    · exact h
    · split
      · exact attrS_le s f _ (attrR_le h)
      · exact attrR_le h
theorem attrS_none {s : List UInt8} : ∀ {f : Nat} {st : St}, (attrS s f st).bad = none → st.bad = none
  | 0, st, h => h
  | f + 1, st, h => by
    unfold attrS at h
    split at h
    · exact h
    · rename_i hb
      cases hb' : st.bad with
      | none => rfl
      | some x => rw [hb'] at hb; exact absurd rfl hb

/-! ### begin -/
theorem beginS_none {s : List UInt8} {n k : Nat} {st : St} {o : Option (List UInt8)} {b : Bool} (h : beginS s n ⟨k, none⟩ = (st, o, b)) (hst : st.bad = none) :
    ∃ nm, o = some nm ∧ nameOkB [] nm = true ∧ nm.length ≤ 100 ∧ k + 1 + nm.length < st.at_ ∧ st.at_ ≤ s.length ∧ n ≠ 20 ∧ pre [60] (s.drop k) = true := by
  unfold beginS at h
  dsimp only at h
  split at h
  · injection h with h1 _; rw [← h1] at hst; exact absurd hst (failS_bad _ _ _)
  · rename_i hnd
    split at h
    · rename_i hw
      injection h with h1 _
      rw [← h1] at hst; rw [hst] at hw; cases hw
    · rename_i hw
      have hw' : (wantS s [60] ⟨k, none⟩).bad = none := by
        cases hx : (wantS s [60] ⟨k, none⟩).bad with
        | none => rfl
        | some x => rw [hx] at hw; exact absurd rfl hw
      obtain ⟨_, hp, he⟩ := wantS_none hw'
      dsimp only at hp he
      simp only [List.length_cons, List.length_nil, Nat.zero_add] at he
      rw [he] at h
      have hkl := pre_drop_lt hp
      obtain ⟨⟨q, nm⟩, hq0⟩ : ∃ x, nameS [] s ⟨k + 1, none⟩ = x := ⟨_, rfl⟩
      rw [hq0] at h
      dsimp only at h
      split at h
      · rename_i hq
        injection h with h1 _
        rw [← h1] at hst; rw [hst] at hq; cases hq
      · rename_i hq
        have hq' : (nameS [] s ⟨k + 1, none⟩).1.bad = none := by
          rw [hq0]
          cases hx : q.bad with
          | none => rfl
          | some x => rw [hx] at hq; exact absurd rfl hq
        obtain ⟨_, g1, g2, g3, g4, g5⟩ := nameS_none hq'
        have g6 := nameS_le100 hq'
        have g7 := nameS_le (also := []) (s := s) (st := ⟨k + 1, none⟩) (by dsimp only; omega)
        rw [hq0] at g1 g2 g3 g4 g6 g7
        dsimp only at g1 g2 g3 g4 g5 g6 g7
        have gq : q.at_ = k + 1 + nm.length := by rw [g4]
        obtain ⟨c, hc⟩ : ∃ x, attrS s (s.length + 1) q = x := ⟨_, rfl⟩
        have hge := attrS_ge s (s.length + 1) q
        have hle := attrS_le s (s.length + 1) q g7
        have hstop := attrS_stop (s := s) (s.length + 1) q g7 (by omega) (by rw [g4])
        rw [hc] at h hge hle hstop
        split at h
        · rename_i hr
          injection h with h1 _
          rw [← h1] at hst; rw [hst] at hr; cases hr
        · have hn20 : n ≠ 20 := fun e => hnd ⟨e, hp⟩
          split at h
          · injection h with h1 h2
            injection h2 with h2 h3
            rw [← h1] at hst
            obtain ⟨_, hp2, he2⟩ := wantS_none hst
            dsimp only at hp2 he2
            have := pre_drop_lt hp2
            refine ⟨nm, h2.symm, g1, g6.1, ?_, ?_, hn20, hp⟩
            · rw [← h1, he2]; simp; omega
            · rw [← h1, he2]; simp; omega
          · rename_i h47
            injection h with h1 h2
            injection h2 with h2 h3
            have hlt : c.at_ < s.length := by
              have hb : c.bad = none := by rw [← h1] at hst; exact hst
              rcases hstop hb with h | h
              · exact pre_drop_lt h
              · exact pre_drop_lt h
            refine ⟨nm, h2.symm, g1, g6.1, ?_, ?_, hn20, hp⟩
            · rw [← h1]; dsimp only; omega
            · rw [← h1]; dsimp only; omega

/-! ### references -/
theorem encR_le4 (c : Nat) : (encR c).length ≤ 4 := by rw [encR_len]; exact (Lib.encodeRuneZ_length (c : Int)).2
theorem digV_le' (b : Nat) : True := trivial
theorem numT_is {ds : UInt8 → Bool} {base most h : Nat} {tail : List UInt8} {c n : Nat} (e : numT ds base most h tail = .is c n) : knowsB c = true ∧ h + 1 < n ∧ n ≤ h + tail.length := by
  unfold numT at e
  split at e
  · cases e
  · rename_i h1
    split at e
    · rename_i h2
      injection e with e1 e2
      subst e1; subst e2
      obtain ⟨hk, _⟩ := List.getElem?_eq_some_iff.1 h2.2.1
      exact ⟨h2.2.2, by omega, by omega⟩
    · cases e
theorem numR_is {hd : List UInt8} {ds : UInt8 → Bool} {base most : Nat} {l : List UInt8} {c n : Nat} (e : numR hd ds base most l = .is c n) : knowsB c = true ∧ hd.length + 1 < n ∧ n ≤ l.length := by
  unfold numR at e
  split at e
  · rename_i hp
    obtain ⟨h1, h2, h3⟩ := numT_is e
    have := pre_len hp
    rw [List.length_drop] at h3
    exact ⟨h1, h2, by omega⟩
  · split at e <;> cases e
theorem refR_is {l o : List UInt8} {m : Nat} (h : refR l = .is o m) : ∃ c, o = encR c ∧ knowsB c = true ∧ 1 ≤ m ∧ m ≤ l.length := by
  unfold refR at h
  split at h
  · rename_i x hx
    injection h with h1 h2
    have hm := List.mem_of_find?_eq_some hx
    have hp := pre_len (List.find?_some (p := fun x : List UInt8 × List UInt8 => pre x.1 l) hx)
    subst h1; subst h2
    simp [ents] at hm
    rcases hm with rfl | rfl | rfl | rfl | rfl
    · exact ⟨38, by decide, by decide, by simp, hp⟩
    · exact ⟨60, by decide, by decide, by simp, hp⟩
    · exact ⟨62, by decide, by decide, by simp, hp⟩
    · exact ⟨34, by decide, by decide, by simp, hp⟩
    · exact ⟨39, by decide, by decide, by simp, hp⟩
  · unfold refN at h
    split at h
    · rename_i c n e
      injection h with h1 h2
      obtain ⟨g1, g2, g3⟩ := numR_is e
      exact ⟨c, h1.symm, g1, by omega, by omega⟩
    · split at h
      · rename_i c n e
        injection h with h1 h2
        obtain ⟨g1, g2, g3⟩ := numR_is e
        exact ⟨c, h1.symm, g1, by omega, by omega⟩
      · cases h

/-! ### within -/
def OSok (k : Nat) (o : OS) : Prop := o.kids.length ≤ k ∧ o.text.length ≤ 4 * k ∧ o.name.length ≤ 100
def Inv (k : Nat) (L : List OS) : Prop := L.length ≤ 20 ∧ ∀ o ∈ L, OSok k o
theorem OSok.more {k k' : Nat} {o : OS} (h : OSok k o) (hk : k ≤ k') : OSok k' o := ⟨by have := h.1; omega, by have := h.2.1; omega, h.2.2⟩
theorem endS_inv {k k' : Nat} {L : List OS} {b : Option (Int × Int)} (h : Inv k L) (hk : k < k') : Inv k' (endS b L) := by
  unfold endS
  split
  · rename_i o p rest
    refine ⟨by have := h.1; simp at this ⊢; omega, fun x hx => ?_⟩
    rcases List.mem_cons.1 hx with rfl | hx
    · have := h.2 p (by simp)
      exact ⟨by have := this.1; simp; omega, by have := this.2.1; simp; omega, this.2.2⟩
    · exact (h.2 x (by simp [hx])).more (by omega)
  · exact ⟨h.1, fun x hx => (h.2 x hx).more (by omega)⟩
theorem endS_ne {L : List OS} {b : Option (Int × Int)} (h : L ≠ []) : endS b L ≠ [] := by
  unfold endS
  split
  · simp
  · exact h
theorem endS_one (b : Option (Int × Int)) (o : OS) : endS b [o] = [o] := by
  unfold endS
  split
  · rename_i h; cases h
  · rfl

theorem withinS_inv {s : List UInt8} {k k' : Nat} {o : OS} {l L' : List OS} (h : withinS s k o l = (⟨k', none⟩, L')) (hk : k ≤ s.length) (hi : Inv k (o :: l)) :
    k < k' ∧ k' ≤ s.length ∧ Inv k' L' ∧ L' ≠ [] ∧ (l = [] → pre [60, 47] (s.drop k) = true → L' = [o]) := by
  unfold withinS at h
  split at h
  · injection h with h _; injection h with _ h; cases h
  rename_i h0
  split at h
  · injection h with h _; injection h with _ h; cases h
  split at h
  · rename_i h47
    dsimp only at h
    injection h with h1 h2
    have hb : (wantS s [62] (if (wantS s o.name ⟨k + 2, none⟩).bad.isSome = true then wantS s o.name ⟨k + 2, none⟩ else blanksS s (wantS s o.name ⟨k + 2, none⟩))).bad = none := by rw [h1]
    have hle := wantS_ge s [62] (if (wantS s o.name ⟨k + 2, none⟩).bad.isSome = true then wantS s o.name ⟨k + 2, none⟩ else blanksS s (wantS s o.name ⟨k + 2, none⟩))
    obtain ⟨e1, e2, e3⟩ := wantS_none hb
    have hge : k + 2 ≤ (if (wantS s o.name ⟨k + 2, none⟩).bad.isSome = true then wantS s o.name ⟨k + 2, none⟩ else blanksS s (wantS s o.name ⟨k + 2, none⟩)).at_ := by
      have g1 := wantS_ge s o.name ⟨k + 2, none⟩
      have g2 := blanksS_ge s (wantS s o.name ⟨k + 2, none⟩)
      dsimp only at g1
      split
      · exact g1
      · omega
    rw [h1] at hle h2 e3
    have hlt := pre_drop_lt e2
    have hk' : k' = (if (wantS s o.name ⟨k + 2, none⟩).bad.isSome = true then wantS s o.name ⟨k + 2, none⟩ else blanksS s (wantS s o.name ⟨k + 2, none⟩)).at_ + 1 := by injection e3
    have hkk : k < k' := by omega
    subst h2
    exact ⟨hkk, by omega, endS_inv hi hkk, endS_ne (by simp), fun hl _ => by rw [hl]; exact endS_one _ _⟩
  rename_i h47
  have h47' : ∀ {p : Prop}, pre [60, 47] (s.drop k) = true → p := fun e => absurd e (by simpa using h47)
  split at h
  · rename_i h60
    split at h
    · injection h with h _; injection h with _ h; cases h
    dsimp only at h
    obtain ⟨⟨st, on, b⟩, hx⟩ : ∃ x, beginS s (l.length + 1) ⟨k, none⟩ = x := ⟨_, rfl⟩
    rw [hx] at h
    dsimp only at h
    injection h with h1 h2
    subst h1
    obtain ⟨nm, rfl, g1, g2, g3, g4, g5, _⟩ := beginS_none hx rfl
    dsimp only at g3 g4
    have hkk : k < k' := by omega
    have hi' : Inv k (pushed (some nm) (o :: l)) := by
      refine ⟨by have := hi.1; simp [pushed] at this ⊢; omega, fun x hx => ?_⟩
      rcases List.mem_cons.1 hx with rfl | hx
      · exact ⟨by simp, by simp, g2⟩
      · exact hi.2 x hx
    subst h2
    split
    · exact ⟨hkk, g4, ⟨hi'.1, fun x hx => (hi'.2 x hx).more (by omega)⟩, by simp [pushed], fun _ e => h47' e⟩
    · exact ⟨hkk, g4, endS_inv hi' hkk, endS_ne (by simp [pushed]), fun _ e => h47' e⟩
  split at h
  · injection h with h _; injection h with _ h; cases h
  have hne : s.drop k ≠ [] := fun e => h0 (by rw [e]; rfl)
  have o1 := hi.2 o (by simp)
  split at h
  · split at h
    · rename_i t m hr
      injection h with h1 h2
      injection h1 with h1 _
      subst h1; subst h2
      obtain ⟨c, rfl, hc, hm, hml⟩ := refR_is hr
      rw [List.length_drop] at hml
      refine ⟨by omega, by omega, ⟨by have := hi.1; simpa using this, fun x hx => ?_⟩, by simp, fun _ e => h47' e⟩
      rcases List.mem_cons.1 hx with rfl | hx
      · have := encR_le4 c
        exact ⟨by have := o1.1; simp; omega, by have := o1.2.1; simp; omega, o1.2.2⟩
      · exact (hi.2 x (by simp [hx])).more (by omega)
    · injection h with h _; injection h with _ h; cases h
  split at h
  · injection h with h _; injection h with _ h; cases h
  injection h with h1 h2
  injection h1 with h1 _
  subst h1; subst h2
  have n1 := decR_pos hne
  have n2 := decR_le (s.drop k)
  rw [List.length_drop] at n2
  refine ⟨by omega, by omega, ⟨by have := hi.1; simpa using this, fun x hx => ?_⟩, by simp, fun _ e => h47' e⟩
  rcases List.mem_cons.1 hx with rfl | hx
  · have := encR_le4 (decR (s.drop k)).1
    exact ⟨by have := o1.1; simp; omega, by have := o1.2.1; simp; omega, o1.2.2⟩
  · exact (hi.2 x (by simp [hx])).more (by omega)
end Go.Proofs.YtkjopcbleefioaaGreatDoor
