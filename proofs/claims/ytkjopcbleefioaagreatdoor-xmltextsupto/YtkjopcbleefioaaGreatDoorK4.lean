/- What is written of a right element is read as that element: the element. -/
import Derived.Test.YtkjopcbleefioaaGreatDoorK3
import Derived.Test.YtkjopcbleefioaaGreatDoorF5
namespace Go.Proofs.YtkjopcbleefioaaGreatDoor
open Go Go.RowKit
set_option linter.unusedSimpArgs false
set_option linter.unusedVariables false

mutual
/-- An element, written. -/
def wr : El → List UInt8
  | .mk n t ks => if t.length = 0 ∧ ks.length = 0 then 60 :: (n ++ [47, 62]) else 60 :: (n ++ (62 :: (escS t ++ (wrs ks ++ (60 :: 47 :: (n ++ [62]))))))
def wrs : List El → List UInt8
  | [] => []
  | k :: ks => wr k ++ wrs ks
end
mutual
theorem writeL_wr : ∀ (e : El) (b : List UInt8), (writeL b e).length ≤ 1000000 → writeL b e = b ++ wr e
  | .mk n t ks, b, h => by
    have hge := writeL_ge (.mk n t ks) b
    have hlb : ¬ 1000000 < b.length := by omega
    rw [writeL] at h ⊢
    rw [wr]
    rw [if_neg hlb] at h ⊢
    by_cases hc : t.length = 0 ∧ ks.length = 0
    · rw [if_pos hc, if_pos hc]
    · rw [if_neg hc] at h ⊢
      rw [if_neg hc, writesL_wr ks _ (by simp at h; omega)]
      simp
theorem writesL_wr : ∀ (ks : List El) (b : List UInt8), (writesL b ks).length ≤ 1000000 → writesL b ks = b ++ wrs ks
  | [], b, h => by rw [writesL, wrs, List.append_nil]
  | k :: ks, b, h => by
    rw [writesL] at h ⊢
    have hge := writesL_ge ks (writeL b k)
    rw [writesL_wr ks _ h, writeL_wr k b (by omega), wrs, List.append_assoc]
end
mutual
/-- A right element, with so many around it. -/
def Good : El → Nat → Prop
  | .mk n t ks, a => nameG n ∧ Plain t ∧ a < 20 ∧ (ks ≠ [] → t = []) ∧ Goods ks (a + 1)
def Goods : List El → Nat → Prop
  | [], _ => True
  | k :: ks, a => Good k a ∧ Goods ks a
end
mutual
theorem rightS_good : ∀ (e : El) (a : Nat) (l : Int), a ≤ 20 → (rightS e a l).1 = true → Good e a
  | .mk n t ks, a, l, ha, h => by
    rw [rightS] at h
    rw [Good]
    split at h
    · cases h
    · rename_i hb
      rw [Bool.not_eq_true, Bool.or_eq_false_iff] at hb
      obtain ⟨hb1, hb2⟩ := hb
      unfold headB at hb1
      unfold bodyB at hb2
      simp only [Bool.or_eq_false_iff, decide_eq_false_iff_not, Bool.not_eq_false', Bool.and_eq_false_iff] at hb1 hb2
      obtain ⟨⟨⟨⟨⟨h1, h2⟩, h3⟩, h4⟩, h5⟩, h6⟩ := hb1
      obtain ⟨h7, h8⟩ := hb2
      refine ⟨⟨?_, by omega, h5, ?_⟩, Plain.of h8, by omega, ?_, rightsS_good ks (a + 1) (l - 1) (by omega) h⟩
      · rintro rfl; exact absurd h3 (by decide)
      · intro b hb
        have := List.any_eq_false.1 h7 b hb
        simpa using this
      · intro hk
        rcases h6 with h6 | h6
        · exact absurd (List.length_pos_iff.2 hk) h6
        · cases t with
          | nil => rfl
          | cons x t => exact absurd h6 (by simp)
theorem rightsS_good : ∀ (ks : List El) (a : Nat) (l : Int), a ≤ 20 → (rightsS ks a l).1 = true → Goods ks a
  | [], a, l, ha, h => by rw [Goods]; trivial
  | k :: ks, a, l, ha, h => by
    rw [rightsS] at h
    rw [Goods]
    split at h
    · rename_i hk
      exact ⟨rightS_good k a l ha hk, rightsS_good ks a _ ha h⟩
    · cases h
end
theorem wr_ne (e : El) : wr e ≠ [] := by
  cases e with
  | mk n t ks => rw [wr]; split <;> simp
mutual
theorem goes_kid : ∀ (e : El) {s : List UInt8} {k : Nat} {o : OS} {l : List OS} {r : List UInt8}, Good e (l.length + 1) → s.drop k = wr e ++ r → o.solid = false →
    Goes s k o l (k + (wr e).length) { o with kids := o.kids ++ [e] } l
  | .mk n t ks, s, k, o, l, r, hg, hd, ho => by
    rw [Good] at hg
    obtain ⟨hn, ht, ha, htk, hks⟩ := hg
    rw [wr] at hd ⊢
    have hn1 : 1 ≤ n.length := List.length_pos_iff.2 hn.1
    have hp6047 : ∀ r', s.drop k = 60 :: (n ++ r') → pre [60, 47] (s.drop k) = false := by
      intro r' h
      obtain ⟨h0, h1, h2, h3⟩ := hn
      cases n with
      | nil => exact absurd rfl h0
      | cons c n =>
        have hc : c ≠ 47 := by
          rintro rfl
          have h2 : firstB (47 : UInt8).toNat = true := h2
          exact absurd h2 (by decide)
        rw [h]; simp [pre, List.isPrefixOf, Ne.symm hc]
    by_cases hc : t.length = 0 ∧ ks.length = 0
    · rw [if_pos hc] at hd ⊢
      have hd' : s.drop k = 60 :: (n ++ 47 :: 62 :: r) := by rw [hd]; simp
      have hw := withinS_begin (l := l) hn ho hd' (by simp)
      rw [beginS_leaf hn (by omega) hd'] at hw
      have ht0 : t = [] := List.eq_nil_of_length_eq_zero hc.1
      have hk0 : ks = [] := List.eq_nil_of_length_eq_zero hc.2
      subst ht0; subst hk0
      have hl : (60 :: (n ++ [47, 62])).length = n.length + 3 := by simp
      rw [hl]
      exact Goes.step hw (by rw [hp6047 _ hd']; rintro ⟨_, h⟩; cases h) (by omega)
    · rw [if_neg hc] at hd ⊢
      have hd' : s.drop k = 60 :: (n ++ 62 :: (escS t ++ (wrs ks ++ (60 :: 47 :: (n ++ 62 :: r))))) := by rw [hd]; simp
      have hw := withinS_begin (l := l) hn ho hd' (by simp)
      rw [beginS_open hn (by omega) hd'] at hw
      have g1 : Goes s k o l (k + (n.length + 2)) ⟨n, [], [], false⟩ (o :: l) := Goes.step hw (by rw [hp6047 _ hd']; rintro ⟨_, h⟩; cases h) (by omega)
      have e1 : s.drop (k + (n.length + 2)) = escS t ++ (wrs ks ++ (60 :: 47 :: (n ++ 62 :: r))) := by
        have := drop_next1 (drop_next (drop_next1 hd'))
        rw [← this]; congr 1; omega
      have g2 : ∃ sd, (ks ≠ [] → sd = false) ∧ Goes s (k + (n.length + 2)) ⟨n, [], [], false⟩ (o :: l) (k + (n.length + 2) + (escS t).length) ⟨n, t, [], sd⟩ (o :: l) := by
        by_cases hk : ks = []
        · obtain ⟨sd, g⟩ := goes_text ht (o := ⟨n, [], [], false⟩) (l := o :: l) rfl e1
          exact ⟨sd, fun h => absurd hk h, g⟩
        · have := htk hk
          subst this
          exact ⟨false, fun _ => rfl, by rw [escS_nil]; exact Goes.refl _ _ _ _⟩
      obtain ⟨sd, hsd, g2⟩ := g2
      have e2 := drop_next e1
      have g3 : Goes s (k + (n.length + 2) + (escS t).length) ⟨n, t, [], sd⟩ (o :: l) (k + (n.length + 2) + (escS t).length + (wrs ks).length) ⟨n, t, ks, sd⟩ (o :: l) := by
        by_cases hk : ks = []
        · subst hk
          rw [wrs]; exact Goes.refl _ _ _ _
        · exact goes_kids ks (o := ⟨n, t, [], sd⟩) (l := o :: l) hks e2 (hsd hk)
      have e3 := drop_next e2
      have hw2 := withinS_close (o := ⟨n, t, ks, sd⟩) (l := o :: l) e3
      have g4 : Goes s (k + (n.length + 2) + (escS t).length + (wrs ks).length) ⟨n, t, ks, sd⟩ (o :: l) (k + (n.length + 2) + (escS t).length + (wrs ks).length + (n.length + 3)) { o with kids := o.kids ++ [OS.el ⟨n, t, ks, sd⟩] } l :=
        Goes.step hw2 (by rintro ⟨h, _⟩; cases h) (by omega)
      have hel : OS.el ⟨n, t, ks, sd⟩ = .mk n t ks := by
        unfold OS.el elT
        dsimp only
        by_cases hk : ks.length = 0
        · rw [if_pos hk]
        · rw [if_neg hk, htk (by rintro rfl; exact hk rfl)]
      rw [hel] at g4
      have := ((g1.trans g2).trans g3).trans g4
      have hl : (60 :: (n ++ (62 :: (escS t ++ (wrs ks ++ (60 :: 47 :: (n ++ [62]))))))).length = (n.length + 2) + (escS t).length + (wrs ks).length + (n.length + 3) := by simp; omega
      rw [hl]
      simpa [Nat.add_assoc] using this
theorem goes_kids : ∀ (ks : List El) {s : List UInt8} {k : Nat} {o : OS} {l : List OS} {r : List UInt8}, Goods ks (l.length + 1) → s.drop k = wrs ks ++ r → o.solid = false →
    Goes s k o l (k + (wrs ks).length) { o with kids := o.kids ++ ks } l
  | [], s, k, o, l, r, hg, hd, ho => by
    rw [wrs, List.append_nil]; exact Goes.refl _ _ _ _
  | e :: ks, s, k, o, l, r, hg, hd, ho => by
    rw [Goods] at hg
    rw [wrs, List.append_assoc] at hd
    have g1 := goes_kid e (o := o) hg.1 hd ho
    have g2 := goes_kids ks (o := { o with kids := o.kids ++ [e] }) hg.2 (drop_next hd) ho
    have := g1.trans g2
    rw [wrs, List.length_append, ← Nat.add_assoc]
    simpa using this
end

/-- The outermost element. -/
theorem element_wr {e : El} {s r : List UInt8} {k : Nat} (hg : Good e 0) (hd : s.drop k = wr e ++ r) : elementS s k = (⟨k + (wr e).length, none⟩, some e) := by
  obtain ⟨n, t, ks⟩ := e
  rw [Good] at hg
  obtain ⟨hn, ht, ha, htk, hks⟩ := hg
  rw [wr] at hd ⊢
  have hn1 : 1 ≤ n.length := List.length_pos_iff.2 hn.1
  by_cases hc : t.length = 0 ∧ ks.length = 0
  · rw [if_pos hc] at hd ⊢
    have hd' : s.drop k = 60 :: (n ++ 47 :: 62 :: r) := by rw [hd]; simp
    have ht0 : t = [] := List.eq_nil_of_length_eq_zero hc.1
    have hk0 : ks = [] := List.eq_nil_of_length_eq_zero hc.2
    subst ht0; subst hk0
    have hl : (60 :: (n ++ [47, 62])).length = n.length + 3 := by simp
    unfold elementS
    rw [hl, beginS_leaf hn (by omega) hd']
  · rw [if_neg hc] at hd ⊢
    have hd' : s.drop k = 60 :: (n ++ 62 :: (escS t ++ (wrs ks ++ (60 :: 47 :: (n ++ 62 :: r))))) := by rw [hd]; simp
    have e1 : s.drop (k + (n.length + 2)) = escS t ++ (wrs ks ++ (60 :: 47 :: (n ++ 62 :: r))) := by
      have := drop_next1 (drop_next (drop_next1 hd'))
      rw [← this]; congr 1; omega
    have g2 : ∃ sd, (ks ≠ [] → sd = false) ∧ Goes s (k + (n.length + 2)) ⟨n, [], [], false⟩ [] (k + (n.length + 2) + (escS t).length) ⟨n, t, [], sd⟩ [] := by
      by_cases hk : ks = []
      · obtain ⟨sd, g⟩ := goes_text ht (o := ⟨n, [], [], false⟩) (l := []) rfl e1
        exact ⟨sd, fun h => absurd hk h, g⟩
      · have := htk hk
        subst this
        exact ⟨false, fun _ => rfl, by rw [escS_nil]; exact Goes.refl _ _ _ _⟩
    obtain ⟨sd, hsd, g2⟩ := g2
    have e2 := drop_next e1
    have g3 : Goes s (k + (n.length + 2) + (escS t).length) ⟨n, t, [], sd⟩ [] (k + (n.length + 2) + (escS t).length + (wrs ks).length) ⟨n, t, ks, sd⟩ [] := by
      by_cases hk : ks = []
      · subst hk
        rw [wrs]; exact Goes.refl _ _ _ _
      · exact goes_kids ks (o := ⟨n, t, [], sd⟩) (l := []) hks e2 (hsd hk)
    have e3 := drop_next e2
    have hw2 := withinS_close (o := ⟨n, t, ks, sd⟩) (l := []) e3
    have hel : OS.el ⟨n, t, ks, sd⟩ = .mk n t ks := by
      unfold OS.el elT
      dsimp only
      by_cases hk : ks.length = 0
      · rw [if_pos hk]
      · rw [if_neg hk, htk (by rintro rfl; exact hk rfl)]
    obtain ⟨m, hm, g⟩ := g2.trans g3
    have hs : k + (n.length + 2) + (escS t).length + (wrs ks).length < s.length := by
      have := congrArg List.length e3
      rw [List.length_drop] at this
      simp at this
      omega
    obtain ⟨f, hf⟩ : ∃ f, s.length + 1 = (f + 1) + m := ⟨s.length - m, by omega⟩
    unfold elementS
    rw [beginS_open hn (by omega) hd']
    dsimp only
    rw [hf, g, loopS_last hw2 (by rw [e3]; simp [pre, List.isPrefixOf]), hel]
    have hl : (60 :: (n ++ (62 :: (escS t ++ (wrs ks ++ (60 :: 47 :: (n ++ [62]))))))).length = (n.length + 2) + (escS t).length + (wrs ks).length + (n.length + 3) := by simp; omega
    rw [hl]
    dsimp only
    rw [show k + (n.length + 2) + (escS t).length + (wrs ks).length + (n.length + 3) = k + ((n.length + 2) + (escS t).length + (wrs ks).length + (n.length + 3)) by omega]
theorem indexByte_app {p : List UInt8} {c : UInt8} (h : ∀ b ∈ p, b ≠ c) (r : List UInt8) : Lib.indexByte (p ++ c :: r) c = p.length := by
  induction p with
  | nil => simp [Lib.indexByte]
  | cons b p ih =>
    have hb := h b (by simp)
    rw [List.cons_append, Lib.indexByte, if_neg (by simpa using hb), ih (fun x hx => h x (by simp [hx])), if_neg (by rw [beq_iff_eq]; omega)]
    simp
set_option maxRecDepth 100000 in
/-- The head that Write lays. -/
theorem head_wr (r : List UInt8) (a : UInt8) (ha : isBlank a = false) : headS (headL ++ a :: r) = ⟨39, none⟩ := by
  have h0 : blanksS (headL ++ a :: r) ⟨0, none⟩ = ⟨0, none⟩ := blanksS_zero (a := 60) (by decide) rfl
  have hp : pre [60, 63] ((headL ++ a :: r).drop 0) = true := rfl
  have hw : wantS (headL ++ a :: r) [60, 63, 120, 109, 108] ⟨0, none⟩ = ⟨5, none⟩ := wantS_ok rfl
  have hi : ixB ((headL ++ a :: r).drop 5) 63 = 31 := indexByte_app (p := [32, 118, 101, 114, 115, 105, 111, 110, 61, 34, 49, 46, 48, 34, 32, 101, 110, 99, 111, 100, 105, 110, 103, 61, 34, 85, 84, 70, 45, 56, 34]) (c := 63) (by decide) (62 :: 10 :: a :: r)
  have hw2 : wantS (headL ++ a :: r) [63, 62] ⟨36, none⟩ = ⟨38, none⟩ := wantS_ok rfl
  have hb : blanksS (headL ++ a :: r) ⟨38, none⟩ = ⟨39, none⟩ := by
    have hd : (headL ++ a :: r).drop 38 = 10 :: a :: r := rfl
    unfold blanksS
    dsimp only
    rw [hd, blanksN_cons, if_pos (by decide), blanksN_zero ha]
  unfold headS
  rw [h0]
  dsimp only
  rw [if_pos hp, hw]
  simp only [Option.isSome_none, Bool.false_eq_true, if_false]
  rw [hi, show (if (0 : Int) ≤ 31 then 5 + (31 : Int).toNat else (headL ++ a :: r).length) = 36 from rfl, hw2]
  simp only [Option.isSome_none, Bool.false_eq_true, if_false]
  exact hb
/-- WHAT IS WRITTEN OF ANY ELEMENT IS READ AS THAT ELEMENT. -/
theorem parse_write {e : El} {d : List UInt8} (h : writeS e = (d, 0)) (hd : d.length ≤ 8000) : parseS d = .ok e := by
  unfold writeS at h
  split at h
  · rename_i hr
    split at h
    · injection h with _ h; cases h
    · rename_i hl
      injection h with h _
      have hw := writeL_wr e headL (by omega)
      rw [hw] at h
      subst h
      have hg := rightS_good e 0 20000 (by omega) hr
      obtain ⟨x, hx⟩ : ∃ x, wr e = 60 :: x := by
        cases e with
        | mk n t ks => rw [wr]; split <;> exact ⟨_, rfl⟩
      unfold parseS
      rw [if_neg (by omega)]
      have hh : headS (headL ++ wr e) = ⟨39, none⟩ := by rw [hx]; exact head_wr x 60 (by decide)
      rw [hh]
      dsimp only
      have hdr : (headL ++ wr e).drop 39 = wr e ++ [] := by rw [List.append_nil]; exact List.drop_left (l₁ := headL)
      rw [element_wr hg hdr]
      dsimp only
      have hend : (headL ++ wr e).drop (39 + (wr e).length) = [] := List.drop_eq_nil_of_le (by rw [List.length_append]; exact Nat.le_refl _)
      have hb : (blanksS (headL ++ wr e) ⟨39 + (wr e).length, none⟩).at_ = 39 + (wr e).length := by
        unfold blanksS
        dsimp only
        rw [hend]; rfl
      rw [hb, if_neg (by rw [List.length_append]; simp [headL])]
  · injection h with _ h; cases h
end Go.Proofs.YtkjopcbleefioaaGreatDoor
