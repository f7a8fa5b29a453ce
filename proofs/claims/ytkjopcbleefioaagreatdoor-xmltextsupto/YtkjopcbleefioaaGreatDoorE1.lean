/- element: the outermost element; the plain account and the walk. -/
import Derived.Test.YtkjopcbleefioaaGreatDoorE0
import Derived.Test.YtkjopcbleefioaaGreatDoorW2
namespace Go.Proofs.YtkjopcbleefioaaGreatDoor
open Go Go.RowKit
set_option linter.unusedSimpArgs false
set_option linter.unusedVariables false

def loopS (s : List UInt8) : Nat → Nat → OS → List OS → St × Option El
  | 0, k, _, _ => (⟨k, none⟩, none)
  | f + 1, k, o, l =>
    match withinS s k o l with
    | (⟨k', some b⟩, _) => (⟨k', some b⟩, none)
    | (⟨k', none⟩, []) => (⟨k', none⟩, none)
    | (⟨k', none⟩, p :: l') => if l = [] ∧ pre [60, 47] (s.drop k) = true then (⟨k', none⟩, some p.el) else loopS s f k' p l'
def elementS (s : List UInt8) (k : Nat) : St × Option El :=
  match beginS s 0 ⟨k, none⟩ with
  | (⟨k', none⟩, some nm, true) => loopS s (s.length + 1) k' ⟨nm, [], [], false⟩ []
  | (⟨k', none⟩, some nm, false) => (⟨k', none⟩, some (.mk nm [] []))
  | (st, _, _) => (st, none)

theorem loopS_bad {s : List UInt8} {f k k' : Nat} {b : Int × Int} {o : OS} {l L' : List OS} (h : withinS s k o l = (⟨k', some b⟩, L')) : loopS s (f + 1) k o l = (⟨k', some b⟩, none) := by
  rw [loopS, h]
theorem loopS_on {s : List UInt8} {f k k' : Nat} {o p : OS} {l l' : List OS} (h : withinS s k o l = (⟨k', none⟩, p :: l')) (hl : ¬ (l = [] ∧ pre [60, 47] (s.drop k) = true)) : loopS s (f + 1) k o l = loopS s f k' p l' := by
  rw [loopS, h]; dsimp only; rw [if_neg hl]
theorem loopS_last {s : List UInt8} {f k k' : Nat} {o p : OS} {l' : List OS} (h : withinS s k o [] = (⟨k', none⟩, p :: l')) (hl : pre [60, 47] (s.drop k) = true) : loopS s (f + 1) k o [] = (⟨k', none⟩, some p.el) := by
  rw [loopS, h]; dsimp only; rw [if_pos ⟨rfl, hl⟩]

/-- Blocks of elements, from base on. -/
def Own (w : World) (base b : Nat) : Prop := base ≤ b ∧ ∃ cs fr, w.heap[b]? = some (.cells cs 24 fr)
def ElOpt (w : World) (base : Nat) : Option El → List Value → Prop
  | none, cs => cs = [.string ⟨#[]⟩, .string ⟨#[]⟩, .slice none 0 0]
  | some e, cs => ElR w (Own w base) e cs
def ElemPost (w w' : World) (r : Nat) (s : ByteArray) (x : St × Option El) (e : Ending) : Prop :=
  ∃ a0 a1 a2 pv', e = .returned (.agg #[a0, a1, a2]) ∧ Rd w' r s x.1 pv' ∧ ElOpt w' w.heap.size x.2 [a0, a1, a2] ∧ Keeps (· = r) w w'

theorem Own.keep {w w' : World} {base base' : Nat} {D : Nat → Prop} (k : Keeps D w w') (hb : base' ≤ base) (hD : ∀ b, base ≤ b → D b → ∃ cs T fr, w.heap[b]? = some (.cells cs T fr) ∧ T ≠ 24) : ∀ b, Own w base b → w'.heap[b]? = w.heap[b]? ∧ Own w' base' b := by
  rintro b ⟨h1, cs, fr, h2⟩
  have hlt : b < w.heap.size := (Array.getElem?_eq_some_iff.1 h2).1
  have e := k.block b hlt (fun hd => by
    obtain ⟨cs', T, fr', h3, h4⟩ := hD b h1 hd
    rw [h2] at h3
    injection h3 with h3
    injection h3 with _ h3 _
    exact h4 h3.symm)
  exact ⟨e, Nat.le_trans hb h1, cs, fr, e.trans h2⟩
theorem Own.keepLt {w w' : World} {base base' : Nat} {D : Nat → Prop} (k : Keeps D w w') (hb : base' ≤ base) (hD : ∀ b, base ≤ b → ¬ D b) : ∀ b, Own w base b → w'.heap[b]? = w.heap[b]? ∧ Own w' base' b :=
  Own.keep k hb (fun b h1 h2 => absurd h2 (hD b h1))

/-- What elem hands on is the element. -/
theorem OpenIs.elR {w w' : World} {base : Nat} {K : List (Option Nat)} {g : OG} (h : OpenIs w base (Ok w base K) g) (k : Keeps (fun b => b = g.blk ∨ g.u.ownBlock = some b) w w') :
    ElR w' (Own w' base) (.mk g.name (elT g.text g.kids) g.kids) [.string (sb g.name), .string (sb (elT g.text g.kids)), g.kv] := by
  obtain ⟨hB, _, _, hu, _, cs, hkv, hks⟩ := h
  have hown : ∀ b, Own w base b → w'.heap[b]? = w.heap[b]? ∧ Own w' base b := by
    refine Own.keep k (Nat.le_refl _) ?_
    rintro b _ (rfl | e)
    · exact ⟨_, _, _, hB, by decide⟩
    · obtain ⟨c, hc⟩ := own_type hu e
      exact ⟨_, _, _, hc, by decide⟩
  have hks' : KidsR w' (Own w' base) g.kids cs := hks.mono (fun b hb => hown b ⟨hb.1, hb.2.1⟩)
  have hkv' : w'.ownsRow base 24 3 g.kv g.kids.length cs := by
    refine k.own hkv ?_
    rintro b hb (e | e)
    · exact own_ne hkv hB (by decide) (by rw [hb, e])
    · exact own_type_ne hkv hu (by decide) hb e
  obtain ⟨A, c, e, hc⟩ := own_slice hkv'
  rw [ElR]
  refine ⟨A, c, by rw [e], hc, ?_⟩
  cases hg1 : g.kids with
  | nil => rw [ElsR]; trivial
  | cons x xs =>
    obtain ⟨b, cap, e2, hb1, hb2⟩ := hkv'.form (by rw [hg1]; simp)
    have hA : A = some ⟨b, 0, none⟩ := by rw [e] at e2; injection e2
    subst hA
    have hbl : g.kv.ownBlock = some b := by rw [e]; rfl
    obtain ⟨cs', hb'⟩ := own_type hkv' hbl
    rw [hg1] at hks'
    refine KidsR.at (ok := Own w' base) ⟨hb1, cs', (0, 0), hb'⟩ (x :: xs) cs 0 hks' ?_
    intro j u hu
    have h2 := hkv'.cells (g := b) hbl j u hu
    rw [Nat.zero_add]
    cases j with
    | zero => exact h2
    | succ j => unfold Addr.add at h2; simpa using h2

theorem Inv.first {k : Nat} {nm : List UInt8} (h : nm.length ≤ 100) : Inv k [⟨nm, [], [], false⟩] := ⟨by simp, fun o ho => by
  rcases List.mem_singleton.1 ho with rfl
  exact ⟨by simp, by simp, h⟩⟩
end Go.Proofs.YtkjopcbleefioaaGreatDoor
