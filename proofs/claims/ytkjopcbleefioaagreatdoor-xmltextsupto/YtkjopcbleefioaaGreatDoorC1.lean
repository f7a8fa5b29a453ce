/- Elements as they lie in memory; the pile of open ones; the reader with its pile. -/
import Derived.Test.YtkjopcbleefioaaGreatDoorA7
import Derived.Test.YtkjopcbleefioaaGreatDoorB1
namespace Go.Proofs.YtkjopcbleefioaaGreatDoor
open Go Go.RowKit
set_option linter.unusedSimpArgs false
set_option linter.unusedVariables false

/-- An element. -/
inductive El where
  | mk (name text : List UInt8) (kids : List El)
def El.name : El → List UInt8 | .mk n _ _ => n
def El.text : El → List UInt8 | .mk _ t _ => t
def El.kids : El → List El | .mk _ _ k => k

mutual
/-- Three cells that are an element, its kids in blocks of which 'ok' holds. -/
def ElR (w : World) (ok : Nat → Prop) : El → List Value → Prop
  | .mk n t ks, cs => ∃ a cap, cs = [.string (sb n), .string (sb t), .slice a ks.length cap] ∧ ks.length ≤ cap ∧ ElsR w ok ks a
/-- Elements, one behind the other, from an address on. -/
def ElsR (w : World) (ok : Nat → Prop) : List El → Option Addr → Prop
  | [], _ => True
  | k :: ks, a => ∃ b off c0 c1 c2, a = some ⟨b, off, none⟩ ∧ ok b ∧ w.cell? ⟨b, off, none⟩ = some c0 ∧ w.cell? ⟨b, off + 1, none⟩ = some c1 ∧ w.cell? ⟨b, off + 2, none⟩ = some c2 ∧ ElR w ok k [c0, c1, c2] ∧ ElsR w ok ks (some ⟨b, off + 3, none⟩)
end

mutual
theorem ElR.mono {w w' : World} {ok ok' : Nat → Prop} (h : ∀ b, ok b → w'.heap[b]? = w.heap[b]? ∧ ok' b) : ∀ (e : El) (cs : List Value), ElR w ok e cs → ElR w' ok' e cs
  | .mk n t ks, cs => by
    rw [ElR, ElR]
    rintro ⟨a, cap, hc, hl, hk⟩
    exact ⟨a, cap, hc, hl, ElsR.mono h ks a hk⟩
theorem ElsR.mono {w w' : World} {ok ok' : Nat → Prop} (h : ∀ b, ok b → w'.heap[b]? = w.heap[b]? ∧ ok' b) : ∀ (ks : List El) (a : Option Addr), ElsR w ok ks a → ElsR w' ok' ks a
  | [], _ => by intro _; rw [ElsR]; trivial
  | k :: ks, a => by
    rw [ElsR, ElsR]
    rintro ⟨b, off, c0, c1, c2, ha, hb, h0, h1, h2, hk, hks⟩
    have hw := h b hb
    have cell : ∀ o, w'.cell? ⟨b, o, none⟩ = w.cell? ⟨b, o, none⟩ := fun o => World.cell?_of_block (w := w) (w' := w') (a := ⟨b, o, none⟩) hw.1
    exact ⟨b, off, c0, c1, c2, ha, hw.2, (cell _).trans h0, (cell _).trans h1, (cell _).trans h2, ElR.mono h k _ hk, ElsR.mono h ks _ hks⟩
end

/-- Cells, three an element. -/
def KidsR (w : World) (ok : Nat → Prop) : List El → List Value → Prop
  | [], cs => cs = []
  | k :: ks, cs => ∃ c0 c1 c2 r, cs = c0 :: c1 :: c2 :: r ∧ ElR w ok k [c0, c1, c2] ∧ KidsR w ok ks r

theorem KidsR.mono {w w' : World} {ok ok' : Nat → Prop} (h : ∀ b, ok b → w'.heap[b]? = w.heap[b]? ∧ ok' b) : ∀ (ks : List El) (cs : List Value), KidsR w ok ks cs → KidsR w' ok' ks cs
  | [], _, hk => hk
  | k :: ks, _, ⟨c0, c1, c2, r, e, h1, h2⟩ => ⟨c0, c1, c2, r, e, ElR.mono h k _ h1, KidsR.mono h ks r h2⟩
theorem KidsR.length {w : World} {ok : Nat → Prop} : ∀ (ks : List El) (cs : List Value), KidsR w ok ks cs → cs.length = ks.length * 3
  | [], _, h => by rw [h]; rfl
  | k :: ks, _, ⟨c0, c1, c2, r, e, h1, h2⟩ => by
    have := KidsR.length ks r h2
    rw [e]; simp [this]; omega
theorem KidsR.snoc {w : World} {ok : Nat → Prop} {x : El} {d0 d1 d2 : Value} (hx : ElR w ok x [d0, d1, d2]) : ∀ (ks : List El) (cs : List Value), KidsR w ok ks cs → KidsR w ok (ks ++ [x]) (cs ++ [d0, d1, d2])
  | [], _, h => by rw [h]; exact ⟨d0, d1, d2, [], rfl, hx, rfl⟩
  | k :: ks, _, ⟨c0, c1, c2, r, e, h1, h2⟩ => ⟨c0, c1, c2, r ++ [d0, d1, d2], by rw [e]; rfl, h1, KidsR.snoc hx ks r h2⟩
/-- Cells in a row are elements there. -/
theorem KidsR.at {w : World} {ok : Nat → Prop} {b : Nat} (hb : ok b) : ∀ (ks : List El) (cs : List Value) (off : Nat), KidsR w ok ks cs → (∀ j u, cs[j]? = some u → w.cell? ⟨b, off + j, none⟩ = some u) → ElsR w ok ks (some ⟨b, off, none⟩)
  | [], _, _, _, _ => by rw [ElsR]; trivial
  | k :: ks, _, off, ⟨c0, c1, c2, r, e, h1, h2⟩, hc => by
    subst e
    rw [ElsR]
    refine ⟨b, off, c0, c1, c2, rfl, hb, hc 0 c0 rfl, hc 1 c1 rfl, hc 2 c2 rfl, h1, KidsR.at hb ks r (off + 3) h2 ?_⟩
    intro j u hu
    have := hc (j + 3) u (by simpa using hu)
    rwa [show off + (j + 3) = off + 3 + j by omega] at this

/-- A block that elements may lie in: of the reader's own, of elements, and none of those that are still written to. -/
def Ok (w : World) (base : Nat) (K : List (Option Nat)) (b : Nat) : Prop := base ≤ b ∧ (∃ cs fr, w.heap[b]? = some (.cells cs 24 fr)) ∧ some b ∉ K

theorem Ok.keep {w w' : World} {base : Nat} {K K' : List (Option Nat)} {D : Nat → Prop} (k : Keeps D w w') (hD : ∀ b cs fr, w.heap[b]? = some (.cells cs 24 fr) → D b → some b ∈ K)
    (hK : ∀ b, some b ∈ K' → some b ∈ K ∨ w.heap.size ≤ b) : ∀ b, Ok w base K b → w'.heap[b]? = w.heap[b]? ∧ Ok w' base K' b := by
  rintro b ⟨h1, ⟨cs, fr, h2⟩, h3⟩
  have hlt : b < w.heap.size := (Array.getElem?_eq_some_iff.1 h2).1
  have e := k.block b hlt (fun hd => h3 (hD b cs fr h2 hd))
  refine ⟨e, h1, ⟨cs, fr, e.trans h2⟩, fun hb => ?_⟩
  rcases hK b hb with hb | hb
  · exact h3 hb
  · omega

/-- An open element, and where it lies. -/
structure OG where
  blk : Nat
  name : List UInt8
  text : List UInt8
  kids : List El
  solid : Bool
  a : Value
  u : Value
  kv : Value

def OpenIs (w : World) (base : Nat) (ok : Nat → Prop) (g : OG) : Prop :=
  Blk w g.blk (OpCells (.string (sb g.name)) (.string (sb [])) g.kv g.a g.u g.solid) 103 ∧ base ≤ g.blk ∧ (g.a = .pointer none ∨ g.a = .pointer (some ⟨g.blk, 3, none⟩)) ∧
  w.ownsRow base 5 1 g.u g.text.length (u8s g.text) ∧ (g.text = [] → g.u = .slice none 0 0) ∧ ∃ cs, w.ownsRow base 24 3 g.kv g.kids.length cs ∧ KidsR w ok g.kids cs

/-- The kids' blocks that are still written to. -/
def kvs (G : List OG) : List (Option Nat) := G.map (·.kv.ownBlock)

/-- What is apart: no two open elements have a block in common. -/
structure Apart (G : List OG) : Prop where
  blk : (G.map (·.blk)).Nodup
  u : (G.filterMap (·.u.ownBlock)).Nodup
  kv : (G.filterMap (·.kv.ownBlock)).Nodup

/-- The pile: the innermost first in G; in memory it is the last. -/
def PileIs (w : World) (base : Nat) (pv : Value) (G : List OG) : Prop :=
  w.ownsRow base 93 1 pv G.length (G.reverse.map fun g => .pointer (some ⟨g.blk, 0, none⟩))

/-- The reader with its pile. -/
structure RdP (w : World) (base r : Nat) (s : ByteArray) (st : St) (pv : Value) (G : List OG) : Prop where
  rd : Rd w r s st pv
  le : 3 < r
  size : base ≤ w.heap.size
  pile : PileIs w base pv G
  open_ : ∀ g ∈ G, OpenIs w base (Ok w base (kvs G)) g
  apart : Apart G

theorem own_lt {w : World} {base n : Nat} {e : TypeId} {size : Nat} {v : Value} {xs : List Value} (h : w.ownsRow base e size v n xs) {k : Nat} (hk : v.ownBlock = some k) : k < w.heap.size ∧ base ≤ k := ⟨(h.lt k hk).2, (h.lt k hk).1⟩
theorem own_type {w : World} {base n : Nat} {e : TypeId} {size : Nat} {v : Value} {xs : List Value} (h : w.ownsRow base e size v n xs) {k : Nat} (hk : v.ownBlock = some k) : ∃ cs, w.heap[k]? = some (.cells cs e (0, 0)) := by
  rcases h.2 with ⟨rfl, _⟩ | ⟨g, cap, cur, rfl, _, hg, _⟩
  · simp [Value.ownBlock] at hk
  · simp only [Value.ownBlock, Option.some.injEq] at hk; subst hk; exact ⟨cur, hg⟩

theorem OpenIs.keep {w w' : World} {base : Nat} {ok ok' : Nat → Prop} {g : OG} {D : Nat → Prop} (h : OpenIs w base ok g) (k : Keeps D w w') (hok : ∀ b, ok b → w'.heap[b]? = w.heap[b]? ∧ ok' b)
    (h1 : ¬ D g.blk) (h2 : ∀ b, g.u.ownBlock = some b → ¬ D b) (h3 : ∀ b, g.kv.ownBlock = some b → ¬ D b) : OpenIs w' base ok' g := by
  obtain ⟨a1, a2, a3, a4, a5, cs, a6, a7⟩ := h
  exact ⟨k.blk a1 h1, a2, a3, k.own a4 h2, a5, cs, k.own a6 h3, a7.mono hok⟩

/-- Only the reader's own block has changed. -/
theorem RdP.reader {w w' : World} {base r : Nat} {s : ByteArray} {st st' : St} {pv : Value} {G : List OG} (h : RdP w base r s st pv G) (h' : Rd w' r s st' pv) (k : Keeps (· = r) w w') : RdP w' base r s st' pv G := by
  obtain ⟨bad, hB, _⟩ := h.rd
  refine ⟨h', h.le, Nat.le_trans h.size k.size, k.own h.pile (fun b hb e => own_ne h.pile hB (by decide) (by rw [hb, e])), fun g hg => ?_, h.apart⟩
  have hg' := h.open_ g hg
  refine hg'.keep k (Ok.keep k ?_ (fun b hb => .inl hb)) ?_ ?_ ?_
  · rintro b cs fr hb rfl
    unfold Blk at hB; rw [hb] at hB; injection hB with hB; injection hB with _ hB; exact absurd hB (by decide)
  · exact fun e => hg'.1.ne hB (by decide) e
  · exact fun b hb e => own_ne hg'.2.2.2.1 hB (by decide) (by rw [hb, e])
  · obtain ⟨cs, hk, _⟩ := hg'.2.2.2.2.2
    exact fun b hb e => own_ne hk hB (by decide) (by rw [hb, e])
end Go.Proofs.YtkjopcbleefioaaGreatDoor
