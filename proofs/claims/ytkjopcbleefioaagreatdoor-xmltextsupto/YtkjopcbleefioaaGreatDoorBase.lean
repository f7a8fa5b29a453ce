/- Shared words for the walks of this seat: blocks of cells, worlds that change in some blocks alone. -/
import Derived.Test.YtkjopcbleefioaaGreatDoorProg
import Derived.WalkKit
import Derived.WalkLawsBesides
import Derived.WalkSpells
import Derived.Lib.Hide
import Derived.Lib.Strings
import Derived.Deep.QuietTactic
import Derived.BigQuiet
import Derived.Deep.RegionWith
import Derived.OneCell
import Derived.Below
import Derived.Deep.LoopGhost
import Derived.Lib.Slices
import Derived.Laws.Strings3
namespace Go.Proofs.YtkjopcbleefioaaGreatDoor
open Go Go.RowKit

/-- The bytes of a string. -/
def bs (s : ByteArray) : List UInt8 := s.data.toList
/-- A string of bytes. -/
def sb (l : List UInt8) : ByteArray := ⟨l.toArray⟩
/-- Does a text begin with another? -/
def pre (p l : List UInt8) : Bool := p.isPrefixOf l
theorem bs_sb (l : List UInt8) : bs (sb l) = l := rfl
theorem sb_bs (s : ByteArray) : sb (bs s) = s := rfl
theorem bs_length (s : ByteArray) : (bs s).length = s.size := by unfold bs; rw [Array.length_toList]; rfl
theorem sb_size (l : List UInt8) : (sb l).size = l.length := by rw [← bs_length, bs_sb]
theorem bs_extract (s : ByteArray) (a b : Nat) : bs (s.extract a b) = ((bs s).take b).drop a := by
  unfold bs
  rw [← Lib.toList_data, Lib.extract_toList, List.drop_take]
theorem bs_get (s : ByteArray) (k : Nat) (h : k < s.size) : (bs s)[k]? = some s[k] := by
  unfold bs
  rw [Array.getElem?_toList, Array.getElem?_eq_getElem (by exact h)]
  rfl
theorem bs_none (s : ByteArray) (k : Nat) (h : s.size ≤ k) : (bs s)[k]? = none := by
  rw [List.getElem?_eq_none_iff, bs_length]; exact h
theorem drop_get {α : Type} {l : List α} {j : Nat} {c : α} (h : l[j]? = some c) : l.drop j = c :: l.drop (j + 1) := by
  obtain ⟨hj, rfl⟩ := List.getElem?_eq_some_iff.1 h
  exact List.drop_eq_getElem_cons hj
theorem bs_inj {s t : ByteArray} (h : bs s = bs t) : s = t := by rw [← sb_bs s, h, sb_bs]

theorem quietE {P : Program} {f : FuncId} {args : Array Value} {w : World} {n : Nat} {v : Value}
    (h : Calls P f args (w.drewN n) fun e w' => e = .returned v ∧ w.drewN n = w') : Calls P f args (w.drewN n) fun e w'' => e = .returned v ∧ ∃ m, w'' = w.drewN m :=
  h.mono fun _ _ ⟨he, hm⟩ => ⟨he, n, hm.symm⟩
theorem quietN {P : Program} {f : FuncId} {args : Array Value} {w : World} {n : Nat} {v : Value}
    (h : Calls P f args (w.drewN n) fun e w' => e = .returned v ∧ ∃ m, w' = (w.drewN n).drewN m) : Calls P f args (w.drewN n) fun e w'' => e = .returned v ∧ ∃ m, w'' = w.drewN m :=
  h.mono fun _ _ ⟨he, m, hm⟩ => ⟨he, n + m, by rw [hm]; simp [World.drewN, Nat.add_assoc]⟩

/-- Block g holds these cells, of a type, not frozen. -/
def Blk (w : World) (g : Nat) (cs : List Value) (T : TypeId) : Prop := w.heap[g]? = some (.cells cs.toArray T (0, 0))

section
variable {w : World} {g : Nat} {cs : List Value} {T : TypeId}
theorem Blk.lt (h : Blk w g cs T) : g < w.heap.size := (Array.getElem?_eq_some_iff.1 h).1
theorem Blk.cell (h : Blk w g cs T) (i : Nat) : w.cell? ⟨g, i, none⟩ = cs[i]? := by
  have := cell_of_row w g i cs.toArray T (0, 0) h
  simpa using this
theorem Blk.free (h : Blk w g cs T) (i : Nat) : w.frozen? ⟨g, i, none⟩ = false := by
  have h' : w.heap[g]? = some (.cells cs.toArray T (0, 0)) := h
  simp [World.frozen?, h']
theorem Blk.shape (h : Blk w g cs T) : w.shape? g = some (T, cs.length) := by
  have h' : w.heap[g]? = some (.cells cs.toArray T (0, 0)) := h
  simp [World.shape?, h']
theorem Blk.set (h : Blk w g cs T) (i : Nat) (u : Value) : Blk (w.setCell ⟨g, i, none⟩ u) g (cs.set i u) T := by
  have h' : w.heap[g]? = some (.cells cs.toArray T (0, 0)) := h
  unfold Blk
  simp [World.setCell, Array.getElem?_modify, h']
theorem Blk.far (h : Blk w g cs T) {p : Addr} (hp : g ≠ p.block) (u : Value) : Blk (w.setCell p u) g cs T :=
  (Below.heap_setCell w p u g hp).trans h
theorem Blk.alloc (h : Blk w g cs T) (o : Obj) : Blk (w.alloc o) g cs T := (Below.heap_alloc w o g h.lt).trans h
theorem Blk.drew (h : Blk w g cs T) : Blk w.drew g cs T := h
theorem Blk.drewN (h : Blk w g cs T) (n : Nat) : Blk (w.drewN n) g cs T := h
theorem Blk.new (w : World) (cs : List Value) (T : TypeId) : Blk (w.alloc (.cells cs.toArray T)) w.heap.size cs T := heap_alloc_new w _
theorem Blk.ne {g' : Nat} {cs' : List Value} {T' : TypeId} (h : Blk w g cs T) (h' : Blk w g' cs' T') (hT : T ≠ T') : g ≠ g' := by
  rintro rfl
  unfold Blk at h h'
  rw [h] at h'
  injection h' with h'
  injection h' with _ h' _
  exact hT h'
end

/-- Outside D the world w' is as w was. -/
structure Keeps (D : Nat → Prop) (w w' : World) : Prop where
  os : w'.os = w.os
  tape : w'.tape = w.tape
  output : w'.output = w.output
  size : w.heap.size ≤ w'.heap.size
  block : ∀ k, k < w.heap.size → ¬ D k → w'.heap[k]? = w.heap[k]?

section
variable {D : Nat → Prop} {w w' : World}
theorem Keeps.refl (D : Nat → Prop) (w : World) : Keeps D w w := ⟨rfl, rfl, rfl, Nat.le_refl _, fun _ _ _ => rfl⟩
theorem Keeps.trans {w'' : World} (h : Keeps D w w') (k : Keeps D w' w'') : Keeps D w w'' :=
  ⟨k.os.trans h.os, k.tape.trans h.tape, k.output.trans h.output, Nat.le_trans h.size k.size, fun i hi hd => (k.block i (Nat.lt_of_lt_of_le hi h.size) hd).trans (h.block i hi hd)⟩
/-- A second step may write, besides, whatever the first has made. -/
theorem Keeps.trans' {D' : Nat → Prop} {w'' : World} (h : Keeps D w w') (k : Keeps D' w' w'') (hD : ∀ i, i < w.heap.size → D' i → D i) : Keeps D w w'' :=
  ⟨k.os.trans h.os, k.tape.trans h.tape, k.output.trans h.output, Nat.le_trans h.size k.size, fun i hi hd => (k.block i (Nat.lt_of_lt_of_le hi h.size) (fun hd' => hd (hD i hi hd'))).trans (h.block i hi hd)⟩
theorem Keeps.mono {D' : Nat → Prop} (h : Keeps D w w') (hD : ∀ i, i < w.heap.size → D i → D' i) : Keeps D' w w' :=
  ⟨h.os, h.tape, h.output, h.size, fun i hi hd => h.block i hi (fun hd' => hd (hD i hi hd'))⟩
theorem Keeps.drewN (h : Keeps D w w') (n : Nat) : Keeps D w (w'.drewN n) := ⟨h.os, h.tape, h.output, h.size, h.block⟩
theorem Keeps.drew (h : Keeps D w w') : Keeps D w w'.drew := ⟨h.os, h.tape, h.output, h.size, h.block⟩
theorem Keeps.alloc (h : Keeps D w w') (o : Obj) : Keeps D w (w'.alloc o) :=
  h.trans ⟨rfl, rfl, rfl, by simp, fun k hk _ => Below.heap_alloc _ _ _ hk⟩
theorem Keeps.set (h : Keeps D w w') {p : Addr} (hp : p.block < w.heap.size → D p.block) (u : Value) : Keeps D w (w'.setCell p u) :=
  ⟨h.os, h.tape, h.output, by simpa using h.size, fun k hk hd => (Below.heap_setCell _ _ _ _ (fun e => by subst e; exact hd (hp hk))).trans (h.block k hk hd)⟩
theorem Keeps.grown {w'' : World} (h : Keeps D w w') {row : Option Nat} (hg : w'.grownBy w'' row) (hr : ∀ k, row = some k → k < w.heap.size → D k) : Keeps D w w'' :=
  ⟨hg.os.trans h.os, hg.tape.trans h.tape, hg.output.trans h.output, Nat.le_trans h.size hg.size,
    fun i hi hd => (hg.block i (Nat.lt_of_lt_of_le hi h.size) (fun e => hd (hr i e.symm hi))).trans (h.block i hi hd)⟩
theorem Keeps.set1 {r : Nat} (h : Keeps (· = r) w w') (i : Nat) (u : Value) : Keeps (· = r) w (w'.setCell ⟨r, i, none⟩ u) := h.set (fun _ => rfl) u
theorem Keeps.below {B : Nat} (h : Keeps (fun k => B ≤ k) w w') (hB : B ≤ w.heap.size) : Below B w w' :=
  ⟨h.os, h.tape, h.output, h.size, fun k hk => h.block k (by omega) (by omega)⟩
theorem Keeps.of_below {B : Nat} (h : Below B w w') : Keeps (fun k => B ≤ k) w w' :=
  ⟨h.os, h.tape, h.output, h.size, fun k _ hd => h.block k (by omega)⟩
theorem Keeps.fresh (h : Below w.heap.size w w') : Keeps D w w' := ⟨h.os, h.tape, h.output, h.size, fun k hk _ => h.block k hk⟩
theorem Keeps.blk {g : Nat} {cs : List Value} {T : TypeId} (h : Keeps D w w') (hb : Blk w g cs T) (hd : ¬ D g) : Blk w' g cs T := (h.block g hb.lt hd).trans hb
theorem Keeps.own {base n size : Nat} {e : TypeId} {v : Value} {xs : List Value} (h : Keeps D w w') (ho : w.ownsRow base e size v n xs) (hd : ∀ k, v.ownBlock = some k → ¬ D k) : w'.ownsRow base e size v n xs := by
  refine ⟨ho.1, ?_⟩
  rcases ho.2 with h2 | ⟨g, cap, cur, rfl, hb, hg, r⟩
  · exact .inl h2
  · exact .inr ⟨g, cap, cur, rfl, hb, (h.block g (Array.getElem?_eq_some_iff.1 hg).1 (hd g rfl)).trans hg, r⟩
end

theorem ret_bool {a b : Bool} (h : a = b) : Ending.returned (.bool a) = .returned (.bool b) := by rw [h]
theorem ret_int {k : IntKind} {a b : Int} (h : a = b) : Ending.returned (.int k a) = .returned (.int k b) := by rw [h]

end Go.Proofs.YtkjopcbleefioaaGreatDoor
