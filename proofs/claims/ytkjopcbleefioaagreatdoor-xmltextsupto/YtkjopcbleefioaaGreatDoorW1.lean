/- What stands next within the innermost element: the plain account, and what changes in memory when a text grows. -/
import Derived.Test.YtkjopcbleefioaaGreatDoorP2
namespace Go.Proofs.YtkjopcbleefioaaGreatDoor
open Go Go.RowKit
set_option linter.unusedSimpArgs false
set_option linter.unusedVariables false

def decR (l : List UInt8) : Nat × Nat := Lib.decodeGo (sb l)
def solidR (c : Nat) : Bool := decide (127 < c) || !isBlank (UInt8.ofNat c)
def withinS (s : List UInt8) (k : Nat) (o : OS) (l : List OS) : St × List OS :=
  if (decR (s.drop k)).2 = 0 then (⟨k, some (55, k)⟩, o :: l)
  else if pre [60] (s.drop k) = true ∧ k + 1 = s.length then (⟨k, some (55, s.length)⟩, o :: l)
  else if pre [60, 47] (s.drop k) = true then
    let a := wantS s o.name ⟨k + 2, none⟩
    let b := if a.bad.isSome then a else blanksS s a
    (wantS s [62] b, endS (wantS s [62] b).bad (o :: l))
  else if pre [60] (s.drop k) = true then
    if o.solid then (⟨k, some (55, k)⟩, o :: l)
    else
      let x := beginS s (l.length + 1) ⟨k, none⟩
      (x.1, if x.2.2 then pushed x.2.1 (o :: l) else endS x.1.bad (pushed x.2.1 (o :: l)))
  else if 0 < o.kids.length ∧ solidR (decR (s.drop k)).1 = true then (⟨k, some (55, k)⟩, o :: l)
  else if pre [38] (s.drop k) = true then
    match refR (s.drop k) with
    | .is t m => (⟨k + m, none⟩, { o with text := o.text ++ t, solid := true } :: l)
    | .bad sh => (⟨k, some (55, if sh then s.length else k)⟩, { o with solid := true } :: l)
  else if ((decR (s.drop k)).1 = 65533 ∧ (decR (s.drop k)).2 = 1) ∨ knowsB (decR (s.drop k)).1 = false then (⟨k, some (55, k)⟩, o :: l)
  else (⟨k + (decR (s.drop k)).2, none⟩, { o with text := o.text ++ encR (decR (s.drop k)).1, solid := o.solid || solidR (decR (s.drop k)).1 } :: l)

def OG.told (g : OG) (t : List UInt8) (a u : Value) (sd : Bool) : OG := { g with text := t, a := a, u := u, solid := sd }

theorem RdP.text {w w' : World} {base r : Nat} {s : ByteArray} {st st' : St} {pv : Value} {g : OG} {G : List OG} {t : List UInt8} {a u : Value} {sd : Bool}
    (h : RdP w base r s st pv (g :: G)) (hR : Rd w' r s st' pv) (k : Keeps (fun b => b = r ∨ b = g.blk ∨ g.u.ownBlock = some b) w w')
    (hB : Blk w' g.blk (OpCells (.string (sb g.name)) (.string (sb [])) g.kv a u sd) 103) (ha : a = .pointer none ∨ a = .pointer (some ⟨g.blk, 3, none⟩))
    (hu : w'.ownsRow base 5 1 u t.length (u8s t)) (hun : t = [] → u = .slice none 0 0) (hnear : Near w g.u u) :
    RdP w' base r s st' pv (g.told t a u sd :: G) := by
  obtain ⟨bad, hB0, _⟩ := h.rd
  have o1 := h.open_ g (by simp)
  obtain ⟨cs1, hk1, hks1⟩ := o1.2.2.2.2.2
  have hblk := h.apart.blk
  rw [List.map_cons, List.nodup_cons] at hblk
  have hapu := h.apart.u
  have hapuG : (G.filterMap (·.u.ownBlock)).Nodup := by
    rw [List.filterMap_cons] at hapu
    split at hapu
    · exact hapu
    · exact (List.nodup_cons.1 hapu).2
  have hok : ∀ b, Ok w base (kvs (g :: G)) b → w'.heap[b]? = w.heap[b]? ∧ Ok w' base (kvs (g.told t a u sd :: G)) b := by
    refine Ok.keep k ?_ (fun b hb => .inl hb)
    rintro b cs fr hb (rfl | rfl | e)
    · unfold Blk at hB0; rw [hb] at hB0; injection hB0 with hB0; injection hB0 with _ hB0; exact absurd hB0 (by decide)
    · have := o1.1; unfold Blk at this; rw [hb] at this; injection this with this; injection this with _ this; exact absurd this (by decide)
    · obtain ⟨cs', hb'⟩ := own_type o1.2.2.2.1 e
      rw [hb] at hb'; injection hb' with hb'; injection hb' with _ hb'; exact absurd hb' (by decide)
  refine ⟨hR, h.le, Nat.le_trans h.size k.size, ?_, ?_, ?_⟩
  · have hp : PileIs w base pv (g.told t a u sd :: G) := by have := h.pile; unfold PileIs at this ⊢; simpa [OG.told] using this
    refine k.own hp ?_
    rintro b hb (rfl | rfl | e)
    · exact own_ne hp hB0 (by decide) hb
    · exact own_ne hp o1.1 (by decide) hb
    · exact own_type_ne hp o1.2.2.2.1 (by decide) hb e
  · intro g' hg
    rcases List.mem_cons.1 hg with rfl | hg
    · refine ⟨hB, o1.2.1, ha, hu, hun, cs1, k.own hk1 ?_, hks1.mono hok⟩
      rintro b hb (rfl | rfl | e)
      · exact own_ne hk1 hB0 (by decide) hb
      · exact own_ne hk1 o1.1 (by decide) hb
      · exact own_type_ne hk1 o1.2.2.2.1 (by decide) hb e
    · have hg' := h.open_ g' (by simp [hg])
      refine hg'.keep k hok ?_ ?_ ?_
      · rintro (e | e | e)
        · exact hg'.1.ne hB0 (by decide) e
        · exact hblk.1 (List.mem_map.2 ⟨g', hg, e⟩)
        · exact own_ne o1.2.2.2.1 hg'.1 (by decide) e
      · rintro b hb (e | e | e)
        · exact own_ne hg'.2.2.2.1 hB0 (by decide) (by rw [hb, e])
        · exact own_ne hg'.2.2.2.1 o1.1 (by decide) (by rw [hb, e])
        · have hap := hapu
          rw [List.filterMap_cons, e] at hap
          dsimp only at hap
          rw [List.nodup_cons] at hap
          apply hap.1
          rw [List.mem_filterMap]
          exact ⟨g', hg, hb⟩
      · obtain ⟨cs, hk, _⟩ := hg'.2.2.2.2.2
        rintro b hb (e | e | e)
        · exact own_ne hk hB0 (by decide) (by rw [hb, e])
        · exact own_ne hk o1.1 (by decide) (by rw [hb, e])
        · exact own_type_ne hk o1.2.2.2.1 (by decide) hb e
  · refine ⟨List.nodup_cons.2 hblk, ?_, h.apart.kv⟩
    rcases hnear with e | ⟨b, e, hb⟩
    · rw [List.filterMap_cons] at hapu ⊢
      rw [show (g.told t a u sd).u = u from rfl, e]
      exact hapu
    · rw [List.filterMap_cons]
      rw [show (g.told t a u sd).u = u from rfl, e]
      dsimp only
      rw [List.nodup_cons]
      refine ⟨fun hm => ?_, hapuG⟩
      rw [List.mem_filterMap] at hm
      obtain ⟨g', hg, eg⟩ := hm
      have := (own_lt (h.open_ g' (by simp [hg])).2.2.2.1 eg).1
      omega

theorem RdP.solid {w : World} {base r : Nat} {s : ByteArray} {st : St} {pv : Value} {g : OG} {G : List OG} (h : RdP w base r s st pv (g :: G)) (sd : Bool) :
    RdP (w.setCell ⟨g.blk, 5, none⟩ (.bool sd)) base r s st pv (g.told g.text g.a g.u sd :: G) := by
  have o := h.open_ g (by simp)
  obtain ⟨bad, hB0, _⟩ := h.rd
  have hne : g.blk ≠ r := o.1.ne hB0 (by decide)
  refine h.text ?_ ((Keeps.refl _ w).set (fun _ => .inr (.inl rfl)) _) (o.1.set 5 _) o.2.2.1 ?_ o.2.2.2.2.1 (.inl rfl)
  · exact h.rd.keep (D := (· = g.blk)) ((Keeps.refl (· = g.blk) w).set1 5 _) (fun e => hne e.symm) (fun b cs hb e => hb.ne o.1 (by decide) e)
  · exact ownsRow_setCell_other o.2.2.2.1 (own_ne o.2.2.2.1 o.1 (by decide)) _

theorem encR_ne (c : Nat) : encR c ≠ [] := by
  intro h
  have h1 := (Lib.encodeRuneZ_length (c : Int)).1
  have h2 : (encR c).length = (Lib.encodeRuneZ (c : Int)).length := by unfold encR Lib.encodeRune; rw [List.length_map]
  rw [h] at h2
  simp at h2; omega
theorem refR_ne {l o : List UInt8} {m : Nat} (h : refR l = .is o m) : o ≠ [] := by
  unfold refR at h
  split at h
  · rename_i x hx
    injection h with h _
    have hm := List.mem_of_find?_eq_some hx
    subst h
    simp [ents] at hm
    rcases hm with rfl | rfl | rfl | rfl | rfl <;> simp
  · unfold refN at h
    split at h
    · injection h with h _; subst h; exact encR_ne _
    · split at h
      · injection h with h _; subst h; exact encR_ne _
      · cases h

/-- The cells that within reads. -/
theorem RdP.top {w : World} {base r k : Nat} {s : ByteArray} {pv : Value} {g : OG} {G : List OG} (h : RdP w base r s ⟨k, none⟩ pv (g :: G)) :
    w.cell? ⟨r, 0, none⟩ = some (.string s) ∧ w.cell? ⟨r, 1, none⟩ = some (.int .i64 k) ∧ w.cell? ⟨r, 2, none⟩ = some (.pointer none) ∧ w.cell? ⟨r, 3, none⟩ = some pv ∧ w.frozen? ⟨r, 1, none⟩ = false ∧ r < w.heap.size ∧
      w.cell? ⟨g.blk, 0, none⟩ = some (.string (sb g.name)) ∧ w.cell? ⟨g.blk, 2, none⟩ = some g.kv ∧ w.cell? ⟨g.blk, 5, none⟩ = some (.bool g.solid) ∧ w.frozen? ⟨g.blk, 5, none⟩ = false ∧ g.blk < w.heap.size ∧ g.blk ≠ r := by
  obtain ⟨c0, c1, c3, f1, f3, hl⟩ := h.rd.cells
  have c2 := h.rd.none
  have o := (h.open_ g (by simp)).1
  obtain ⟨bad, hB0, _⟩ := h.rd
  exact ⟨c0, c1, c2, c3, f1, hl, o.cell 0, o.cell 2, o.cell 5, o.free 5, o.lt, o.ne hB0 (by decide)⟩

/-- r.ahead, in a region that draws. -/
theorem ahead_q {r : Nat} {s p : ByteArray} {st : St} {pile : Value} {w : World} {v : Bool} (hR : Rd w r s st pile) (hs : s.size ≤ 100000) (hv : pre (bs p) ((bs s).drop st.at_) = v) (m : Nat) :
    Calls Tryz.prog 26 #[.pointer (some ⟨r, 0, none⟩), .string p] (w.drewN m) fun e w'' => e = .returned (.bool v) ∧ ∃ j, w'' = w.drewN j :=
  quietN ((ahead_any r s p st pile (w.drewN m) (hR.drewN m) hs).mono fun _ _ h => ⟨by rw [h.1, hv], h.2⟩)

/-- Nothing of it has changed. -/
theorem RdP.keepAll {w w' : World} {base r : Nat} {s : ByteArray} {st : St} {pv : Value} {G : List OG} (h : RdP w base r s st pv G) (k : Keeps (fun _ => False) w w') : RdP w' base r s st pv G :=
  h.reader (h.rd.keep k (fun h => h) (fun _ _ _ h => h)) (k.mono (fun _ _ h => h.elim))
end Go.Proofs.YtkjopcbleefioaaGreatDoor
