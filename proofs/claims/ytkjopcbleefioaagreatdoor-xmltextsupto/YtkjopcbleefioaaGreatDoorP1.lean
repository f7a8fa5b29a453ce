/- begin: an element's beginning; the pile grows. -/
import Derived.Test.YtkjopcbleefioaaGreatDoorC2
import Derived.Test.YtkjopcbleefioaaGreatDoorR1
import Derived.Deep.AppendLies
namespace Go.Proofs.YtkjopcbleefioaaGreatDoor
open Go Go.RowKit
set_option linter.unusedSimpArgs false
set_option linter.unusedVariables false

theorem wantP_le {s : List UInt8} : ∀ (p : List UInt8) (k : Nat), k ≤ s.length → (wantP s p k).at_ ≤ s.length
  | [], k, h => h
  | c :: p, k, h => by
    unfold wantP
    split
    · rename_i e
      exact wantP_le p (k + 1) ((List.getElem?_eq_some_iff.1 e).1)
    · exact h
theorem wantS_le {s p : List UInt8} {st : St} (h : st.at_ ≤ s.length) : (wantS s p st).at_ ≤ s.length := by
  unfold wantS; split; exact wantP_le p _ h; exact h
theorem blanksS_le {s : List UInt8} {st : St} (h : st.at_ ≤ s.length) : (blanksS s st).at_ ≤ s.length := by
  have := blanksN_le (s.drop st.at_)
  rw [List.length_drop] at this
  unfold blanksS; dsimp only; omega
theorem nameS_le {also s : List UInt8} {st : St} (h : st.at_ ≤ s.length) : (nameS also s st).1.at_ ≤ s.length := by
  have h1 := nameN_le also (s.drop st.at_)
  rw [List.length_drop] at h1
  unfold nameS
  split
  · rw [failS_at]; exact h
  · split
    · split
      · dsimp only; omega
      · rw [failS_at]; dsimp only; omega
    · rw [failS_at]; exact h
theorem attrR_le {s : List UInt8} {st : St} (h : st.at_ ≤ s.length) : (attrR s st).1.at_ ≤ s.length := by
  have h1 : (blanksS s st).at_ ≤ s.length := blanksS_le h
  have h2 : (wantS s [61] (nameS [58] s (blanksS s st)).1).at_ ≤ s.length := wantS_le (nameS_le h1)
  unfold attrR
  split
  · exact h1
  · split
    · exact h1
    · split
      · rw [failS_at]; exact h1
      · split
        · exact h2
        · dsimp only
          split
          · refine wantS_le ?_
            dsimp only
            split
            · have := indexAny_lt (60 :: ((s.drop (wantS s [61] (nameS [58] s (blanksS s st)).1).at_).take 1)) (s.drop ((wantS s [61] (nameS [58] s (blanksS s st)).1).at_ + 1))
              rw [List.length_drop] at this
              omega
            · exact Nat.le_refl _
          · rw [failS_at]; exact h2
/-- Behind attributes: / or >. -/
theorem attrR_stop {s : List UInt8} {st : St} (hb : (attrR s st).1.bad = none) (hst : st.bad = none) (hr : (attrR s st).2 = false) : pre [47] (s.drop (attrR s st).1.at_) = true ∨ pre [62] (s.drop (attrR s st).1.at_) = true := by
  revert hb hr
  unfold attrR
  split
  · rename_i h; intro _ _; exact .inl h
  · split
    · rename_i h; intro _ _; exact .inr h
    · split
      · intro hb _
        have : (blanksS s st).bad = none := hst
        simp [failS, this] at hb
      · split
        · rename_i h; intro hb _; dsimp only at hb; rw [hb] at h; exact absurd h (by decide)
        · rename_i hn
          dsimp only
          split
          · intro _ h; simp at h
          · intro hb _
            have : (wantS s [61] (nameS [58] s (blanksS s st)).1).bad = none := by
              cases hx : (wantS s [61] (nameS [58] s (blanksS s st)).1).bad with
              | none => rfl
              | some x => rw [hx] at hn; exact absurd rfl hn
            simp [failS, this] at hb
theorem attrS_stop {s : List UInt8} : ∀ (f : Nat) (st : St), st.at_ ≤ s.length → s.length < st.at_ + f → st.bad = none → (attrS s f st).bad = none → pre [47] (s.drop (attrS s f st).at_) = true ∨ pre [62] (s.drop (attrS s f st).at_) = true
  | 0, st, h1, h2, _, _ => by omega
  | f + 1, st, h1, h2, h3, h4 => by
    have hs : st.bad.isSome = false := by rw [h3]; rfl
    cases hr : (attrR s st).2 with
    | true =>
      have hg := attrR_ge s st hr
      rw [attrS_on s f st (attrR s st).1 hs (by rw [← hr])] at h4 ⊢
      have hb : (attrR s st).1.bad = none := by
        cases hx : (attrR s st).1.bad with
        | none => rfl
        | some x => rw [attrS_bad s f _ (by rw [hx]; rfl), hx] at h4; exact absurd h4 (by simp)
      exact attrS_stop f _ (attrR_le h1) (by omega) hb h4
    | false =>
      rw [attrS_end s f st (attrR s st).1 hs (by rw [← hr])] at h4 ⊢
      exact attrR_stop h4 h3 hr

structure OS where
  name : List UInt8
  text : List UInt8
  kids : List El
  solid : Bool
def OG.os (g : OG) : OS := ⟨g.name, g.text, g.kids, g.solid⟩

/-- What begin does: the reader; a name laid on the pile; begin's answer. -/
def beginS (s : List UInt8) (n : Nat) (st : St) : St × Option (List UInt8) × Bool :=
  if n = 20 ∧ pre [60] (s.drop st.at_) = true then (failS 57 st.at_ st, none, false)
  else if (wantS s [60] st).bad.isSome then (wantS s [60] st, none, false)
  else if (nameS [] s (wantS s [60] st)).1.bad.isSome then ((nameS [] s (wantS s [60] st)).1, none, false)
  else
    let b := nameS [] s (wantS s [60] st)
    let c := attrS s (s.length + 1) b.1
    if c.bad.isSome then (c, none, false)
    else if pre [47] (s.drop c.at_) then (wantS s [62] { c with at_ := c.at_ + 1 }, some b.2, false)
    else ({ c with at_ := c.at_ + 1 }, some b.2, true)

def pushed (o : Option (List UInt8)) (l : List OS) : List OS := match o with | none => l | some nm => ⟨nm, [], [], false⟩ :: l

theorem Rd.setPile {w : World} {r : Nat} {s : ByteArray} {st : St} {pile : Value} (h : Rd w r s st pile) (v : Value) : Rd (w.setCell ⟨r, 3, .none⟩ v) r s st v := by
  obtain ⟨bad, hB, hbad, hat⟩ := h
  exact ⟨bad, hB.set 3 _, hbad.keeps ((Keeps.refl (· = r) _).set1 _ _) (fun b cs hb => fun e => hb.ne hB (by decide) e), hat⟩

theorem RdP.push {w w' : World} {base r N : Nat} {s : ByteArray} {st st' : St} {pv pv' : Value} {G : List OG} {name : List UInt8} (h : RdP w base r s st pv G) (hR : Rd w' r s st' pv')
    (k : Keeps (fun b => b = r ∨ pv.ownBlock = some b) w w') (hp : w'.ownsRow base 93 1 pv' (G.length + 1) ((G.reverse.map fun g => .pointer (some ⟨g.blk, 0, none⟩)) ++ [.pointer (some ⟨N, 0, none⟩)]))
    (hN : w.heap.size ≤ N) (hB : Blk w' N (OpCells (.string (sb name)) (.string (sb [])) (.slice none 0 0) (.pointer none) (.slice none 0 0) false) 103) :
    RdP w' base r s st' pv' (⟨N, name, [], [], false, .pointer none, .slice none 0 0, .slice none 0 0⟩ :: G) := by
  obtain ⟨bad, hB0, _⟩ := h.rd
  have hz := h.size
  refine ⟨hR, h.le, Nat.le_trans h.size k.size, ?_, ?_, ?_⟩
  · unfold PileIs
    simpa using hp
  · intro g hg
    rcases List.mem_cons.1 hg with rfl | hg
    · refine ⟨hB, by dsimp only; omega, .inl rfl, ?_, fun _ => rfl, [], ?_, rfl⟩
      · exact ⟨rfl, .inl ⟨rfl, rfl⟩⟩
      · exact ⟨rfl, .inl ⟨rfl, rfl⟩⟩
    · have hg' := h.open_ g hg
      refine hg'.keep k (Ok.keep k ?_ ?_) ?_ ?_ ?_
      · rintro b cs fr hb (rfl | e)
        · unfold Blk at hB0; rw [hb] at hB0; injection hB0 with hB0; injection hB0 with _ hB0; exact absurd hB0 (by decide)
        · obtain ⟨cs', hb'⟩ := own_type h.pile e
          rw [hb] at hb'; injection hb' with hb'; injection hb' with _ hb'; exact absurd hb' (by decide)
      · intro b hb
        rcases List.mem_cons.1 hb with hb | hb
        · cases hb
        · exact .inl hb
      · rintro (e | e)
        · exact hg'.1.ne hB0 (by decide) e
        · exact own_ne h.pile hg'.1 (by decide) e
      · rintro b hb (e | e)
        · exact own_ne hg'.2.2.2.1 hB0 (by decide) (by rw [hb, e])
        · obtain ⟨cs1, h1⟩ := own_type h.pile e
          obtain ⟨cs2, h2⟩ := own_type hg'.2.2.2.1 hb
          rw [h1] at h2; injection h2 with h2; injection h2 with _ h2; exact absurd h2 (by decide)
      · obtain ⟨cs, hk, _⟩ := hg'.2.2.2.2.2
        rintro b hb (e | e)
        · exact own_ne hk hB0 (by decide) (by rw [hb, e])
        · obtain ⟨cs1, h1⟩ := own_type h.pile e
          obtain ⟨cs2, h2⟩ := own_type hk hb
          rw [h1] at h2; injection h2 with h2; injection h2 with _ h2; exact absurd h2 (by decide)
  · refine ⟨?_, ?_, ?_⟩
    · rw [List.map_cons, List.nodup_cons]
      refine ⟨fun hm => ?_, h.apart.blk⟩
      obtain ⟨g, hg, e⟩ := List.mem_map.1 hm
      have := (h.open_ g hg).1.lt
      dsimp only at e
      omega
    · exact h.apart.u
    · exact h.apart.kv

theorem beginS_deep {s : List UInt8} {n : Nat} {st : St} (h1 : n = 20) (h2 : pre [60] (s.drop st.at_) = true) : beginS s n st = (failS 57 st.at_ st, none, false) := by
  unfold beginS; rw [if_pos ⟨h1, h2⟩]
theorem beginS_eq {s : List UInt8} {n : Nat} {st : St} (h : ¬ (n = 20 ∧ pre [60] (s.drop st.at_) = true)) {a b c : St} {nm : List UInt8} (ha : wantS s [60] st = a) (hb : nameS [] s a = (b, nm)) (hc : attrS s (s.length + 1) b = c) :
    beginS s n st = if a.bad.isSome then (a, none, false) else if b.bad.isSome then (b, none, false) else if c.bad.isSome then (c, none, false)
      else if pre [47] (s.drop c.at_) then (wantS s [62] { c with at_ := c.at_ + 1 }, some nm, false) else ({ c with at_ := c.at_ + 1 }, some nm, true) := by
  subst ha
  unfold beginS
  rw [if_neg h, hb]
  dsimp only
  rw [hc]

/-- The post. -/
def BeginPost (w w' : World) (base r : Nat) (s : ByteArray) (G : List OG) (x : St × Option (List UInt8) × Bool) : Prop :=
  ∃ pv' G', RdP w' base r s x.1 pv' G' ∧ G'.map OG.os = pushed x.2.1 (G.map OG.os) ∧ Keeps (fun k => k = r ∨ base ≤ k) w w'

theorem RdP.same {w w' : World} {base r : Nat} {s : ByteArray} {st st' : St} {pv : Value} {G : List OG} (h : RdP w base r s st pv G) (h' : Rd w' r s st' pv) (k : Keeps (· = r) w w') (b : Bool) : BeginPost w w' base r s G (st', none, b) :=
  ⟨pv, G, h.reader h' k, rfl, k.mono (fun i _ e => by have := h.le; omega)⟩

theorem infoPtr93 : (Tryz.prog.info? 93).map (fun i => (i.zero, i.size, i.bytes)) = some (some (.pointer none), 1, 8) := by kernel_rfl

set_option maxHeartbeats 8000000 in
set_option maxRecDepth 100000 in
theorem begin_any (base r : Nat) (s : ByteArray) (k : Nat) (pv : Value) (G : List OG) (w : World) (hP : RdP w base r s ⟨k, none⟩ pv G) (hs : s.size ≤ 100000) (hn : G.length ≤ 20) :
    Calls Tryz.prog 40 #[.pointer (some ⟨r, 0, none⟩)] w fun e w' => e = .returned (.bool (beginS (bs s) G.length ⟨k, none⟩).2.2) ∧ BeginPost w w' base r s G (beginS (bs s) G.length ⟨k, none⟩) := by
  have HP := Lib.hid hP
  obtain ⟨A, cp, rfl, hcp⟩ := own_slice hP.pile
  obtain ⟨c0, c1, c3, f1, f3, hl⟩ := hP.rd.cells
  dsimp only at c1
  clear hP
  by_cases h20 : G.length = 20
  · cases h60 : pre [60] ((bs s).drop k) with
    | true =>
      have HE := Lib.hid (beginS_deep (s := bs s) (st := ⟨k, none⟩) h20 h60)
      rw [HE.out]
      have H60 := Lib.hid h60; clear h60
      have h20' : (G.length : Int) = 20 := by omega
      have h20'' : ((G.length : Int) == 20) = true := by rw [h20']; rfl
      go_enter Tryz.func40, Tryz.ntmps40
      go_wp2_with fail
      refine (ahead_is (p := ⟨#[60]⟩) HP.out.rd hs H60.out).mono ?_
      rintro e w1 ⟨rfl, hR1, hk1⟩
      have HP1 := Lib.hid (HP.out.reader hR1 hk1)
      have HK1 := Lib.hid (hk1.mono (D' := fun k => k = r ∨ base ≤ k) (fun i _ e => by have := HP.out.le; omega))
      clear c0 c1 c3 f1 f3 hl hk1
      obtain ⟨c0, c1, c3, f1, f3, hl⟩ := hR1.cells
      dsimp only at c1
      clear hR1
      go_wp2_with fail
      refine (fail_any r s ⟨k, none⟩ _ 57 k w1 HP1.out.rd).mono ?_
      rintro e w2 ⟨rfl, hR2, hk2⟩
      have hpost := HP1.out.same hR2 hk2 false
      obtain ⟨pv', G', h1, h2, h3⟩ := hpost
      have HX := Lib.hid (show BeginPost w w2 base r s G (failS 57 k ⟨k, none⟩, none, false) from ⟨pv', G', h1, h2, HK1.out.trans h3⟩)
      clear hR2 hk2 h1 h2 h3
      go_wp2_with fail
      go_ret
      exact ⟨rfl, HX.out⟩
    | false =>
      have hcond : ¬ (G.length = 20 ∧ pre [60] ((bs s).drop (⟨k, none⟩ : St).at_) = true) := by rintro ⟨_, h⟩; rw [h60] at h; exact absurd h (by decide)
      have h20' : (G.length : Int) = 20 := by omega
      have h20'' : ((G.length : Int) == 20) = true := by rw [h20']; rfl
      have H60 := Lib.hid h60; clear h60
      have hE0 : ∃ a b nm c, Hid (wantS (bs s) [60] ⟨k, none⟩ = a ∧ nameS [] (bs s) a = (b, nm) ∧ attrS (bs s) (s.size + 1) b = c ∧ beginS (bs s) G.length ⟨k, none⟩ = if a.bad.isSome then (a, none, false) else if b.bad.isSome then (b, none, false) else if c.bad.isSome then (c, none, false)
          else if pre [47] ((bs s).drop c.at_) then (wantS (bs s) [62] { c with at_ := c.at_ + 1 }, some nm, false) else ({ c with at_ := c.at_ + 1 }, some nm, true)) :=
        ⟨_, _, _, _, rfl, rfl, rfl, by rw [← bs_length]; exact beginS_eq hcond rfl rfl rfl⟩
      obtain ⟨a, b, nm, c, HE⟩ := hE0
      obtain ⟨X, hX⟩ : ∃ X, beginS (bs s) G.length ⟨k, none⟩ = X := ⟨_, rfl⟩
      rw [hX] at HE ⊢
      clear hcond hX
      clear h20 h20'
      go_enter Tryz.func40, Tryz.ntmps40
      go_wp2_with fail
      refine (ahead_is (p := ⟨#[60]⟩) HP.out.rd hs H60.out).mono ?_
      rintro e wz ⟨rfl, hR1, hk1⟩
      have HPz := Lib.hid (HP.out.reader hR1 hk1)
      have HKz := Lib.hid (hk1.mono (D' := fun k => k = r ∨ base ≤ k) (fun i _ e => by have := HP.out.le; omega))
      clear c0 c1 c3 f1 f3 hl hk1
      obtain ⟨c0, c1, c3, f1, f3, hl⟩ := hR1.cells
      dsimp only at c1
      clear hR1
      have hrd := HPz.out.rd
      go_wp2_with fail
      refine (want_any r s ⟨#[60]⟩ ⟨k, none⟩ _ wz hrd hs (by decide)).mono ?_
      rintro e w2 ⟨rfl, hR2, hk2⟩
      rw [show wantS (bs s) (bs ⟨#[60]⟩) ⟨k, none⟩ = a from HE.out.1] at hR2
      have HP2 := Lib.hid (HPz.out.reader hR2 hk2)
      have HK2 := Lib.hid (HKz.out.trans (hk2.mono (fun i _ e => by have := HPz.out.le; omega)))
      clear hrd hk2 c0 c1 c3 f1 f3 hl HPz HKz
      obtain ⟨ak, ao⟩ := a
      obtain ⟨c0, c1, c3, f1, f3, hl⟩ := hR2.cells
      cases ao with
      | some x =>
        obtain ⟨bb, c2⟩ := hR2.some
        clear hR2
        go_wp2_with fail
        go_ret
        rw [HE.out.2.2.2]
        exact ⟨rfl, _, _, HP2.out, rfl, HK2.out⟩
      | none =>
      have c2 := hR2.none
      have hlew := hR2.at_le
      clear hR2
      go_wp2_with fail
      have hN3 := Blk.new w2 [.string ⟨#[]⟩, .string ⟨#[]⟩, .slice none 0 0, .pointer none, .slice none 0 0, .bool false] 103
      have hk3 : Keeps (· = r) w2 (w2.alloc (.cells #[.string ⟨#[]⟩, .string ⟨#[]⟩, .slice none 0 0, .pointer none, .slice none 0 0, .bool false] 103)) := (Keeps.refl _ _).alloc _
      have hR3 := HP2.out.rd.keep ((Keeps.refl (fun _ => False) w2).alloc (.cells #[.string ⟨#[]⟩, .string ⟨#[]⟩, .slice none 0 0, .pointer none, .slice none 0 0, .bool false] 103)) (fun h => h) (fun _ _ _ h => h)
      refine (name_any r s ⟨#[]⟩ ⟨ak, none⟩ _ _ hR3 hs).mono ?_
      rintro e w4 ⟨rfl, hR4, hk4⟩
      rw [show nameS (bs ⟨#[]⟩) (bs s) ⟨ak, none⟩ = (b, nm) from HE.out.2.1] at hR4
      rw [show nameS (bs ⟨#[]⟩) (bs s) ⟨ak, none⟩ = (b, nm) from HE.out.2.1]
      dsimp only at hR4 ⊢
      obtain ⟨N, hN⟩ : ∃ N, w2.heap.size = N := ⟨_, rfl⟩
      rw [hN] at hN3 ⊢
      have hNr : N ≠ r := by omega
      have hN4 : Blk w4 N _ 103 := hk4.blk hN3 hNr
      have hk4' := hk3.trans hk4
      have hlN := hN4.lt
      have fN := hN4.free 0
      have n0 : w4.cell? ⟨N, 0, none⟩ = some (.string ⟨#[]⟩) := hN4.cell 0
      have HN4 := Lib.hid hN4; have HK4 := Lib.hid hk4'; have HN := Lib.hid hN
      have HR4 := Lib.hid hR4
      clear hN4 hk4 hk4' hN3 hk3 hR3 hN c0 c1 c2 c3 f1 f3 hl hlew
      have hR5 : Rd (w4.setCell ⟨N, 0, none⟩ (.string (sb nm))) r s b _ := HR4.out.keep (D := (· = N)) ((Keeps.refl _ _).set1 0 _) (fun e => hNr e.symm) (fun g cs hg e => HN4.out.ne hg (by decide) e.symm)
      have hN5 := HN4.out.set 0 (.string (sb nm))
      have hk5 : Keeps (· = r) w2 (w4.setCell ⟨N, 0, none⟩ (.string (sb nm))) := HK4.out.set (fun h => absurd h (by have := HN.out; dsimp only; omega)) _
      have HR5 := Lib.hid hR5; have HN5 := Lib.hid hN5; have HK5 := Lib.hid hk5
      clear hN5 hk5 hR5
      obtain ⟨bk, bo⟩ := b
      obtain ⟨c0, c1, c3, f1, f3, hl⟩ := hR4.cells
      have hrN : r ≠ N := fun e => hNr e.symm
      cases bo with
      | some x =>
        obtain ⟨bb, c2⟩ := hR4.some
        clear hR4
        go_wp2_with fail
        go_ret
        rw [HE.out.2.2.2]
        obtain ⟨pv', G', h1, h2, h3⟩ := HP2.out.same HR5.out HK5.out false
        exact ⟨rfl, pv', G', h1, h2, HK2.out.trans h3⟩
      | none =>
      have c2 := hR4.none
      have hleb := hR4.at_le
      clear hR4
      go_wp2_with fail
      generalize w4.setCell ⟨N, 0, none⟩ (.string (sb nm)) = w5 at HR5 HN5 HK5 ⊢
      refine (attributes_any r s ⟨bk, none⟩ _ w5 HR5.out hs).mono ?_
      rintro e w6 ⟨rfl, hR6, hk6⟩
      rw [show attrS (bs s) (s.size + 1) ⟨bk, none⟩ = c from HE.out.2.2.1] at hR6
      have HR6 := Lib.hid hR6
      have HK6 := Lib.hid (HK5.out.trans hk6)
      have hN6 : Blk w6 N _ 103 := hk6.blk HN5.out hNr
      have HN6 := Lib.hid hN6
      clear hk6 hN6 c0 c1 c2 c3 f1 f3 hl HR5 HN5 HK5 hlN fN HN4 HK4 HR4 n0
      obtain ⟨ck, co⟩ := c
      obtain ⟨c0, c1, c3, f1, f3, hl⟩ := hR6.cells
      cases co with
      | some x =>
        obtain ⟨bb, c2⟩ := hR6.some
        clear hR6
        go_wp2_with fail
        go_ret
        rw [HE.out.2.2.2]
        obtain ⟨pv', G', h1, h2, h3⟩ := HP2.out.same HR6.out HK6.out false
        exact ⟨rfl, pv', G', h1, h2, HK2.out.trans h3⟩
      | none =>
      have c2 := hR6.none
      clear hR6
      have hstop := Lib.hid (show pre [47] ((bs s).drop ck) = true ∨ pre [62] ((bs s).drop ck) = true by
        have h := attrS_stop (s := bs s) (s.size + 1) ⟨bk, none⟩ (by rw [bs_length]; exact hleb) (by rw [bs_length]; dsimp only; omega) rfl
        rw [HE.out.2.2.1] at h
        exact h rfl)
      have hck : ck < s.size := by
        rcases hstop.out with h | h
        · have := pre_one_lt h; rw [bs_length] at this; exact this
        · have := pre_one_lt h; rw [bs_length] at this; exact this
      obtain ⟨i0, hi, hz0, hz1, hz2⟩ := info_parts infoPtr93
      have HPbase := Lib.hid (show base ≤ w6.heap.size from Nat.le_trans HP2.out.size HK6.out.size)
      have hpile6 := HK6.out.own HP2.out.pile (fun g hg e => own_ne HP2.out.pile HP2.out.rd.choose_spec.1 (by decide) (by rw [hg, e]))
      have HPile6 := Lib.hid hpile6
      clear hpile6
      go_wp2_with (at_builtin; refine wpList_append_lies _ rfl _ _ 58 rfl base 93 i0 (.pointer none) 1 8 Tryz.underlying58 hi hz0 hz1 hz2 rfl (by decide) _ _ _ rfl (HPile6.out.alloc _) _ _ _ [.pointer (some ⟨N, 0, none⟩)] rfl rfl (World.news_of_block (heap_alloc_new w6 _)) (by intro u hu; simp at hu; subst hu; rfl) (by decide) (by unfold maxLen; omega) (by omega) (by have := HPbase.out; simp; omega) _ rfl ?_)
      rintro g cap w7 hown hgrow - hlt
      have HK7 := Lib.hid (show Keeps (fun b => b = r ∨ (Value.slice A G.length cp).ownBlock = some b) w2 w7 from ((HK6.out.mono (fun i _ h => .inl h)).trans' ((Keeps.refl (fun b => (Value.slice A G.length cp).ownBlock = some b) w6).alloc (.cells #[.pointer (some ⟨N, 0, none⟩)] 93)) (fun i _ h => .inr h)).grown hgrow (fun k hk _ => .inr hk))
      have hk67 : Keeps (fun b => (Value.slice A G.length cp).ownBlock = some b) w6 w7 := ((Keeps.refl _ w6).alloc _).grown hgrow (fun k hk _ => hk)
      have hR7 := HR6.out.keep hk67 (fun e => own_ne HPile6.out HR6.out.choose_spec.1 (by decide) e) (fun b cs hb e => own_ne HPile6.out hb (by decide) e)
      have hN7 : Blk w7 N _ 103 := hk67.blk HN6.out (fun e => own_ne HPile6.out HN6.out (by decide) e)
      have HR7 := Lib.hid hR7; have HN7 := Lib.hid hN7; have HOwn := Lib.hid hown
      clear hk67 hN7 hown hgrow c0 c1 c2 c3 f1 f3 hl hlt hi hz0 hz1 hz2
      obtain ⟨c0, c1, c3, f1, f3, hl⟩ := hR7.cells
      clear hR7
      cases h47 : pre [47] ((bs s).drop ck) with
      | true =>
        have H47 := Lib.hid h47; clear h47
        go_wp2_with fail
        have hR8 : Rd (w7.setCell ⟨r, 3, none⟩ (.slice (some ⟨g, 0, none⟩) (G.length + 1) cap)) r s ⟨ck, none⟩ (.slice (some ⟨g, 0, none⟩) (G.length + 1) cap) := HR7.out.setPile _
        have hk8 : Keeps (fun b => b = r ∨ (Value.slice A G.length cp).ownBlock = some b) w2 (w7.setCell ⟨r, 3, none⟩ (.slice (some ⟨g, 0, none⟩) (G.length + 1) cap)) := HK7.out.set (fun _ => .inl rfl) _
        have hN8 : Blk (w7.setCell ⟨r, 3, none⟩ (.slice (some ⟨g, 0, none⟩) (G.length + 1) cap)) N _ 103 := HN7.out.far (by exact hNr) _
        have hO8 := ownsRow_setCell_other HOwn.out (a := ⟨r, 3, none⟩) (own_ne HOwn.out HR7.out.choose_spec.1 (by decide)) (.slice (some ⟨g, 0, none⟩) (G.length + 1) cap)
        have hP8 := HP2.out.push (N := N) (name := nm) hR8 hk8 (by rw [List.map_reverse]; exact hO8) (by rw [HN.out]; exact Nat.le_refl _) hN8
        have HK8 := Lib.hid (HK2.out.trans' hk8 (fun i hi h => by
          rcases h with rfl | h
          · exact .inl rfl
          · exact .inr (own_lt HP2.out.pile h).2))
        have HP8 := Lib.hid hP8; have HR8 := Lib.hid hR8
        generalize w7.setCell ⟨r, 3, none⟩ (.slice (some ⟨g, 0, none⟩) (G.length + 1) cap) = w8 at HK8 HP8 HR8 ⊢
        clear hR8 hk8 hN8 hO8 hP8 c0 c1 c3 f1 f3 hl
        refine (ahead_is (p := ⟨#[47]⟩) HR8.out hs H47.out).mono ?_
        rintro e w9 ⟨rfl, hR9, hk9⟩
        have HP9 := Lib.hid (HP8.out.reader hR9 hk9)
        have HK9 := Lib.hid (HK8.out.trans (hk9.mono (fun i _ e => by have := HP2.out.le; omega)))
        clear HR8 HP8 HK8 hk9
        obtain ⟨c0, c1, c3, f1, f3, hl⟩ := hR9.cells
        clear hR9
        have s1 : IntKind.i64.wrap ((ck : Int) + 1) = (ck : Int) + 1 := by rw [IntWalk.i64_in _ (by omega)]
        go_wp2_with fail
        have hR10 := HP9.out.rd.step (ck + 1) (by omega) (v := .int .i64 ((ck : Int) + 1)) (by go_num)
        have HP10 := Lib.hid (HP9.out.reader hR10 ((Keeps.refl (· = r) w9).set1 1 _))
        have HK10 := Lib.hid (HK9.out.trans (((Keeps.refl (· = r) w9).set1 1 (.int .i64 ((ck : Int) + 1))).mono (D' := fun k => k = r ∨ base ≤ k) (fun i _ e => by have := HP2.out.le; omega)))
        clear hR10 c0 c1 c3 f1 f3 hl
        refine (want_any r s ⟨#[62]⟩ ⟨ck + 1, none⟩ _ _ HP10.out.rd hs (by decide)).mono ?_
        rintro e w11 ⟨rfl, hR11, hk11⟩
        have HP11 := Lib.hid (HP10.out.reader hR11 hk11)
        have HK11 := Lib.hid (HK10.out.trans (hk11.mono (fun i _ e => by have := HP2.out.le; omega)))
        clear hR11 hk11 HP10 HK10
        go_wp2_with fail
        go_ret
        have hX : X = (wantS (bs s) [62] ⟨ck + 1, none⟩, some nm, false) := by
          rw [HE.out.2.2.2]; simp [H47.out]
        rw [hX]
        exact ⟨rfl, _, _, HP11.out, rfl, HK11.out⟩
      | false =>
        have H47 := Lib.hid h47; clear h47
        go_wp2_with fail
        have hR8 : Rd (w7.setCell ⟨r, 3, none⟩ (.slice (some ⟨g, 0, none⟩) (G.length + 1) cap)) r s ⟨ck, none⟩ (.slice (some ⟨g, 0, none⟩) (G.length + 1) cap) := HR7.out.setPile _
        have hk8 : Keeps (fun b => b = r ∨ (Value.slice A G.length cp).ownBlock = some b) w2 (w7.setCell ⟨r, 3, none⟩ (.slice (some ⟨g, 0, none⟩) (G.length + 1) cap)) := HK7.out.set (fun _ => .inl rfl) _
        have hN8 : Blk (w7.setCell ⟨r, 3, none⟩ (.slice (some ⟨g, 0, none⟩) (G.length + 1) cap)) N _ 103 := HN7.out.far (by exact hNr) _
        have hO8 := ownsRow_setCell_other HOwn.out (a := ⟨r, 3, none⟩) (own_ne HOwn.out HR7.out.choose_spec.1 (by decide)) (.slice (some ⟨g, 0, none⟩) (G.length + 1) cap)
        have hP8 := HP2.out.push (N := N) (name := nm) hR8 hk8 (by rw [List.map_reverse]; exact hO8) (by rw [HN.out]; exact Nat.le_refl _) hN8
        have HK8 := Lib.hid (HK2.out.trans' hk8 (fun i hi h => by
          rcases h with rfl | h
          · exact .inl rfl
          · exact .inr (own_lt HP2.out.pile h).2))
        have HP8 := Lib.hid hP8; have HR8 := Lib.hid hR8
        generalize w7.setCell ⟨r, 3, none⟩ (.slice (some ⟨g, 0, none⟩) (G.length + 1) cap) = w8 at HK8 HP8 HR8 ⊢
        clear hR8 hk8 hN8 hO8 hP8 c0 c1 c3 f1 f3 hl
        refine (ahead_is (p := ⟨#[47]⟩) HR8.out hs H47.out).mono ?_
        rintro e w9 ⟨rfl, hR9, hk9⟩
        have HP9 := Lib.hid (HP8.out.reader hR9 hk9)
        have HK9 := Lib.hid (HK8.out.trans (hk9.mono (fun i _ e => by have := HP2.out.le; omega)))
        clear HR8 HP8 HK8 hk9
        obtain ⟨c0, c1, c3, f1, f3, hl⟩ := hR9.cells
        clear hR9
        have s1 : IntKind.i64.wrap ((ck : Int) + 1) = (ck : Int) + 1 := by rw [IntWalk.i64_in _ (by omega)]
        go_wp2_with fail
        have hR10 := HP9.out.rd.step (ck + 1) (by omega) (v := .int .i64 ((ck : Int) + 1)) (by go_num)
        have HP10 := Lib.hid (HP9.out.reader hR10 ((Keeps.refl (· = r) w9).set1 1 _))
        have HK10 := Lib.hid (HK9.out.trans (((Keeps.refl (· = r) w9).set1 1 (.int .i64 ((ck : Int) + 1))).mono (D' := fun k => k = r ∨ base ≤ k) (fun i _ e => by have := HP2.out.le; omega)))
        clear hR10 c0 c1 c3 f1 f3 hl
        go_ret
        have hX : X = (⟨ck + 1, none⟩, some nm, true) := by
          rw [HE.out.2.2.2]; simp [H47.out]
        rw [hX]
        exact ⟨rfl, _, _, HP10.out, rfl, HK10.out⟩
  · have hcond : ¬ (G.length = 20 ∧ pre [60] ((bs s).drop (⟨k, none⟩ : St).at_) = true) := fun h => h20 h.1
    have h20'' : ((G.length : Int) == 20) = false := by rw [beq_eq_false_iff_ne]; omega
    have hE0 : ∃ a b nm c, Hid (wantS (bs s) [60] ⟨k, none⟩ = a ∧ nameS [] (bs s) a = (b, nm) ∧ attrS (bs s) (s.size + 1) b = c ∧ beginS (bs s) G.length ⟨k, none⟩ = if a.bad.isSome then (a, none, false) else if b.bad.isSome then (b, none, false) else if c.bad.isSome then (c, none, false)
        else if pre [47] ((bs s).drop c.at_) then (wantS (bs s) [62] { c with at_ := c.at_ + 1 }, some nm, false) else ({ c with at_ := c.at_ + 1 }, some nm, true)) :=
      ⟨_, _, _, _, rfl, rfl, rfl, by rw [← bs_length]; exact beginS_eq hcond rfl rfl rfl⟩
    obtain ⟨a, b, nm, c, HE⟩ := hE0
    obtain ⟨X, hX⟩ : ∃ X, beginS (bs s) G.length ⟨k, none⟩ = X := ⟨_, rfl⟩
    rw [hX] at HE ⊢
    clear hcond hX
    have HPz := HP
    have HKz : Hid (Keeps (fun k => k = r ∨ base ≤ k) w w) := Keeps.refl _ _
    go_enter Tryz.func40, Tryz.ntmps40
    have hrd := HPz.out.rd
    go_wp2_with fail
    refine (want_any r s ⟨#[60]⟩ ⟨k, none⟩ _ w hrd hs (by decide)).mono ?_
    rintro e w2 ⟨rfl, hR2, hk2⟩
    rw [show wantS (bs s) (bs ⟨#[60]⟩) ⟨k, none⟩ = a from HE.out.1] at hR2
    have HP2 := Lib.hid (HPz.out.reader hR2 hk2)
    have HK2 := Lib.hid (HKz.out.trans (hk2.mono (fun i _ e => by have := HPz.out.le; omega)))
    clear hrd hk2 c0 c1 c3 f1 f3 hl HPz HKz
    obtain ⟨ak, ao⟩ := a
    obtain ⟨c0, c1, c3, f1, f3, hl⟩ := hR2.cells
    cases ao with
    | some x =>
      obtain ⟨bb, c2⟩ := hR2.some
      clear hR2
      go_wp2_with fail
      go_ret
      rw [HE.out.2.2.2]
      exact ⟨rfl, _, _, HP2.out, rfl, HK2.out⟩
    | none =>
    have c2 := hR2.none
    have hlew := hR2.at_le
    clear hR2
    go_wp2_with fail
    have hN3 := Blk.new w2 [.string ⟨#[]⟩, .string ⟨#[]⟩, .slice none 0 0, .pointer none, .slice none 0 0, .bool false] 103
    have hk3 : Keeps (· = r) w2 (w2.alloc (.cells #[.string ⟨#[]⟩, .string ⟨#[]⟩, .slice none 0 0, .pointer none, .slice none 0 0, .bool false] 103)) := (Keeps.refl _ _).alloc _
    have hR3 := HP2.out.rd.keep ((Keeps.refl (fun _ => False) w2).alloc (.cells #[.string ⟨#[]⟩, .string ⟨#[]⟩, .slice none 0 0, .pointer none, .slice none 0 0, .bool false] 103)) (fun h => h) (fun _ _ _ h => h)
    refine (name_any r s ⟨#[]⟩ ⟨ak, none⟩ _ _ hR3 hs).mono ?_
    rintro e w4 ⟨rfl, hR4, hk4⟩
    rw [show nameS (bs ⟨#[]⟩) (bs s) ⟨ak, none⟩ = (b, nm) from HE.out.2.1] at hR4
    rw [show nameS (bs ⟨#[]⟩) (bs s) ⟨ak, none⟩ = (b, nm) from HE.out.2.1]
    dsimp only at hR4 ⊢
    obtain ⟨N, hN⟩ : ∃ N, w2.heap.size = N := ⟨_, rfl⟩
    rw [hN] at hN3 ⊢
    have hNr : N ≠ r := by omega
    have hN4 : Blk w4 N _ 103 := hk4.blk hN3 hNr
    have hk4' := hk3.trans hk4
    have hlN := hN4.lt
    have fN := hN4.free 0
    have n0 : w4.cell? ⟨N, 0, none⟩ = some (.string ⟨#[]⟩) := hN4.cell 0
    have HN4 := Lib.hid hN4; have HK4 := Lib.hid hk4'; have HN := Lib.hid hN
    have HR4 := Lib.hid hR4
    clear hN4 hk4 hk4' hN3 hk3 hR3 hN c0 c1 c2 c3 f1 f3 hl hlew
    have hR5 : Rd (w4.setCell ⟨N, 0, none⟩ (.string (sb nm))) r s b _ := HR4.out.keep (D := (· = N)) ((Keeps.refl _ _).set1 0 _) (fun e => hNr e.symm) (fun g cs hg e => HN4.out.ne hg (by decide) e.symm)
    have hN5 := HN4.out.set 0 (.string (sb nm))
    have hk5 : Keeps (· = r) w2 (w4.setCell ⟨N, 0, none⟩ (.string (sb nm))) := HK4.out.set (fun h => absurd h (by have := HN.out; dsimp only; omega)) _
    have HR5 := Lib.hid hR5; have HN5 := Lib.hid hN5; have HK5 := Lib.hid hk5
    clear hN5 hk5 hR5
    obtain ⟨bk, bo⟩ := b
    obtain ⟨c0, c1, c3, f1, f3, hl⟩ := hR4.cells
    have hrN : r ≠ N := fun e => hNr e.symm
    cases bo with
    | some x =>
      obtain ⟨bb, c2⟩ := hR4.some
      clear hR4
      go_wp2_with fail
      go_ret
      rw [HE.out.2.2.2]
      obtain ⟨pv', G', h1, h2, h3⟩ := HP2.out.same HR5.out HK5.out false
      exact ⟨rfl, pv', G', h1, h2, HK2.out.trans h3⟩
    | none =>
    have c2 := hR4.none
    have hleb := hR4.at_le
    clear hR4
    go_wp2_with fail
    generalize w4.setCell ⟨N, 0, none⟩ (.string (sb nm)) = w5 at HR5 HN5 HK5 ⊢
    refine (attributes_any r s ⟨bk, none⟩ _ w5 HR5.out hs).mono ?_
    rintro e w6 ⟨rfl, hR6, hk6⟩
    rw [show attrS (bs s) (s.size + 1) ⟨bk, none⟩ = c from HE.out.2.2.1] at hR6
    have HR6 := Lib.hid hR6
    have HK6 := Lib.hid (HK5.out.trans hk6)
    have hN6 : Blk w6 N _ 103 := hk6.blk HN5.out hNr
    have HN6 := Lib.hid hN6
    clear hk6 hN6 c0 c1 c2 c3 f1 f3 hl HR5 HN5 HK5 hlN fN HN4 HK4 HR4 n0
    obtain ⟨ck, co⟩ := c
    obtain ⟨c0, c1, c3, f1, f3, hl⟩ := hR6.cells
    cases co with
    | some x =>
      obtain ⟨bb, c2⟩ := hR6.some
      clear hR6
      go_wp2_with fail
      go_ret
      rw [HE.out.2.2.2]
      obtain ⟨pv', G', h1, h2, h3⟩ := HP2.out.same HR6.out HK6.out false
      exact ⟨rfl, pv', G', h1, h2, HK2.out.trans h3⟩
    | none =>
    have c2 := hR6.none
    clear hR6
    have hstop := Lib.hid (show pre [47] ((bs s).drop ck) = true ∨ pre [62] ((bs s).drop ck) = true by
      have h := attrS_stop (s := bs s) (s.size + 1) ⟨bk, none⟩ (by rw [bs_length]; exact hleb) (by rw [bs_length]; dsimp only; omega) rfl
      rw [HE.out.2.2.1] at h
      exact h rfl)
    have hck : ck < s.size := by
      rcases hstop.out with h | h
      · have := pre_one_lt h; rw [bs_length] at this; exact this
      · have := pre_one_lt h; rw [bs_length] at this; exact this
    obtain ⟨i0, hi, hz0, hz1, hz2⟩ := info_parts infoPtr93
    have HPbase := Lib.hid (show base ≤ w6.heap.size from Nat.le_trans HP2.out.size HK6.out.size)
    have hpile6 := HK6.out.own HP2.out.pile (fun g hg e => own_ne HP2.out.pile HP2.out.rd.choose_spec.1 (by decide) (by rw [hg, e]))
    have HPile6 := Lib.hid hpile6
    clear hpile6
    go_wp2_with (at_builtin; refine wpList_append_lies _ rfl _ _ 58 rfl base 93 i0 (.pointer none) 1 8 Tryz.underlying58 hi hz0 hz1 hz2 rfl (by decide) _ _ _ rfl (HPile6.out.alloc _) _ _ _ [.pointer (some ⟨N, 0, none⟩)] rfl rfl (World.news_of_block (heap_alloc_new w6 _)) (by intro u hu; simp at hu; subst hu; rfl) (by decide) (by unfold maxLen; omega) (by omega) (by have := HPbase.out; simp; omega) _ rfl ?_)
    rintro g cap w7 hown hgrow - hlt
    have HK7 := Lib.hid (show Keeps (fun b => b = r ∨ (Value.slice A G.length cp).ownBlock = some b) w2 w7 from ((HK6.out.mono (fun i _ h => .inl h)).trans' ((Keeps.refl (fun b => (Value.slice A G.length cp).ownBlock = some b) w6).alloc (.cells #[.pointer (some ⟨N, 0, none⟩)] 93)) (fun i _ h => .inr h)).grown hgrow (fun k hk _ => .inr hk))
    have hk67 : Keeps (fun b => (Value.slice A G.length cp).ownBlock = some b) w6 w7 := ((Keeps.refl _ w6).alloc _).grown hgrow (fun k hk _ => hk)
    have hR7 := HR6.out.keep hk67 (fun e => own_ne HPile6.out HR6.out.choose_spec.1 (by decide) e) (fun b cs hb e => own_ne HPile6.out hb (by decide) e)
    have hN7 : Blk w7 N _ 103 := hk67.blk HN6.out (fun e => own_ne HPile6.out HN6.out (by decide) e)
    have HR7 := Lib.hid hR7; have HN7 := Lib.hid hN7; have HOwn := Lib.hid hown
    clear hk67 hN7 hown hgrow c0 c1 c2 c3 f1 f3 hl hlt hi hz0 hz1 hz2
    obtain ⟨c0, c1, c3, f1, f3, hl⟩ := hR7.cells
    clear hR7
    cases h47 : pre [47] ((bs s).drop ck) with
    | true =>
      have H47 := Lib.hid h47; clear h47
      go_wp2_with fail
      have hR8 : Rd (w7.setCell ⟨r, 3, none⟩ (.slice (some ⟨g, 0, none⟩) (G.length + 1) cap)) r s ⟨ck, none⟩ (.slice (some ⟨g, 0, none⟩) (G.length + 1) cap) := HR7.out.setPile _
      have hk8 : Keeps (fun b => b = r ∨ (Value.slice A G.length cp).ownBlock = some b) w2 (w7.setCell ⟨r, 3, none⟩ (.slice (some ⟨g, 0, none⟩) (G.length + 1) cap)) := HK7.out.set (fun _ => .inl rfl) _
      have hN8 : Blk (w7.setCell ⟨r, 3, none⟩ (.slice (some ⟨g, 0, none⟩) (G.length + 1) cap)) N _ 103 := HN7.out.far (by exact hNr) _
      have hO8 := ownsRow_setCell_other HOwn.out (a := ⟨r, 3, none⟩) (own_ne HOwn.out HR7.out.choose_spec.1 (by decide)) (.slice (some ⟨g, 0, none⟩) (G.length + 1) cap)
      have hP8 := HP2.out.push (N := N) (name := nm) hR8 hk8 (by rw [List.map_reverse]; exact hO8) (by rw [HN.out]; exact Nat.le_refl _) hN8
      have HK8 := Lib.hid (HK2.out.trans' hk8 (fun i hi h => by
        rcases h with rfl | h
        · exact .inl rfl
        · exact .inr (own_lt HP2.out.pile h).2))
      have HP8 := Lib.hid hP8; have HR8 := Lib.hid hR8
      generalize w7.setCell ⟨r, 3, none⟩ (.slice (some ⟨g, 0, none⟩) (G.length + 1) cap) = w8 at HK8 HP8 HR8 ⊢
      clear hR8 hk8 hN8 hO8 hP8 c0 c1 c3 f1 f3 hl
      refine (ahead_is (p := ⟨#[47]⟩) HR8.out hs H47.out).mono ?_
      rintro e w9 ⟨rfl, hR9, hk9⟩
      have HP9 := Lib.hid (HP8.out.reader hR9 hk9)
      have HK9 := Lib.hid (HK8.out.trans (hk9.mono (fun i _ e => by have := HP2.out.le; omega)))
      clear HR8 HP8 HK8 hk9
      obtain ⟨c0, c1, c3, f1, f3, hl⟩ := hR9.cells
      clear hR9
      have s1 : IntKind.i64.wrap ((ck : Int) + 1) = (ck : Int) + 1 := by rw [IntWalk.i64_in _ (by omega)]
      go_wp2_with fail
      have hR10 := HP9.out.rd.step (ck + 1) (by omega) (v := .int .i64 ((ck : Int) + 1)) (by go_num)
      have HP10 := Lib.hid (HP9.out.reader hR10 ((Keeps.refl (· = r) w9).set1 1 _))
      have HK10 := Lib.hid (HK9.out.trans (((Keeps.refl (· = r) w9).set1 1 (.int .i64 ((ck : Int) + 1))).mono (D' := fun k => k = r ∨ base ≤ k) (fun i _ e => by have := HP2.out.le; omega)))
      clear hR10 c0 c1 c3 f1 f3 hl
      refine (want_any r s ⟨#[62]⟩ ⟨ck + 1, none⟩ _ _ HP10.out.rd hs (by decide)).mono ?_
      rintro e w11 ⟨rfl, hR11, hk11⟩
      have HP11 := Lib.hid (HP10.out.reader hR11 hk11)
      have HK11 := Lib.hid (HK10.out.trans (hk11.mono (fun i _ e => by have := HP2.out.le; omega)))
      clear hR11 hk11 HP10 HK10
      go_wp2_with fail
      go_ret
      have hX : X = (wantS (bs s) [62] ⟨ck + 1, none⟩, some nm, false) := by
        rw [HE.out.2.2.2]; simp [H47.out]
      rw [hX]
      exact ⟨rfl, _, _, HP11.out, rfl, HK11.out⟩
    | false =>
      have H47 := Lib.hid h47; clear h47
      go_wp2_with fail
      have hR8 : Rd (w7.setCell ⟨r, 3, none⟩ (.slice (some ⟨g, 0, none⟩) (G.length + 1) cap)) r s ⟨ck, none⟩ (.slice (some ⟨g, 0, none⟩) (G.length + 1) cap) := HR7.out.setPile _
      have hk8 : Keeps (fun b => b = r ∨ (Value.slice A G.length cp).ownBlock = some b) w2 (w7.setCell ⟨r, 3, none⟩ (.slice (some ⟨g, 0, none⟩) (G.length + 1) cap)) := HK7.out.set (fun _ => .inl rfl) _
      have hN8 : Blk (w7.setCell ⟨r, 3, none⟩ (.slice (some ⟨g, 0, none⟩) (G.length + 1) cap)) N _ 103 := HN7.out.far (by exact hNr) _
      have hO8 := ownsRow_setCell_other HOwn.out (a := ⟨r, 3, none⟩) (own_ne HOwn.out HR7.out.choose_spec.1 (by decide)) (.slice (some ⟨g, 0, none⟩) (G.length + 1) cap)
      have hP8 := HP2.out.push (N := N) (name := nm) hR8 hk8 (by rw [List.map_reverse]; exact hO8) (by rw [HN.out]; exact Nat.le_refl _) hN8
      have HK8 := Lib.hid (HK2.out.trans' hk8 (fun i hi h => by
        rcases h with rfl | h
        · exact .inl rfl
        · exact .inr (own_lt HP2.out.pile h).2))
      have HP8 := Lib.hid hP8; have HR8 := Lib.hid hR8
      generalize w7.setCell ⟨r, 3, none⟩ (.slice (some ⟨g, 0, none⟩) (G.length + 1) cap) = w8 at HK8 HP8 HR8 ⊢
      clear hR8 hk8 hN8 hO8 hP8 c0 c1 c3 f1 f3 hl
      refine (ahead_is (p := ⟨#[47]⟩) HR8.out hs H47.out).mono ?_
      rintro e w9 ⟨rfl, hR9, hk9⟩
      have HP9 := Lib.hid (HP8.out.reader hR9 hk9)
      have HK9 := Lib.hid (HK8.out.trans (hk9.mono (fun i _ e => by have := HP2.out.le; omega)))
      clear HR8 HP8 HK8 hk9
      obtain ⟨c0, c1, c3, f1, f3, hl⟩ := hR9.cells
      clear hR9
      have s1 : IntKind.i64.wrap ((ck : Int) + 1) = (ck : Int) + 1 := by rw [IntWalk.i64_in _ (by omega)]
      go_wp2_with fail
      have hR10 := HP9.out.rd.step (ck + 1) (by omega) (v := .int .i64 ((ck : Int) + 1)) (by go_num)
      have HP10 := Lib.hid (HP9.out.reader hR10 ((Keeps.refl (· = r) w9).set1 1 _))
      have HK10 := Lib.hid (HK9.out.trans (((Keeps.refl (· = r) w9).set1 1 (.int .i64 ((ck : Int) + 1))).mono (D' := fun k => k = r ∨ base ≤ k) (fun i _ e => by have := HP2.out.le; omega)))
      clear hR10 c0 c1 c3 f1 f3 hl
      go_ret
      have hX : X = (⟨ck + 1, none⟩, some nm, true) := by
        rw [HE.out.2.2.2]; simp [H47.out]
      rw [hX]
      exact ⟨rfl, _, _, HP10.out, rfl, HK10.out⟩
end Go.Proofs.YtkjopcbleefioaaGreatDoor
