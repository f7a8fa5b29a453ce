/- What a reference is: a plain account; the walk of (*reader).reference. -/
import Derived.Test.YtkjopcbleefioaaGreatDoorC1
import Derived.Test.YtkjopcbleefioaaGreatDoorB2
import Derived.Test.YtkjopcbleefioaaGreatDoorQ1
import Derived.StillTailTactics
import Derived.Deep.RegionWith
import Derived.BigRegion
namespace Go.Proofs.YtkjopcbleefioaaGreatDoor
open Go Go.RowKit
set_option linter.unusedSimpArgs false
set_option linter.unusedVariables false

/-- What the decoder and strconv read besides their arguments. -/
structure Glob (w : World) : Prop where
  utf : Lib.Utf8Tabs 1 2 w
  syn : ∃ ev, w.cell? ⟨3, 0, none⟩ = some ev ∧ (ev = .nilIface ∨ ∃ te pe, ev = .iface te pe)

theorem cell_lt {w : World} {a : Addr} {v : Value} (hc : w.cell? a = some v) : a.block < w.heap.size := by
  rcases Nat.lt_or_ge a.block w.heap.size with h' | h'
  · exact h'
  · simp [World.cell?, Array.getElem?_eq_none h'] at hc

theorem Glob.keep {D : Nat → Prop} {w w' : World} (h : Glob w) (k : Keeps D w w') (hD : ∀ i, i ≤ 3 → ¬ D i) : Glob w' := by
  have cell : ∀ {a : Addr} {v : Value}, a.block ≤ 3 → w.cell? a = some v → w'.cell? a = some v := fun {a v} ha hc =>
    (World.cell?_of_block (k.block a.block (cell_lt hc) (hD _ ha))).trans hc
  obtain ⟨ev, h1, h2⟩ := h.syn
  exact ⟨⟨fun c hc => cell (show 1 ≤ 3 by decide) (h.utf.1 c hc), fun i hi => ⟨cell (show 2 ≤ 3 by decide) (h.utf.2 i hi).1, cell (show 2 ≤ 3 by decide) (h.utf.2 i hi).2⟩⟩, ev, cell (by decide) h1, h2⟩

def entCells : List Value := [.string ⟨#[38, 97, 109, 112, 59]⟩, .string ⟨#[38]⟩, .string ⟨#[38, 108, 116, 59]⟩, .string ⟨#[60]⟩, .string ⟨#[38, 103, 116, 59]⟩, .string ⟨#[62]⟩, .string ⟨#[38, 113, 117, 111, 116, 59]⟩, .string ⟨#[34]⟩, .string ⟨#[38, 97, 112, 111, 115, 59]⟩, .string ⟨#[39]⟩]

def decDs : ByteArray := ⟨#[48, 49, 50, 51, 52, 53, 54, 55, 56, 57]⟩
def hexDs : ByteArray := ⟨#[48, 49, 50, 51, 52, 53, 54, 55, 56, 57, 97, 98, 99, 100, 101, 102, 65, 66, 67, 68, 69, 70]⟩
def fmtCells : List Value := [.string ⟨#[38, 35]⟩, .string decDs, .int .i64 10, .int .i64 7, .string ⟨#[38, 35, 120]⟩, .string hexDs, .int .i64 16, .int .i64 6]

/-- A name and its byte. -/
def ents : List (List UInt8 × List UInt8) := [([38, 97, 109, 112, 59], [38]), ([38, 108, 116, 59], [60]), ([38, 103, 116, 59], [62]), ([38, 113, 117, 111, 116, 59], [34]), ([38, 97, 112, 111, 115, 59], [39])]

inductive NumE where
  | no
  | short
  | is (c n : Nat)
def NumE.cut : NumE → Bool | .short => true | _ => false

def numN (ds : UInt8 → Bool) (most : Nat) (tail : List UInt8) : Nat := min (tail.takeWhile ds).length most
def numT (ds : UInt8 → Bool) (base most h : Nat) (tail : List UInt8) : NumE :=
  if numN ds most tail = tail.length then .short
  else if numN ds most tail ≠ 0 ∧ tail[numN ds most tail]? = some 59 ∧ knowsB (digV base 0 (tail.take (numN ds most tail))) = true then .is (digV base 0 (tail.take (numN ds most tail))) (h + numN ds most tail + 1)
  else .no
def numR (head : List UInt8) (ds : UInt8 → Bool) (base most : Nat) (l : List UInt8) : NumE :=
  if pre head l then numT ds base most head.length (l.drop head.length) else if pre l head then .short else .no

def encR (c : Nat) : List UInt8 := Lib.encodeRune c
theorem u8s_encR (c : Nat) : u8s (encR c) = Lib.runeCells c := Lib.byteCells_encodeRune c
inductive RefE where
  | is (out : List UInt8) (n : Nat)
  | bad (short : Bool)
def refN (l : List UInt8) : RefE :=
  match numR [38, 35] isDec 10 7 l with
  | .is c n => .is (encR c) n
  | a => match numR [38, 35, 120] isHex 16 6 l with
    | .is c n => .is (encR c) n
    | b => .bad (ents.any (fun x => pre l x.1) || a.cut || b.cut)
def refR (l : List UInt8) : RefE :=
  match ents.find? (fun x => pre x.1 l) with
  | some x => .is x.2 x.1.length
  | none => refN l

/-- The two forms of a number. -/
def forms : List (List UInt8 → NumE) := [numR [38, 35] isDec 10 7, numR [38, 35, 120] isHex 16 6]
theorem refN_is {l : List UInt8} {i : Nat} {f : List UInt8 → NumE} {c n : Nat} (hi : forms[i]? = some f) (h : ∀ g ∈ forms.take i, ∀ c n, g l ≠ .is c n) (hf : f l = .is c n) : refN l = .is (encR c) n := by
  match i, hi, h with
  | 0, hi, h =>
    injection hi with hi; subst hi
    unfold refN; rw [hf]
  | 1, hi, h =>
    injection hi with hi; subst hi
    have h0 := h (numR [38, 35] isDec 10 7) (by simp [forms])
    unfold refN
    split
    · rename_i c' n' e; exact absurd e (h0 c' n')
    · rw [hf]
  | k + 2, hi, h => simp [forms] at hi
theorem refN_bad {l : List UInt8} (h : ∀ g ∈ forms, ∀ c n, g l ≠ .is c n) : refN l = .bad (ents.any (fun x => pre l x.1) || forms.any (fun f => (f l).cut)) := by
  have h0 := h (numR [38, 35] isDec 10 7) (by simp [forms])
  have h1 := h (numR [38, 35, 120] isHex 16 6) (by simp [forms])
  unfold refN
  split
  · rename_i c' n' e; exact absurd e (h0 c' n')
  · split
    · rename_i c' n' e; exact absurd e (h1 c' n')
    · simp [forms, Bool.or_assoc]

theorem dec_set : ∀ c : UInt8, (bs decDs).contains c = isDec c := by
  have : ∀ n : Fin 256, (bs decDs).contains (UInt8.ofNat n.val) = isDec (UInt8.ofNat n.val) := by decide +kernel
  intro c
  have h := this ⟨c.toNat, c.toNat_lt⟩
  simpa using h
theorem hex_set : ∀ c : UInt8, (bs hexDs).contains c = isHex c := by
  have : ∀ n : Fin 256, (bs hexDs).contains (UInt8.ofNat n.val) = isHex (UInt8.ofNat n.val) := by decide +kernel
  intro c
  have h := this ⟨c.toNat, c.toNat_lt⟩
  simpa using h

theorem digV_dec_lt (l : List UInt8) (h : ∀ c ∈ l, isDec c = true) (hl : l.length ≤ 7) : digV 10 0 l < 16777216 := by
  have hpk : 10 ^ l.length ≤ 10 ^ 7 := Nat.pow_le_pow_right (by decide) hl
  have := (digV10_M (2 ^ 32 - 1) (by decide) l 0 h (by omega)).2
  omega
theorem digV_hex_lt (l : List UInt8) (h : ∀ c ∈ l, isHex c = true) (hl : l.length ≤ 6) : digV 16 0 l < 16777216 := by
  have hpk : 16 ^ l.length ≤ 16 ^ 6 := Nat.pow_le_pow_right (by decide) hl
  have := digV_le l 0 h
  omega

/-- A form as it lies in memory, and what strconv makes of its digits. -/
structure Form (i : Nat) (hd dg : ByteArray) (ds : UInt8 → Bool) (bb mm : Nat) : Prop where
  at_ : forms[i]? = some (numR (bs hd) ds bb mm)
  hd3 : hd.size ≤ 3
  dg30 : dg.size ≤ 30
  mm7 : mm ≤ 7
  set : ∀ c, (bs dg).contains c = ds c
  asc : ∀ b ∈ bs dg, b.toNat < 128
  c0 : fmtCells[i * 4]? = some (.string hd)
  c1 : fmtCells[i * 4 + 1]? = some (.string dg)
  c2 : fmtCells[i * 4 + 2]? = some (.int .i64 bb)
  c3 : fmtCells[i * 4 + 3]? = some (.int .i64 mm)
  lt : ∀ l : List UInt8, (∀ c ∈ l, ds c = true) → l.length ≤ mm → digV bb 0 l < 16777216
  num : ∀ (u : ByteArray) (w : World), u.size ≠ 0 → u.size ≤ mm → (∀ c ∈ bs u, ds c = true) →
    Calls Tryz.prog 79 #[.string u, .int .i64 bb, .int .i64 32] w fun e w' => e = .returned (.tuple #[.int .i64 (digV bb 0 (bs u)), .nilIface]) ∧ Below w.heap.size w w'
theorem form_at (i : Nat) (hi : i < 2) : ∃ hd dg ds bb mm, Form i hd dg ds bb mm := by
  have : i = 0 ∨ i = 1 := by omega
  rcases this with rfl | rfl
  · exact ⟨⟨#[38, 35]⟩, decDs, isDec, 10, 7, rfl, by decide, by decide, by decide, dec_set, by decide, rfl, rfl, rfl, rfl, digV_dec_lt, fun u w h1 h2 h3 => parseInt10 u h1 h2 h3 w⟩
  · exact ⟨⟨#[38, 35, 120]⟩, hexDs, isHex, 16, 6, rfl, by decide, by decide, by decide, hex_set, by decide, rfl, rfl, rfl, rfl, digV_hex_lt, fun u w h1 h2 h3 => parseInt16 u h1 h2 h3 w⟩

theorem while_split (ds : UInt8 → Bool) (cs : List UInt8) (h : ∀ c, cs.contains c = ds c) : ∀ l : List UInt8, (Lib.trimLeftS l cs).length + (l.takeWhile ds).length = l.length := by
  intro l
  unfold Lib.trimLeftS
  rw [show (fun x => cs.contains x) = ds from funext h]
  have := congrArg List.length (List.takeWhile_append_dropWhile (p := ds) (l := l))
  rw [List.length_append] at this
  omega
theorem takeWhile_all (ds : UInt8 → Bool) : ∀ l : List UInt8, ∀ c ∈ l.takeWhile ds, ds c = true
  | [], c, h => by simp at h
  | x :: l, c, h => by
    rw [List.takeWhile_cons] at h
    split at h
    · rcases List.mem_cons.1 h with rfl | h
      · assumption
      · exact takeWhile_all ds l c h
    · simp at h

theorem trimLeft_any (tl dg : ByteArray) (ds : UInt8 → Bool) (w : World) (hset : ∀ c, (bs dg).contains c = ds c) (h30 : dg.size ≤ 30) (hasc : ∀ b ∈ bs dg, b.toNat < 128) :
    Calls Tryz.prog 78 #[.string tl, .string dg] w fun e w' => ∃ z : ByteArray, e = .returned (.string z) ∧ z.size + ((bs tl).takeWhile ds).length = tl.size ∧ Below w.heap.size w w' := by
  refine (show Calls Tryz.prog 78 #[.string tl, .string dg] w _ from Any.strings_TrimLeft_laid Tryz.lays161 (by kernel_rfl) tl dg w (by omega) (fun j b hb => hasc b (List.mem_of_getElem? hb))).mono ?_
  rintro e w' ⟨rfl, hb⟩
  refine ⟨sb (Lib.trimLeftS (bs tl) (bs dg)), rfl, ?_, hb⟩
  rw [sb_size, while_split ds (bs dg) hset, bs_length]

theorem find_take {α : Type} {p : α → Bool} {x : α} : ∀ {l : List α} {i : Nat}, (l.take i).find? p = none → l[i]? = some x → p x = true → l.find? p = some x
  | [], i, _, h, _ => by simp at h
  | y :: l, 0, _, h, hp => by simp at h; subst h; simp [List.find?, hp]
  | y :: l, i + 1, h1, h2, hp => by
    rw [List.take_succ_cons, List.find?_cons] at h1
    rw [List.getElem?_cons_succ] at h2
    rw [List.find?_cons]
    cases hy : p y with
    | true => rw [hy] at h1; simp at h1
    | false => rw [hy] at h1; exact find_take h1 h2 hp
theorem find_take_succ {α : Type} {p : α → Bool} {x : α} : ∀ {l : List α} {i : Nat}, (l.take i).find? p = none → l[i]? = some x → p x = false → (l.take (i + 1)).find? p = none := by
  intro l i h1 h2 h3
  have hi : i < l.length := (List.getElem?_eq_some_iff.1 h2).1
  have hx : l[i] = x := (List.getElem?_eq_some_iff.1 h2).2
  rw [List.take_add_one, h2, List.find?_append, h1]
  simp [h3]
theorem any_take_succ {α : Type} {p : α → Bool} {x : α} {l : List α} {i : Nat} (h2 : l[i]? = some x) : (l.take (i + 1)).any p = ((l.take i).any p || p x) := by
  rw [List.take_add_one, h2]
  simp

section
variable {w w' : World} {r b base : Nat} {s : ByteArray} {st : St} {pile en et ek a u : Value} {sd : Bool} {l : List UInt8}
theorem wrote_rd (h : Rd w r s st pile) (hb : Blk w b (OpCells en et ek a u sd) 103) (hu : w.ownsRow base 5 1 u l.length (u8s l)) (k : Keeps (fun g => g = b ∨ u.ownBlock = some g) w w') : Rd w' r s st pile := by
  have hR := h
  obtain ⟨bad, hB, _⟩ := h
  refine hR.keep k ?_ ?_
  · rintro (e | e)
    · exact hb.ne hB (by decide) e.symm
    · exact own_ne hu hB (by decide) e
  · rintro g cs hg (e | e)
    · exact hb.ne hg (by decide) e.symm
    · exact own_ne hu hg (by decide) e
theorem wrote_blk {X : Nat} {cs : List Value} {T : TypeId} (h : Blk w X cs T) (hT : T ≠ 103) (hT5 : T ≠ 5) (hb : Blk w b (OpCells en et ek a u sd) 103) (hu : w.ownsRow base 5 1 u l.length (u8s l)) (k : Keeps (fun g => g = b ∨ u.ownBlock = some g) w w') : Blk w' X cs T := by
  refine k.blk h ?_
  rintro (e | e)
  · exact hb.ne h (fun e => hT e.symm) e.symm
  · exact own_ne hu h (fun e => hT5 e.symm) e
end

theorem form_no {t : List UInt8} {i : Nat} {f : List UInt8 → NumE} (hi : forms[i]? = some f) (h : ∀ g ∈ forms.take i, ∀ c n, g t ≠ .is c n) (hf : f t = .no) {sh sh2 : Bool} (he : sh2 = (sh || (forms.take i).any (fun f => (f t).cut))) :
    (∀ g ∈ forms.take (i + 1), ∀ c n, g t ≠ .is c n) ∧ sh2 = (sh || (forms.take (i + 1)).any (fun f => (f t).cut)) := by
  refine ⟨?_, ?_⟩
  · intro g hg c n
    rw [List.take_add_one, hi] at hg
    rcases List.mem_append.1 hg with h' | h'
    · exact h g h' c n
    · simp at h'; subst h'; rw [hf]; simp
  · rw [any_take_succ hi, hf, he]; simp [NumE.cut]

def RefPost (w w' : World) (base r b : Nat) (s : ByteArray) (k : Nat) (pile en et ek u : Value) (sd : Bool) (l : List UInt8) : RefE → Prop
  | .is o m => ∃ u', Rd w' r s ⟨k + m, none⟩ pile ∧ Blk w' b (OpCells en et ek (.pointer (some ⟨b, 3, none⟩)) u' sd) 103 ∧ w'.ownsRow base 5 1 u' (l.length + o.length) (u8s l ++ u8s o) ∧
      Keeps (fun g => g = r ∨ g = b ∨ u.ownBlock = some g) w w' ∧ Near w u u'
  | .bad sh => Rd w' r s ⟨k, some (55, if sh then s.size else k)⟩ pile ∧ Keeps (· = r) w w'

set_option maxHeartbeats 8000000 in
set_option maxRecDepth 100000 in
theorem reference_any (w : World) (base r b : Nat) (s : ByteArray) (st : St) (hbad : st.bad = none) (pile : Value) (hR : Rd w r s st pile) (hs : s.size ≤ 100000) (hg : Glob w) (hr3 : 3 < r) (hb3 : 3 < b)
    (en et ek a u : Value) (sd : Bool) (l : List UInt8) (hb : Blk w b (OpCells en et ek a u sd) 103) (ha : a = .pointer none ∨ a = .pointer (some ⟨b, 3, none⟩))
    (hu : w.ownsRow base 5 1 u l.length (u8s l)) (hl : l.length ≤ 500000) (hB : base ≤ w.heap.size) (hB3 : 3 < base) :
    Calls Tryz.prog 63 #[.pointer (some ⟨r, 0, none⟩), .pointer (some ⟨b, 3, none⟩)] w fun e w' => e = .returned (.tuple #[]) ∧
      RefPost w w' base r b s st.at_ pile en et ek u sd l (refR ((bs s).drop st.at_)) := by
  have HR := Lib.hid hR
  obtain ⟨bad, hB', hbad', hat⟩ := hR
  obtain ⟨at_, o⟩ := st
  dsimp only at hB' hbad hat
  subst hbad
  have c0 : w.cell? ⟨r, 0, none⟩ = some (.string s) := hB'.cell 0
  have c1 : w.cell? ⟨r, 1, none⟩ = some (.int .i64 at_) := hB'.cell 1
  clear hB' hbad'
  obtain ⟨t, ht⟩ : ∃ t, s.extract at_ s.size = t := ⟨_, rfl⟩
  have hT : bs t = (bs s).drop at_ := by rw [← ht, bs_extract, List.take_of_length_le (by simp [bs_length])]
  have hts : t.size + at_ = s.size := by rw [← bs_length t, hT, List.length_drop, bs_length]; omega
  dsimp only
  rw [← hT]
  have hi1 : (at_ : Int) ≤ (s.size : Int) := by omega
  have Hb := Lib.hid hb
  have Hu := Lib.hid hu
  have Hg := Lib.hid hg
  clear hb hu hg
  go_enter Tryz.func63, Tryz.ntmps63
  go_wp2
  go_quiet (fail)
  go_wp2
  have hN0 := Blk.new (w.drewN nq) entCells 120
  have hk0 : Keeps (fun _ => False) w ((w.drewN nq).alloc (.cells entCells.toArray 120)) := ((Keeps.refl _ w).drewN nq).alloc _
  change Blk _ w.heap.size _ _ at hN0
  change Code.wp _ _ _ _ ((w.drewN nq).alloc (.cells entCells.toArray 120))
  obtain ⟨w1, hw1⟩ : ∃ w1, (w.drewN nq).alloc (.cells entCells.toArray 120) = w1 := ⟨_, rfl⟩
  rw [hw1] at hN0 hk0 ⊢
  try rw [ht]
  obtain ⟨N, hN⟩ : ∃ N, w.heap.size = N := ⟨_, rfl⟩
  rw [hN] at hN0
  have Hk0 := Lib.hid hk0
  have HN0 := Lib.hid hN0
  have HN := Lib.hid hN
  have HT := Lib.hid hT
  clear hw1 hk0 hN0 ht c0 c1 hT
  try rw [hN]
  clear hN
  go_loopg [5, 31] 5 (fun g v5 v31 wr => ∃ (i : Nat) (sh : Bool), i + g = 5 ∧ v5 = .bool sh ∧ v31 = .int .i64 i ∧ Hid (Keeps (fun _ => False) w wr) ∧ Hid (Blk wr N entCells 120) ∧ Hid ((ents.take i).find? (fun x => pre x.1 (bs t)) = none ∧ sh = (ents.take i).any (fun x => pre (bs t) x.1)))
  case atStart => exact ⟨0, false, rfl, rfl, rfl, Hk0.out, HN0.out, rfl, rfl⟩
  case round =>
    clear Hk0 HN0
    obtain ⟨i, sh, hg, rfl, rfl, HK, HC, HE⟩ := hrel
    by_cases h5 : i < 5
    · obtain ⟨nm, tx, hnm, hnm6, htx6, hc0, hc1⟩ : ∃ nm tx : ByteArray, ents[i]? = some (bs nm, bs tx) ∧ nm.size ≤ 6 ∧ tx.size ≤ 6 ∧ entCells[i * 2]? = some (.string nm) ∧ entCells[i * 2 + 1]? = some (.string tx) := by
        have : i = 0 ∨ i = 1 ∨ i = 2 ∨ i = 3 ∨ i = 4 := by omega
        rcases this with rfl | rfl | rfl | rfl | rfl <;> exact ⟨_, _, rfl, by decide, by decide, rfl, rfl⟩
      have e0 := (HC.out.cell (i * 2)).trans hc0
      have e1 := (HC.out.cell (i * 2 + 1)).trans hc1
      have hl := HC.out.lt
      clear hc0 hc1
      have Hnm := Lib.hid hnm; clear hnm
      go_wp2_with fail
      refine (hasPrefix_any t nm _).mono ?_
      rintro e w2 ⟨rfl, hw2⟩
      have hC2 : Blk w2 N entCells 120 := hw2 ▸ HC.out.alloc _
      have hk2 : Keeps (fun _ => False) w w2 := hw2 ▸ HK.out.alloc _
      have hX2 : Blk w2 wr.heap.size [.string nm, .string tx] 120 := hw2 ▸ Blk.new wr [.string nm, .string tx] 120
      obtain ⟨X, hX⟩ : ∃ X, wr.heap.size = X := ⟨_, rfl⟩
      rw [hX] at hX2 ⊢
      clear hw2 hX e0 e1 hl HK HC
      have x0 : w2.cell? ⟨X, 0, none⟩ = some (.string nm) := hX2.cell 0
      have x1 : w2.cell? ⟨X, 1, none⟩ = some (.string tx) := hX2.cell 1
      have hlX := hX2.lt
      have HC2 := Lib.hid hC2
      have HK2 := Lib.hid hk2
      have HX2 := Lib.hid hX2
      clear hC2 hk2 hX2
      cases hpre : pre (bs nm) (bs t) with
      | true =>
        have Hp := Lib.hid hpre
        clear hpre
        have hle : nm.size + at_ ≤ s.size := by
          have := List.IsPrefix.length_le (List.isPrefixOf_iff_prefix.1 Hp.out)
          rw [bs_length, bs_length] at this; omega
        go_wp2_with fail
        have hb2 := HK2.out.blk Hb.out (fun h => h)
        have hu2 := HK2.out.own Hu.out (fun _ _ h => h)
        have hR2 := HR.out.keep HK2.out (fun h => h) (fun _ _ _ h => h)
        refine (writeString_at b en et ek a u sd l base tx w2 hb2 ha hu2 (by omega) (by omega) (Nat.le_trans hB HK2.out.size)).mono ?_
        rintro e w3 ⟨nn, u', rfl, hb3', hu3, hk3, hnear⟩
        have HNear := Lib.hid (hnear.from HK2.out.size)
        clear hnear
        have hR3 := wrote_rd hR2 hb2 hu2 hk3
        have hX3 := wrote_blk HX2.out (by decide) (by decide) hb2 hu2 hk3
        have HK3 := Lib.hid ((HK2.out.mono (fun _ _ h => h.elim)).trans hk3)
        have HB3 := Lib.hid hb3'
        have HU3 := Lib.hid hu3
        have HR3 := Lib.hid hR3
        clear hb2 hu2 hR2 hb3' hu3 hk3 x0 x1 hlX
        obtain ⟨bad3, hB3', _, _⟩ := hR3
        have hl3 := hB3'.lt
        have f1 := hB3'.free 1
        have c1 : w3.cell? ⟨r, 1, none⟩ = some (.int .i64 at_) := hB3'.cell 1
        have x0 : w3.cell? ⟨X, 0, none⟩ = some (.string nm) := hX3.cell 0
        clear hB3' hX3
        go_wp2
        have s1 : IntKind.i64.wrap ((at_ : Int) + nm.size) = (at_ : Int) + nm.size := by rw [IntWalk.i64_in _ (by omega)]
        go_still_tail 10, (by kernel_rfl)
        change wpList _ _ _ _ _ w3.drew
        go_wp2
        have HR4 := Lib.hid ((show Rd w3.drew r s ⟨at_, none⟩ pile from HR3.out.drewN 1).step (at_ + nm.size) (by omega) (v := .int .i64 ((at_ : Int) + nm.size)) (by go_num))
        refine bodyPost_ret (results_none rfl _ _ _) rfl ⟨rfl, ?_⟩
        have hrf : refR (bs t) = .is (bs tx) (bs nm).length := by
          unfold refR; rw [find_take (p := fun x => pre x.1 (bs t)) HE.out.1 Hnm.out Hp.out]
        rw [hrf]
        unfold RefPost
        have HB4 : Blk w3.drew b _ 103 := HB3.out
        have HK4 : Keeps _ w w3.drew := HK3.out.drew
        refine ⟨u', by rw [bs_length]; exact HR4.out, HB4.far (by obtain ⟨bad3, hB3', _, _⟩ := HR3.out; exact HB3.out.ne hB3' (by decide)) _, ?_, ?_, HNear.out⟩
        · rw [bs_length]
          refine ((Keeps.refl (· = r) w3).drew.set1 1 _).own HU3.out (fun k hk e => ?_)
          obtain ⟨bad3, hB3', _, _⟩ := HR3.out
          exact own_ne HU3.out hB3' (by decide) (by rw [hk, e])
        · exact (HK4.mono (fun i _ h => .inr h)).set (fun _ => .inl rfl) _
      | false =>
        have Hp := Lib.hid hpre
        clear hpre
        cases sh with
        | true =>
          go_wp2_with fail
          go_roundg (gk - 1)
          case measure => omega
          case rel =>
            refine ⟨i + 1, true, by omega, rfl, by go_num, HK2.out, HC2.out, find_take_succ HE.out.1 Hnm.out Hp.out, ?_⟩
            rw [any_take_succ Hnm.out, ← HE.out.2]; rfl
        | false =>
          go_wp2_with fail
          refine (hasPrefix_any nm t _).mono ?_
          rintro e w3 ⟨rfl, rfl⟩
          go_wp2_with fail
          go_roundg (gk - 1)
          case measure => omega
          case rel =>
            refine ⟨i + 1, pre (bs t) (bs nm), by omega, rfl, by go_num, HK2.out, HC2.out, find_take_succ HE.out.1 Hnm.out Hp.out, ?_⟩
            rw [any_take_succ Hnm.out, ← HE.out.2]; rfl
    · have h5' : i = 5 := by omega
      subst h5'
      go_wp2_with fail
      have hE := HE.out
      have HE0 := Lib.hid (show ents.find? (fun x => pre x.1 (bs t)) = none from hE.1)
      have HS0 := Lib.hid (show sh = ents.any (fun x => pre (bs t) x.1) from hE.2)
      have hN0 := Blk.new wr fmtCells 123
      have hk0 : Keeps (fun _ => False) w (wr.alloc (.cells fmtCells.toArray 123)) := HK.out.alloc _
      change Code.wp _ _ _ _ (wr.alloc (.cells fmtCells.toArray 123))
      obtain ⟨wb, hwb⟩ : ∃ wb, wr.alloc (.cells fmtCells.toArray 123) = wb := ⟨_, rfl⟩
      rw [hwb] at hN0 hk0 ⊢
      obtain ⟨M, hM⟩ : ∃ M, wr.heap.size = M := ⟨_, rfl⟩
      rw [hM] at hN0
      try rw [hM]
      have Hk0 := Lib.hid hk0
      have HN0 := Lib.hid hN0
      clear hwb hk0 hN0 hM hE HE HC HK
      go_loopg [5, 65] 2 (fun g v5 v65 wr => ∃ (i : Nat) (sh2 : Bool), i + g = 2 ∧ v5 = .bool sh2 ∧ v65 = .int .i64 i ∧ Hid (Keeps (fun _ => False) w wr) ∧ Hid (Blk wr M fmtCells 123) ∧ Hid ((∀ f ∈ forms.take i, ∀ c n, f (bs t) ≠ .is c n) ∧ sh2 = (sh || (forms.take i).any (fun f => (f (bs t)).cut))))
      case atStart => exact ⟨0, sh, rfl, rfl, rfl, Hk0.out, HN0.out, (by simp), (by simp)⟩
      case round =>
        clear Hk0 HN0
        obtain ⟨i, sh2, hg, rfl, rfl, HK, HC, HE⟩ := hrel
        by_cases h2 : i < 2
        · obtain ⟨hd, dg, ds, bb, mm, hF⟩ := form_at i h2
          have HF := Lib.hid hF
          have e0 := (HC.out.cell (i * 4)).trans hF.c0
          have e1 := (HC.out.cell (i * 4 + 1)).trans hF.c1
          have e2 := (HC.out.cell (i * 4 + 2)).trans hF.c2
          have e3 := (HC.out.cell (i * 4 + 3)).trans hF.c3
          have hl := HC.out.lt
          clear hF
          go_wp2_with fail
          refine (Tryz.strings_CutPrefix t hd _).mono ?_
          rintro e w2 ⟨rfl, hw2⟩
          have hC2 : Blk w2 M fmtCells 123 := hw2 ▸ HC.out.alloc _
          have hk2 : Keeps (fun _ => False) w w2 := hw2 ▸ HK.out.alloc _
          have hX2 : Blk w2 wr.heap.size [.string hd, .string dg, .int .i64 bb, .int .i64 mm] 123 := hw2 ▸ Blk.new wr [.string hd, .string dg, .int .i64 bb, .int .i64 mm] 123
          obtain ⟨X, hX⟩ : ∃ X, wr.heap.size = X := ⟨_, rfl⟩
          rw [hX] at hX2 ⊢
          clear hw2 hX e0 e1 e2 e3 hl HK HC
          have x0 : w2.cell? ⟨X, 0, none⟩ = some (.string hd) := hX2.cell 0
          have x1 : w2.cell? ⟨X, 1, none⟩ = some (.string dg) := hX2.cell 1
          have x2 : w2.cell? ⟨X, 2, none⟩ = some (.int .i64 bb) := hX2.cell 2
          have x3 : w2.cell? ⟨X, 3, none⟩ = some (.int .i64 mm) := hX2.cell 3
          have hlX := hX2.lt
          have HC2 := Lib.hid hC2
          have HK2 := Lib.hid hk2
          have HX2 := Lib.hid hX2
          clear hC2 hk2 hX2
          have hcp : (Lib.trimPrefix t.data.toList hd.data.toList, Lib.hasPrefix t.data.toList hd.data.toList) = (if pre (bs hd) (bs t) then (bs t).drop (bs hd).length else bs t, pre (bs hd) (bs t)) := rfl
          injection hcp with hcp1 hcp2
          rw [hcp1, hcp2]
          clear hcp1 hcp2
          cases hpre : pre (bs hd) (bs t) with
          | false =>
            have hf : numR (bs hd) ds bb mm (bs t) = if pre (bs t) (bs hd) then .short else .no := by
              unfold numR; rw [hpre]; rfl
            have Hf := Lib.hid hf
            clear hpre hf
            have HN := Lib.hid (show ∀ f ∈ forms.take (i + 1), ∀ c n, f (bs t) ≠ .is c n by
              intro f hfm c n
              rw [List.take_add_one, HF.out.at_] at hfm
              rcases List.mem_append.1 hfm with h | h
              · exact HE.out.1 f h c n
              · simp at h; subst h; rw [Hf.out]; split <;> simp)
            have HA := Lib.hid (show (forms.take (i + 1)).any (fun f => (f (bs t)).cut) = ((forms.take i).any (fun f => (f (bs t)).cut) || pre (bs t) (bs hd)) by
              rw [any_take_succ HF.out.at_, Hf.out]; cases pre (bs t) (bs hd) <;> rfl)
            cases sh2 with
            | true =>
              go_wp2_with fail
              go_roundg (gk - 1)
              case measure => omega
              case rel =>
                refine ⟨i + 1, true, by omega, rfl, by go_num, HK2.out, HC2.out, HN.out, ?_⟩
                rw [HA.out, ← Bool.or_assoc, ← HE.out.2]; rfl
            | false =>
              go_wp2_with fail
              refine (hasPrefix_any hd t _).mono ?_
              rintro e w3 ⟨rfl, rfl⟩
              go_wp2_with fail
              go_roundg (gk - 1)
              case measure => omega
              case rel =>
                refine ⟨i + 1, pre (bs t) (bs hd), by omega, rfl, by go_num, HK2.out, HC2.out, HN.out, ?_⟩
                rw [HA.out, ← Bool.or_assoc, ← HE.out.2]; rfl
          | true =>
            have hdl := List.IsPrefix.length_le (List.isPrefixOf_iff_prefix.1 hpre)
            rw [bs_length, bs_length] at hdl
            obtain ⟨tl, htl⟩ : ∃ tl, sb ((bs t).drop (bs hd).length) = tl := ⟨_, rfl⟩
            have htb : bs tl = (bs t).drop (bs hd).length := by rw [← htl, bs_sb]
            have htz : tl.size + hd.size = t.size := by rw [← bs_length tl, htb, List.length_drop, bs_length, bs_length]; omega
            have Htb := Lib.hid htb
            have Hp := Lib.hid hpre
            rw [show (⟨(if true = true then (bs t).drop (bs hd).length else bs t).toArray⟩ : ByteArray) = tl from htl]
            clear htl htb hpre
            go_wp2_with fail
            refine (trimLeft_any tl dg ds w2 HF.out.set HF.out.dg30 HF.out.asc).mono ?_
            rintro e w3 ⟨z, rfl, hz, hb3'⟩
            have hk3 := HK2.out.trans (Keeps.fresh hb3')
            have hC3 := (Keeps.fresh (D := fun _ => False) hb3').blk HC2.out (fun h => h)
            have hX3 := (Keeps.fresh (D := fun _ => False) hb3').blk HX2.out (fun h => h)
            clear x0 x1 x2 x3 hlX hb3'
            have x0 : w3.cell? ⟨X, 0, none⟩ = some (.string hd) := hX3.cell 0
            have x2 : w3.cell? ⟨X, 2, none⟩ = some (.int .i64 bb) := hX3.cell 2
            have x3 : w3.cell? ⟨X, 3, none⟩ = some (.int .i64 mm) := hX3.cell 3
            have hlX := hX3.lt
            have HC3 := Lib.hid hC3
            have HK3 := Lib.hid hk3
            have HX3 := Lib.hid hX3
            clear hC3 hk3 hX3 HC2 HK2 HX2
            have hmm := HF.out.mm7
            obtain ⟨n0, hn0⟩ : ∃ n0, ((bs tl).takeWhile ds).length = n0 := ⟨_, rfl⟩
            rw [hn0] at hz
            have Hn0 := Lib.hid hn0
            clear hn0
            have hw1 : IntKind.i64.wrap ((tl.size : Int) - z.size) = (n0 : Int) := by rw [IntWalk.i64_in _ (by omega)]; omega
            obtain ⟨n, hn⟩ : ∃ n, min n0 mm = n := ⟨_, rfl⟩
            have hmin : min (n0 : Int) (mm : Int) = (n : Int) := by omega
            have hnn : numN ds mm (bs tl) = n := by unfold numN; rw [Hn0.out, hn]
            have hn7 : n ≤ 7 := by omega
            have hntl : n ≤ tl.size := by omega
            have hnmm : n ≤ mm := by omega
            have hall : ∀ c ∈ (bs tl).take n, ds c = true := by
              intro c hc
              have h1 := takeWhile_all ds (bs tl) c
              refine h1 ?_
              have h2 : (bs tl).take n = ((bs tl).takeWhile ds).take n := by
                have h3 := List.takeWhile_append_dropWhile (p := ds) (l := bs tl)
                conv => lhs; rw [← h3]
                rw [List.take_append_of_le_length (by rw [Hn0.out]; omega)]
              rw [h2] at hc
              exact List.mem_of_mem_take hc
            have hf0 : numR (bs hd) ds bb mm (bs t) = numT ds bb mm (bs hd).length (bs tl) := by unfold numR; rw [Hp.out, Htb.out]; rfl
            have HAll := Lib.hid hall
            have Hnn := Lib.hid hnn
            clear hn hnn hall
            by_cases hlast : n = tl.size
            · have hf : numR (bs hd) ds bb mm (bs t) = .short := by
                rw [hf0]; unfold numT; rw [Hnn.out, if_pos (by rw [bs_length]; exact hlast)]
              have HN := Lib.hid (show ∀ f ∈ forms.take (i + 1), ∀ c n, f (bs t) ≠ .is c n by
                intro f hfm c n
                rw [List.take_add_one, HF.out.at_] at hfm
                rcases List.mem_append.1 hfm with h | h
                · exact HE.out.1 f h c n
                · simp at h; subst h; rw [hf]; simp)
              have HA := Lib.hid (show (forms.take (i + 1)).any (fun f => (f (bs t)).cut) = true by
                rw [any_take_succ HF.out.at_, hf]; simp [NumE.cut])
              clear hf hf0
              go_wp2_with fail
              go_roundg (gk - 1)
              case measure => omega
              case rel =>
                refine ⟨i + 1, true, by omega, rfl, by go_num, HK3.out, HC3.out, HN.out, ?_⟩
                rw [HA.out, Bool.or_true]
            · have hlt : n < tl.size := by omega
              have hs2 : (0 : Int) ≤ (n : Int) := by omega
              have hs3 : (n : Int) ≤ (tl.size : Int) := by omega
              obtain ⟨ub, hub⟩ : ∃ ub, tl.extract 0 n = ub := ⟨_, rfl⟩
              have hubb : bs ub = (bs tl).take n := by rw [← hub, bs_extract]; rfl
              have hubs : ub.size = n := by rw [← bs_length, hubb, List.length_take, bs_length]; omega
              by_cases h0 : n = 0
              · have hf : numR (bs hd) ds bb mm (bs t) = .no := by
                  rw [hf0]; unfold numT
                  rw [Hnn.out, if_neg (by rw [bs_length]; exact hlast), if_neg (fun h => h.1 h0)]
                have hube : ub = ⟨#[]⟩ := bs_inj (by rw [hubb, h0]; rfl)
                have hG3 := Hg.out.keep HK3.out (fun _ _ h => h)
                obtain ⟨ev, hev1, hev2⟩ := hG3.syn
                have hnum := parseIntNo bb ev w3.drew (show w3.drew.cell? ⟨3, 0, none⟩ = some ev from hev1) hev2
                rw [← hube] at hnum
                clear hubb hube hG3 hev2 hev1 h0
                go_wp2_with fail
                go_region_with (go_at_call 79; refine hnum.mono ?_; rintro e w4 ⟨⟨N4, rfl⟩, hb4⟩)
                have hK4 : Keeps (fun _ => False) w3 w4 := Keeps.fresh (show Below w3.heap.size w3 w4 from ⟨hb4.os, hb4.tape, hb4.output, hb4.size, hb4.block⟩)
                have HK4 := Lib.hid (HK3.out.trans hK4)
                have HC4 := Lib.hid (hK4.blk HC3.out (fun h => h))
                clear hb4 hK4 x0 x2 x3 hlX HK3 HC3 HX3 hnum
                go_wp2_with fail
                go_roundg (gk - 1)
                case measure => omega
                case rel => exact ⟨i + 1, sh2, by omega, rfl, by go_num, HK4.out, HC4.out, form_no HF.out.at_ HE.out.1 hf HE.out.2⟩
              · have hnum := fun wz => HF.out.num ub wz (by omega) (by omega) (by rw [hubb]; exact HAll.out)
                have hvlt := HF.out.lt ((bs tl).take n) HAll.out (by rw [List.length_take]; omega)
                rw [hubb] at hnum
                obtain ⟨v, hv⟩ : ∃ v, digV bb 0 ((bs tl).take n) = v := ⟨_, rfl⟩
                rw [hv] at hnum hvlt
                have Hv := Lib.hid hv
                clear hv hubb
                go_wp2_with fail
                go_region_with (go_at_call 79; refine (hnum _).mono ?_; rintro e w4 ⟨rfl, hb4⟩)
                have hK4 : Keeps (fun _ => False) w3 w4 := Keeps.fresh (show Below w3.heap.size w3 w4 from ⟨hb4.os, hb4.tape, hb4.output, hb4.size, hb4.block⟩)
                have HK4 := Lib.hid (HK3.out.trans hK4)
                have HC4 := Lib.hid (hK4.blk HC3.out (fun h => h))
                have hX4 := hK4.blk HX3.out (fun h => h)
                clear hb4 hK4 x0 x2 x3 hlX HK3 HC3 HX3 hnum
                have x0 : w4.cell? ⟨X, 0, none⟩ = some (.string hd) := hX4.cell 0
                have hlX := hX4.lt
                have HX4 := Lib.hid hX4
                clear hX4
                have hwv : IntKind.i32.wrap (v : Int) = v := by rw [IntKind.wrap_i32]; omega
                have hnI : (n : Int) < (tl.size : Int) := by omega
                have hlast59 : ∀ q : UInt8, tl[n] = q → (bs tl)[n]? = some q := fun q hq => by rw [bs_get tl n hlt, hq]
                obtain ⟨q, hq⟩ : ∃ q, tl[n] = q := ⟨_, rfl⟩
                have hqs := hlast59 q hq
                clear hlast59
                by_cases h59 : q = 59
                · subst h59
                  cases hkn : knowsB v with
                  | true =>
                    have hf : numR (bs hd) ds bb mm (bs t) = .is v (hd.size + n + 1) := by
                      rw [hf0]; unfold numT
                      rw [Hnn.out, if_neg (by rw [bs_length]; exact hlast), if_pos ⟨h0, hqs, by rw [Hv.out]; exact hkn⟩, Hv.out, bs_length]
                    have hv1 : (v : Int) ≤ 1114111 := by
                      unfold knowsB validR at hkn
                      simp only [Bool.or_eq_true, Bool.and_eq_true, beq_iff_eq, decide_eq_true_eq] at hkn
                      omega
                    have Hf := Lib.hid hf
                    have Hqs := Lib.hid hqs
                    clear hqs
                    clear hf hf0
                    go_wp2_with fail
                    refine (knows_any v w4).mono ?_
                    rintro e w5 ⟨rfl, rfl⟩
                    rw [hkn]
                    go_wp2_with fail
                    have hb2 := HK4.out.blk Hb.out (fun h => h)
                    have hu2 := HK4.out.own Hu.out (fun _ _ h => h)
                    have hR2 := HR.out.keep HK4.out (fun h => h) (fun _ _ _ h => h)
                    refine (writeRune_at b en et ek a u sd l base v w4 hb2 ha hu2 (by omega) hv1 (by omega) (Nat.le_trans hB HK4.out.size)).mono ?_
                    rintro e w5 ⟨nn, u', rfl, hb5, hu5, hk5, hnear⟩
                    have HNear := Lib.hid (hnear.from HK4.out.size)
                    clear hnear
                    have hR3 := wrote_rd hR2 hb2 hu2 hk5
                    have hX3 := wrote_blk HX4.out (by decide) (by decide) hb2 hu2 hk5
                    have HK3 := Lib.hid ((HK4.out.mono (fun _ _ h => h.elim)).trans hk5)
                    have HB3 := Lib.hid hb5
                    have HU3 := Lib.hid hu5
                    have HR3 := Lib.hid hR3
                    clear hb2 hu2 hR2 hb5 hu5 hk5 x0 hlX
                    obtain ⟨bad3, hB3', _, _⟩ := hR3
                    have hl3 := hB3'.lt
                    have f1 := hB3'.free 1
                    have c1 : w5.cell? ⟨r, 1, none⟩ = some (.int .i64 at_) := hB3'.cell 1
                    have x0 : w5.cell? ⟨X, 0, none⟩ = some (.string hd) := hX3.cell 0
                    clear hB3' hX3
                    have hhd := HF.out.hd3
                    have s1 : IntKind.i64.wrap ((hd.size : Int) + n) = (hd.size : Int) + n := by rw [IntWalk.i64_in _ (by omega)]
                    have s2 : IntKind.i64.wrap ((hd.size : Int) + n + 1) = (hd.size : Int) + n + 1 := by rw [IntWalk.i64_in _ (by omega)]
                    have s3 : IntKind.i64.wrap ((at_ : Int) + ((hd.size : Int) + n + 1)) = (at_ : Int) + ((hd.size : Int) + n + 1) := by rw [IntWalk.i64_in _ (by omega)]
                    go_wp2_with fail
                    go_still_tail 13, (by kernel_rfl)
                    change wpList _ _ _ _ _ w5.drew
                    go_wp2
                    have HR4 := Lib.hid ((show Rd w5.drew r s ⟨at_, none⟩ pile from HR3.out.drewN 1).step (at_ + (hd.size + n + 1)) (by omega) (v := .int .i64 ((at_ : Int) + ((hd.size : Int) + n + 1))) (by go_num))
                    refine bodyPost_ret (results_none rfl _ _ _) rfl ⟨rfl, ?_⟩
                    have hrf : refR (bs t) = .is (encR v) (hd.size + n + 1) := by
                      unfold refR; rw [HE0.out]; exact refN_is HF.out.at_ HE.out.1 Hf.out
                    rw [hrf]
                    unfold RefPost
                    have HB4 : Blk w5.drew b _ 103 := HB3.out
                    have HK5 : Keeps _ w w5.drew := HK3.out.drew
                    have hle : (encR v).length = (Lib.runeCells v).length := by rw [← u8s_encR, u8s_length]
                    refine ⟨u', HR4.out, HB4.far (by obtain ⟨bad3, hB3', _, _⟩ := HR3.out; exact HB3.out.ne hB3' (by decide)) _, ?_, ?_, HNear.out⟩
                    · rw [hle, u8s_encR]
                      refine ((Keeps.refl (· = r) w5).drew.set1 1 _).own HU3.out (fun k hk e => ?_)
                      obtain ⟨bad3, hB3', _, _⟩ := HR3.out
                      exact own_ne HU3.out hB3' (by decide) (by rw [hk, e])
                    · exact (HK5.mono (fun i _ h => .inr h)).set (fun _ => .inl rfl) _
                  | false =>
                    have hf : numR (bs hd) ds bb mm (bs t) = .no := by
                      rw [hf0]; unfold numT
                      rw [Hnn.out, if_neg (by rw [bs_length]; exact hlast), if_neg]
                      rintro ⟨_, _, h3⟩
                      rw [Hv.out, hkn] at h3
                      exact absurd h3 (by decide)
                    go_wp2_with fail
                    refine (knows_any v w4).mono ?_
                    rintro e w5 ⟨rfl, rfl⟩
                    rw [hkn]
                    go_wp2_with fail
                    go_roundg (gk - 1)
                    case measure => omega
                    case rel => exact ⟨i + 1, sh2, by omega, rfl, by go_num, HK4.out, HC4.out, form_no HF.out.at_ HE.out.1 hf HE.out.2⟩
                · have hf : numR (bs hd) ds bb mm (bs t) = .no := by
                    rw [hf0]; unfold numT
                    rw [Hnn.out, if_neg (by rw [bs_length]; exact hlast), if_neg]
                    rintro ⟨_, h2, _⟩
                    rw [hqs] at h2
                    exact h59 (Option.some.inj h2)
                  have hq59 : ((q.toNat : Int) == 59) = false := by
                    rw [beq_eq_false_iff_ne]
                    intro e
                    exact h59 (UInt8.toNat_inj.1 (by change q.toNat = 59; omega))
                  go_wp2_with fail
                  go_roundg (gk - 1)
                  case measure => omega
                  case rel => exact ⟨i + 1, sh2, by omega, rfl, by go_num, HK4.out, HC4.out, form_no HF.out.at_ HE.out.1 hf HE.out.2⟩
        · have h2' : i = 2 := by omega
          subst h2'
          have hrf : refR (bs t) = .bad sh2 := by
            unfold refR; rw [HE0.out, refN_bad HE.out.1, HE.out.2, HS0.out]; rfl
          have Hrf := Lib.hid hrf
          clear hrf
          have hRz := HR.out.keep HK.out (fun h => h) (fun _ _ _ h => h)
          have HRz := Lib.hid hRz
          obtain ⟨c0, c1, c3, f1, f3, hl⟩ := hRz.cells
          dsimp only at c1
          clear hRz
          cases sh2 with
          | true =>
            go_wp2_with fail
            refine (fail_any r s ⟨at_, none⟩ pile 55 _ wr HRz.out).mono ?_
            rintro e w5 ⟨rfl, hR5, hk5⟩
            have HR5 := Lib.hid hR5
            have HK5 := Lib.hid ((HK.out.mono (D' := (· = r)) (fun _ _ h => h.elim)).trans hk5)
            clear hR5 hk5 c0 c1 c3 f1 f3 hl
            go_wp2_with fail
            go_end0
            refine ⟨rfl, ?_⟩
            rw [Hrf.out]
            exact ⟨HR5.out, HK5.out⟩
          | false =>
            go_wp2_with fail
            refine (fail_any r s ⟨at_, none⟩ pile 55 _ wr HRz.out).mono ?_
            rintro e w5 ⟨rfl, hR5, hk5⟩
            have HR5 := Lib.hid hR5
            have HK5 := Lib.hid ((HK.out.mono (D' := (· = r)) (fun _ _ h => h.elim)).trans hk5)
            clear hR5 hk5 c0 c1 c3 f1 f3 hl
            go_wp2_with fail
            go_end0
            refine ⟨rfl, ?_⟩
            rw [Hrf.out]
            exact ⟨HR5.out, HK5.out⟩
end Go.Proofs.YtkjopcbleefioaaGreatDoor
