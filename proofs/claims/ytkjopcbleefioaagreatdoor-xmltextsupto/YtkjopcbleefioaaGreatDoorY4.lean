/- A replacer: NewReplacer, built at its first use, used. -/
import Derived.Test.YtkjopcbleefioaaGreatDoorY3
namespace Go.Proofs.YtkjopcbleefioaaGreatDoor
open Go Go.RowKit
set_option linter.unusedSimpArgs false
set_option linter.unusedVariables false

def RepCells (d m : Int) (r o : Value) : List Value := [.int .u32 d, .int .i32 m, .int .u32 0, r, o]
/-- What was handed to NewReplacer lies at o. -/
def Given (w : World) (o : Nat) : Prop := ∀ j c l, prs[j]? = some (c, l) → w.cell? ⟨o, 2 * j, none⟩ = some (.string ⟨#[c]⟩) ∧ w.cell? ⟨o, 2 * j + 1, none⟩ = some (.string (sb l))
theorem Given.lt {w : World} {o : Nat} (h : Given w o) : o < w.heap.size := by
  have := (h 0 _ _ rfl).1
  rcases Nat.lt_or_ge o w.heap.size with h' | h'
  · exact h'
  · simp [World.cell?, Array.getElem?_eq_none h'] at this
theorem Given.keep {w w' : World} {o : Nat} {D : Nat → Prop} (h : Given w o) (k : Keeps D w w') (hD : ¬ D o) : Given w' o := fun j c l hj => by
  have hb := k.block o h.lt hD
  exact ⟨(World.cell?_of_block (a := ⟨o, _, none⟩) hb).trans (h j c l hj).1, (World.cell?_of_block (a := ⟨o, _, none⟩) hb).trans (h j c l hj).2⟩

set_option maxHeartbeats 4000000 in
set_option maxRecDepth 100000 in
theorem buildOnce_any (e o cap : Nat) (d m : Int) (w : World) (hE : Blk w e (RepCells d m .nilIface (.slice (some ⟨o, 0, none⟩) 10 cap)) 90) (ho : Given w o) :
    Calls Tryz.prog 55 #[.pointer (some ⟨e, 0, none⟩)] w fun en w' => en = .returned (.tuple #[]) ∧ ∃ B, Blk w' e (RepCells d m (.iface 151 (.pointer (some ⟨B, 0, none⟩))) (.slice none 0 0)) 90 ∧
      TabB w' (fun b => w.heap.size ≤ b ∧ b < w'.heap.size) B ∧ Keeps (· = e) w w' := by
  have hb := build_any e o cap w (hE.cell 4) ho ho.lt
  have HB := Lib.hid hb; have HE := Lib.hid hE
  clear hb hE ho
  go_enter Tryz.func55, Tryz.ntmps55
  go_wp2_with fail
  refine HB.out.mono ?_
  rintro en w1 ⟨B, rfl, hT, hb1⟩
  have hE1 : Blk w1 e _ 90 := (Keeps.fresh (D := fun _ => False) hb1).blk HE.out (fun h => h)
  have c3 : w1.cell? ⟨e, 3, none⟩ = some .nilIface := hE1.cell 3
  have c4 : w1.cell? ⟨e, 4, none⟩ = some (.slice (some ⟨o, 0, none⟩) 10 cap) := hE1.cell 4
  have f3 := hE1.free 3
  have f4 := hE1.free 4
  have hl := hE1.lt
  have HE1 := Lib.hid hE1; have HT := Lib.hid hT; have HK := Lib.hid hb1
  clear hE1 hT hb1 HB
  go_wp2_with fail
  go_end0
  refine ⟨rfl, B, ((HE1.out.set 3 _).set 4 _), ?_, ?_⟩
  · have k : Keeps (· = e) w1 ((w1.setCell ⟨e, 3, none⟩ (.iface 151 (.pointer (some ⟨B, 0, none⟩)))).setCell ⟨e, 4, none⟩ (.slice none 0 0)) := ((Keeps.refl _ _).set1 _ _).set1 _ _
    have h := HT.out.keep k (fun b hb e => by have := HE.out.lt; omega)
    rw [show ((w1.setCell ⟨e, 3, none⟩ (.iface 151 (.pointer (some ⟨B, 0, none⟩)))).setCell ⟨e, 4, none⟩ (.slice none 0 0)).heap.size = w1.heap.size by simp]
    exact h
  · exact (((Keeps.fresh HK.out).set1 _ _).set1 _ _)

theorem TabB.mono {w : World} {F G : Nat → Prop} {B : Nat} (h : TabB w F B) (hF : ∀ b, F b → G b) : TabB w G B := by
  obtain ⟨hB, cs, h1, h2, h3, h4, g, cap, h5, h6, h7⟩ := h
  exact ⟨hF _ hB, cs, h1, h2, h3, fun c l hc => by obtain ⟨g, cap, e1, e2, e3⟩ := h4 c l hc; exact ⟨g, cap, e1, hF _ e2, e3⟩, g, cap, h5, hF _ h6, h7⟩

set_option maxHeartbeats 4000000 in
set_option maxRecDepth 100000 in
theorem slow_any (e o cap : Nat) (w : World) (hE : Blk w e (RepCells 0 0 .nilIface (.slice (some ⟨o, 0, none⟩) 10 cap)) 90) (ho : Given w o) (hne : o ≠ e) :
    Calls Tryz.prog 72 #[.pointer (some ⟨e, 0, none⟩), .func (.func 55) #[.pointer (some ⟨e, 0, none⟩)] #[]] w fun en w' => en = .returned (.tuple #[]) ∧ ∃ B, Blk w' e (RepCells 1 0 (.iface 151 (.pointer (some ⟨B, 0, none⟩))) (.slice none 0 0)) 90 ∧
      TabB w' (fun b => w.heap.size ≤ b ∧ b < w'.heap.size) B ∧ Keeps (· = e) w w' := by
  have c1 : w.cell? ⟨e, 1, none⟩ = some (.int .i32 0) := hE.cell 1
  have f1 := hE.free 1
  have HE := Lib.hid hE; have HO := Lib.hid ho; have Hne := Lib.hid hne
  clear hE ho hne
  go_enter_defers Tryz.func72, Tryz.ntmps72
  go_wp2_with fail
  refine (lock_free ⟨e, 1, none⟩ w c1 f1).mono ?_
  rintro en w1 ⟨rfl, hw1⟩
  have hE1 : Blk w1 e (RepCells 0 1 .nilIface (.slice (some ⟨o, 0, none⟩) 10 cap)) 90 := by rw [hw1]; exact HE.out.set 1 _
  have hk1 : Keeps (· = e) w w1 := by rw [hw1]; exact (Keeps.refl _ _).set1 _ _
  have ho1 := HO.out.keep hk1 Hne.out
  have HE1 := Lib.hid hE1; have HK1 := Lib.hid hk1; have HO1 := Lib.hid ho1
  clear hw1 hE1 hk1 ho1 c1 f1
  go_wp2_with fail
  refine (load_flag ⟨e, 0, none⟩ 0 false w1 (HE1.out.cell 0) rfl).mono ?_
  rintro en w2 ⟨rfl, rfl⟩
  go_wp2_with fail
  refine (buildOnce_any e o cap 0 1 w1 HE1.out HO1.out).mono ?_
  rintro en w3 ⟨rfl, B, hE3, hT3, hk3⟩
  have HE3 := Lib.hid hE3; have HT3 := Lib.hid hT3; have HK3 := Lib.hid (HK1.out.trans hk3)
  have Hz1 := Lib.hid HK1.out.size
  clear hE3 hT3 hk3
  go_wp2_with fail
  have hE3d : Blk w3.drew e _ 90 := HE3.out.drew
  refine leaves_cons (f := 89) (args := #[.pointer (some ⟨e, 0, none⟩), .bool true]) (by simp) (by simp [go_sem]) ?_
  refine (store_deferred ⟨e, 0, none⟩ (.int .u32 0) .returning w3 (HE3.out.cell 0) (HE3.out.free 0)).mono ?_
  rintro en u' w4 ⟨rfl, rfl, hw4⟩
  have hE4 : Blk w4 e (RepCells 1 1 (.iface 151 (.pointer (some ⟨B, 0, none⟩))) (.slice none 0 0)) 90 := by rw [hw4]; exact hE3d.set 0 _
  have hk4 : Keeps (· = e) w3 w4 := by rw [hw4]; exact ((Keeps.refl _ _).drew).set1 _ _
  refine leaves_cons (f := 88) (args := #[.pointer (some ⟨e, 1, none⟩)]) (by simp [settle]) (by simp [go_sem]) ?_
  refine (unlock_deferred ⟨e, 1, none⟩ _ w4 (hE4.cell 1) (hE4.free 1)).mono ?_
  rintro en u' w5 ⟨rfl, rfl, hw5⟩
  have hE5 : Blk w5 e (RepCells 1 0 (.iface 151 (.pointer (some ⟨B, 0, none⟩))) (.slice none 0 0)) 90 := by rw [hw5]; exact hE4.set 1 _
  have hk5 : Keeps (· = e) w4 w5 := by rw [hw5]; exact (Keeps.refl _ _).set1 _ _
  have hk35 := hk4.trans hk5
  have hT5 := (HT3.out.keep hk35 (fun b hb h => by have := HE1.out.lt; omega)).mono (G := fun b => w.heap.size ≤ b ∧ b < w5.heap.size) (fun b hb => ⟨by have := Hz1.out; omega, by have := hk35.size; omega⟩)
  have hfin : (Ending.returned (.tuple #[]) = .returned (.tuple #[])) ∧ ∃ B, Blk w5 e (RepCells 1 0 (.iface 151 (.pointer (some ⟨B, 0, none⟩))) (.slice none 0 0)) 90 ∧ TabB w5 (fun b => w.heap.size ≤ b ∧ b < w5.heap.size) B ∧ Keeps (· = e) w w5 := ⟨rfl, B, hE5, hT5, HK3.out.trans hk35⟩
  clear hw4 hw5 hE4 hk4 hE5 hk5 hk35 hT5
  simpa [Leaves, settle, results, Tryz.results72] using hfin

/-- A replacer at e: new, or built; what it hangs on lies in F. -/
def RepOk (w : World) (F : Nat → Prop) (e : Nat) : Prop :=
  F e ∧ ((∃ o cap, F o ∧ o ≠ e ∧ Blk w e (RepCells 0 0 .nilIface (.slice (some ⟨o, 0, none⟩) 10 cap)) 90 ∧ Given w o) ∨
    ∃ B, Blk w e (RepCells 1 0 (.iface 151 (.pointer (some ⟨B, 0, none⟩))) (.slice none 0 0)) 90 ∧ TabB w F B)
theorem RepOk.keep {w w' : World} {F : Nat → Prop} {e : Nat} {D : Nat → Prop} (h : RepOk w F e) (k : Keeps D w w') (hD : ∀ b, F b → ¬ D b) : RepOk w' F e := by
  obtain ⟨he, h | h⟩ := h
  · obtain ⟨o, cap, h1, h2, h3, h4⟩ := h
    exact ⟨he, .inl ⟨o, cap, h1, h2, k.blk h3 (hD _ he), h4.keep k (hD _ h1)⟩⟩
  · obtain ⟨B, h1, h2⟩ := h
    exact ⟨he, .inr ⟨B, k.blk h1 (hD _ he), h2.keep k hD⟩⟩
theorem RepOk.mono {w : World} {F G : Nat → Prop} {e : Nat} (h : RepOk w F e) (hF : ∀ b, F b → G b) : RepOk w G e := by
  obtain ⟨he, h | h⟩ := h
  · obtain ⟨o, cap, h1, h2, h3, h4⟩ := h
    exact ⟨hF _ he, .inl ⟨o, cap, hF _ h1, h2, h3, h4⟩⟩
  · obtain ⟨B, h1, h2⟩ := h
    exact ⟨hF _ he, .inr ⟨B, h1, h2.mono hF⟩⟩
/-- What came new in a call. -/
def More (F : Nat → Prop) (w w' : World) (b : Nat) : Prop := F b ∨ (w.heap.size ≤ b ∧ b < w'.heap.size)

set_option maxHeartbeats 4000000 in
theorem do_any (F : Nat → Prop) (e : Nat) (w : World) (hR : RepOk w F e) :
    Calls Tryz.prog 54 #[.pointer (some ⟨e, 0, none⟩), .func (.func 55) #[.pointer (some ⟨e, 0, none⟩)] #[]] w fun en w' => en = .returned (.tuple #[]) ∧ (∃ B, Blk w' e (RepCells 1 0 (.iface 151 (.pointer (some ⟨B, 0, none⟩))) (.slice none 0 0)) 90 ∧ TabB w' (More F w w') B) ∧ Keeps (· = e) w w' := by
  obtain ⟨he, hR | hR⟩ := hR
  · obtain ⟨o, cap, h1, h2, h3, h4⟩ := hR
    have hl := load_flag ⟨e, 0, none⟩ 0 false w (h3.cell 0) rfl
    have hs := slow_any e o cap w h3 h4 h2
    have HL := Lib.hid hl; have HS := Lib.hid hs
    clear hl hs h1 h2 h3 h4 he
    go_enter Tryz.func54, Tryz.ntmps54
    go_wp2_with fail
    refine HL.out.mono ?_
    rintro en w1 ⟨rfl, rfl⟩
    go_wp2_with fail
    refine HS.out.mono ?_
    rintro en w1 ⟨rfl, B, hE, hT, hk⟩
    have HE := Lib.hid hE; have HT := Lib.hid hT; have HK := Lib.hid hk
    clear hE hT hk HL HS
    go_wp2_with fail
    go_end0
    exact ⟨rfl, ⟨B, HE.out, HT.out.mono (fun b hb => .inr hb)⟩, HK.out⟩
  · obtain ⟨B, h1, h2⟩ := hR
    have hl := load_flag ⟨e, 0, none⟩ 1 true w (h1.cell 0) rfl
    have HL := Lib.hid hl; have H1 := Lib.hid h1; have H2 := Lib.hid h2
    clear hl h1 h2 he
    go_enter Tryz.func54, Tryz.ntmps54
    go_wp2_with fail
    refine HL.out.mono ?_
    rintro en w1 ⟨rfl, rfl⟩
    go_wp2_with fail
    go_end0
    exact ⟨rfl, ⟨B, H1.out, H2.out.mono (fun b hb => .inl hb)⟩, Keeps.refl _ _⟩

theorem method_replace (a : Addr) (w : World) : (method 352 151 (.pointer (some a)) "Replace").run Tryz.prog w = .ok (184, .pointer (some a)) w := by kernel_rfl

set_option maxHeartbeats 4000000 in
set_option maxRecDepth 100000 in
theorem replace_any (F : Nat → Prop) (e : Nat) (s : ByteArray) (w : World) (hR : RepOk w F e) (hF : ∀ b, F b → b < w.heap.size) (hs : s.size ≤ 2097152) :
    Calls Tryz.prog 37 #[.pointer (some ⟨e, 0, none⟩), .string s] w fun en w' => en = .returned (.string (sb (escS (bs s)))) ∧ RepOk w' (More F w w') e ∧ Keeps (· = e) w w' := by
  have hmf : ∀ (fn : Fn) (first cap : Array Value) (w : World), (Instr.makeFunc fn first cap).run Tryz.prog w = .ok (.func fn first cap) w := fun _ _ _ _ => rfl
  have hd := do_any F e w hR
  have HD := Lib.hid hd; have HR := Lib.hid hR
  clear hd hR
  go_enter Tryz.func37, Tryz.ntmps37
  go_wp2_with fail
  refine HD.out.mono ?_
  rintro en w1 ⟨rfl, ⟨B, hE, hT⟩, hk⟩
  have c3 : w1.cell? ⟨e, 3, none⟩ = some (.iface 151 (.pointer (some ⟨B, 0, none⟩))) := hE.cell 3
  have HE := Lib.hid hE; have HT := Lib.hid hT; have HK := Lib.hid hk
  have hm := method_replace
  have hr := replaceB_any B (More F w w1) s w1 hT hs
  have HRp := Lib.hid hr
  clear hE hT hk HD hmf hr
  go_wp2_with fail
  refine HRp.out.mono ?_
  rintro en w2 ⟨rfl, hb⟩
  have HB2 := Lib.hid hb
  clear hb HRp
  go_wp2_with fail
  go_ret
  refine ⟨rfl, ?_, HK.out.trans (Keeps.fresh HB2.out)⟩
  have hz := HK.out.size
  have hz2 := HB2.out.size
  have he : F e := HR.out.1
  have hr1 : RepOk w1 (More F w w1) e := ⟨.inl he, .inr ⟨B, HE.out, HT.out⟩⟩
  refine (hr1.keep (D := fun _ => False) (Keeps.fresh HB2.out) (fun _ _ h => h)).mono ?_
  rintro b (h | h)
  · exact .inl h
  · exact .inr ⟨h.1, by omega⟩

theorem Blk.cellAdd {w : World} {g : Nat} {cs : List Value} {T : TypeId} (h : Blk w g cs T) {j : Nat} {u : Value} (hu : cs[j]? = some u) : w.cell? ((⟨g, 0, none⟩ : Addr).add j) = some u := by
  have h2 := (h.cell j).trans hu
  cases j with
  | zero => exact h2
  | succ j => unfold Addr.add; simpa using h2

theorem infoStrs : (Tryz.prog.info? 9).map (fun i => (i.zero, i.size, i.bytes)) = some (some (.string ⟨#[]⟩), 1, 16) := by kernel_rfl

set_option maxHeartbeats 4000000 in
set_option maxRecDepth 100000 in
/-- NewReplacer over the five pairs. -/
theorem newReplacer_any (g : Nat) (w : World) (hg : Blk w g [.string ⟨#[38]⟩, .string ⟨#[38, 97, 109, 112, 59]⟩, .string ⟨#[60]⟩, .string ⟨#[38, 108, 116, 59]⟩, .string ⟨#[62]⟩, .string ⟨#[38, 103, 116, 59]⟩, .string ⟨#[34]⟩, .string ⟨#[38, 113, 117, 111, 116, 59]⟩, .string ⟨#[13]⟩, .string ⟨#[38, 35, 49, 51, 59]⟩] 9) :
    Calls Tryz.prog 23 #[.slice (some ⟨g, 0, none⟩) 10 10] w fun en w' => ∃ e, en = .returned (.pointer (some ⟨e, 0, none⟩)) ∧ RepOk w' (fun b => w.heap.size ≤ b ∧ b < w'.heap.size) e ∧ Below w.heap.size w w' := by
  obtain ⟨i0, hi, hz0, hz1, hz2⟩ := info_parts infoStrs
  have HG := Lib.hid hg
  clear hg
  go_enter Tryz.func23, Tryz.ntmps23
  go_wp2_with (at_builtin; refine wpList_append_lies _ rfl _ _ 74 rfl w.heap.size 9 i0 (.string ⟨#[]⟩) 1 16 Tryz.underlying74 hi hz0 hz1 hz2 rfl (by decide) _ 0 [] rfl ⟨rfl, .inl ⟨rfl, rfl⟩⟩ ⟨g, 0, none⟩ 10 10 [.string ⟨#[38]⟩, .string ⟨#[38, 97, 109, 112, 59]⟩, .string ⟨#[60]⟩, .string ⟨#[38, 108, 116, 59]⟩, .string ⟨#[62]⟩, .string ⟨#[38, 103, 116, 59]⟩, .string ⟨#[34]⟩, .string ⟨#[38, 113, 117, 111, 116, 59]⟩, .string ⟨#[13]⟩, .string ⟨#[38, 35, 49, 51, 59]⟩] rfl rfl (fun j u hu => HG.out.cellAdd hu) (by intro u hu; simp at hu; rcases hu with rfl | rfl | rfl | rfl | rfl | rfl | rfl | rfl | rfl | rfl <;> rfl) (by decide) (by unfold maxLen; omega) (by omega) (Nat.le_refl _) _ rfl ?_)
  intro h cap w2 hown hgrow hat hlt
  have HOwn := Lib.hid hown; have HGr := Lib.hid hgrow; have Hat := Lib.hid hat; have Hlt := Lib.hid hlt
  clear hown hgrow hat hlt hi hz0 hz1 hz2
  go_wp2_with fail
  go_ret
  have hb : Below w.heap.size w w2 := (Below.refl _ _).grown HGr.out (Nat.le_refl _) (fun k hk => by cases hk)
  have hE := Blk.new w2 (RepCells 0 0 .nilIface (.slice (some ⟨h, 0, none⟩) 10 cap)) 90
  have hsz := hb.size
  have hh : w.heap.size ≤ h := (HOwn.out.lt h rfl).1
  have hl := Hlt.out
  have hkA : Keeps (fun _ => False) w2 (w2.alloc (.cells (RepCells 0 0 .nilIface (.slice (some ⟨h, 0, none⟩) 10 cap)).toArray 90)) := (Keeps.refl _ _).alloc _
  refine ⟨_, rfl, ⟨⟨hsz, by simp⟩, .inl ⟨h, cap, ⟨hh, by simp; omega⟩, by omega, hE, ?_⟩⟩, hb.alloc hsz _⟩
  refine Given.keep (w := w2) ?_ hkA (fun h => h)
  intro j c l hj
  have hcell : ∀ (q : Nat) (v : Value), ([Value.string ⟨#[38]⟩, .string ⟨#[38, 97, 109, 112, 59]⟩, .string ⟨#[60]⟩, .string ⟨#[38, 108, 116, 59]⟩, .string ⟨#[62]⟩, .string ⟨#[38, 103, 116, 59]⟩, .string ⟨#[34]⟩, .string ⟨#[38, 113, 117, 111, 116, 59]⟩, .string ⟨#[13]⟩, .string ⟨#[38, 35, 49, 51, 59]⟩] : List Value)[q]? = some v → w2.cell? ⟨h, q, none⟩ = some v := by
    intro q v hv
    have h2 := HOwn.out.cells (g := h) rfl q v hv
    cases q with
    | zero => exact h2
    | succ q => unfold Addr.add at h2; simpa using h2
  have hj5 := (prs_repl hj).2
  have hj' : j = 0 ∨ j = 1 ∨ j = 2 ∨ j = 3 ∨ j = 4 := by omega
  rcases hj' with rfl | rfl | rfl | rfl | rfl <;> (injection hj with hj; injection hj with h1 h2; subst h1; subst h2; exact ⟨hcell _ _ rfl, hcell _ _ rfl⟩)
end Go.Proofs.YtkjopcbleefioaaGreatDoor
