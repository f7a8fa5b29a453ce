/- examples: the walk. -/
import Derived.Test.YtkjopcbleefioaaGreatDoorH1
import Derived.Test.YtkjopcbleefioaaGreatDoorF5
import Derived.Test.YtkjopcbleefioaaGreatDoorG4
namespace Go.Proofs.YtkjopcbleefioaaGreatDoor
open Go Go.RowKit
set_option linter.unusedSimpArgs false
set_option linter.unusedVariables false

def exA : List UInt8 := [60, 97, 62, 60, 98, 62, 120, 38, 97, 109, 112, 59, 121, 60, 47, 98, 62, 60, 99, 47, 62, 60, 47, 97, 62]
def exB : List UInt8 := [60, 97, 62, 120, 60, 98, 47, 62, 60, 47, 97, 62]
def exC : List UInt8 := headL ++ [60, 97, 62, 38, 108, 116, 59, 38, 113, 117, 111, 116, 59, 60, 47, 97, 62]
def elA : El := .mk [97] [] [.mk [98] [120, 38, 121] [], .mk [99] [] []]
def elC : El := .mk [97] [60, 34] []
set_option maxRecDepth 100000 in
theorem parse_exA : parseS exA = .ok elA := by kernel_rfl
set_option maxRecDepth 100000 in
theorem parse_exB : parseS exB = .error (55, 4) := by kernel_rfl
set_option maxRecDepth 100000 in
theorem write_exC : writeS elC = (exC, 0) := by kernel_rfl
set_option maxRecDepth 100000 in
theorem text_exA : textS [98] elA = ([120, 38, 121], true) := by kernel_rfl
set_option maxRecDepth 100000 in
theorem named_exA : namedN [99] elA.kids = 1 := by kernel_rfl
set_option maxRecDepth 100000 in
theorem same_exA : (okS elA && (okS elA && El.eq elA elA)) = true := by kernel_rfl
theorem size_exA : El.size elA ≤ 16777216 := by decide
theorem size_exC : El.size elC ≤ 2097152 := by decide
theorem leaf_exA : ∀ k ∈ elA.kids, k.name = [99] → k.kids = [] := by
  intro k hk _
  rcases List.mem_cons.1 hk with rfl | hk
  · rfl
  · rcases List.mem_cons.1 hk with rfl | hk
    · rfl
    · cases hk
/-- What examples keeps while it goes. -/
structure Ex (w0 w : World) (L : Nat) (A : Option Addr) (cap : Nat) : Prop where
  low : Below w0.heap.size w0 w
  glob : Glob w
  three : 3 < w.heap.size
  blk : Blk w L [.string ⟨#[97]⟩, .string ⟨#[]⟩, .slice A 2 cap] 24
  el : ElR w (· < w.heap.size) elA [.string ⟨#[97]⟩, .string ⟨#[]⟩, .slice A 2 cap]
theorem Ex.step {w0 w w' : World} {L : Nat} {A : Option Addr} {cap : Nat} (h : Ex w0 w L A cap) (b : Below w.heap.size w w') : Ex w0 w' L A cap where
  low := h.low.trans (b.mono h.low.size)
  glob := h.glob.keep (Keeps.fresh (D := fun _ => False) b) (fun _ _ h => h)
  three := Nat.lt_of_lt_of_le h.three b.size
  blk := (Keeps.fresh (D := fun _ => False) b).blk h.blk (fun h => h)
  el := h.el.mono (fun k hk => ⟨b.block k hk, Nat.lt_of_lt_of_le hk b.size⟩) _ _
theorem Ex.alloc {w0 w : World} {L : Nat} {A : Option Addr} {cap : Nat} (h : Ex w0 w L A cap) (o : Obj) : Ex w0 (w.alloc o) L A cap := h.step ((Below.refl _ _).alloc (Nat.le_refl _) o)

set_option maxHeartbeats 16000000 in
set_option maxRecDepth 100000 in
theorem examples_any (w : World) (hg : Glob w) (h3 : 3 < w.heap.size) : Calls Tryz.prog 7 #[] w fun e w' => e = .returned (.bool true) ∧ Below w.heap.size w w' := by
  have hA : Calls Tryz.prog 9 #[.string ⟨#[60, 97, 62, 60, 98, 62, 120, 38, 97, 109, 112, 59, 121, 60, 47, 98, 62, 60, 99, 47, 62, 60, 47, 97, 62]⟩] w fun e w' => ∃ A cap, e = .returned (.tuple #[.agg #[.string ⟨#[97]⟩, .string ⟨#[]⟩, .slice A 2 cap], .nilIface]) ∧ ElR w' (· < w'.heap.size) elA [.string ⟨#[97]⟩, .string ⟨#[]⟩, .slice A 2 cap] ∧ Below w.heap.size w w' := parse_ok ⟨#[60, 97, 62, 60, 98, 62, 120, 38, 97, 109, 112, 59, 121, 60, 47, 98, 62, 60, 99, 47, 62, 60, 47, 97, 62]⟩ elA w hg h3 (by decide) parse_exA
  have HA := Lib.hid hA; have HG := Lib.hid hg; have H3 := Lib.hid h3
  clear hA hg h3
  go_enter Tryz.func7, Tryz.ntmps7
  go_wp2_with fail
  refine HA.out.mono ?_
  rintro en w1 ⟨A, cap, rfl, hel, hb1⟩
  have hx : Ex w (w1.alloc (.cells #[.string ⟨#[97]⟩, .string ⟨#[]⟩, .slice A 2 cap] 24)) w1.heap.size A cap := {
    low := hb1.alloc hb1.size _
    glob := HG.out.keep ((Keeps.fresh (D := fun _ => False) hb1).alloc _) (fun _ _ h => h)
    three := by have := hb1.size; have := H3.out; simp; omega
    blk := Blk.new w1 _ _
    el := hel.mono (fun k hk => ⟨Below.heap_alloc w1 _ k hk, by have : k < w1.heap.size := hk; simp; omega⟩) _ _ }
  have HX1 := Lib.hid hx
  have hB := parse_err ⟨#[60, 97, 62, 120, 60, 98, 47, 62, 60, 47, 97, 62]⟩ 55 4 (w1.alloc (.cells #[.string ⟨#[97]⟩, .string ⟨#[]⟩, .slice A 2 cap] 24)) hx.glob hx.three (by decide) parse_exB
  have HB := Lib.hid hB
  clear hx hB hel hb1 HA HG H3
  go_wp2_with fail
  refine HB.out.mono ?_
  rintro en w2 ⟨N, rfl, hbN, hb2⟩
  have HX2 := Lib.hid ((HX1.out.step hb2).alloc (.cells #[.string ⟨#[]⟩, .string ⟨#[]⟩, .slice none 0 0] 24))
  have ht := told_err (w2.alloc (.cells #[.string ⟨#[]⟩, .string ⟨#[]⟩, .slice none 0 0] 24)) N 55 4 (hbN.alloc _) (by decide)
  have HT := Lib.hid ht
  clear HB HX1 hbN hb2 ht
  go_wp2_with fail
  refine HT.out.mono ?_
  rintro en w3 ⟨rfl, hb3⟩
  have hx3 := HX2.out.step hb3
  have HX3 := Lib.hid hx3
  have hw := writeTop_any 0 elC (.string ⟨#[97]⟩) (.string ⟨#[60, 34]⟩) (.slice none 0 0) w3 (by unfold elC; rw [ElR]; exact ⟨none, 0, rfl, Nat.le_refl _, by rw [ElsR]; trivial⟩) size_exC (Nat.zero_le _) hx3.three hx3.glob
  rw [write_exC] at hw
  replace hw : Calls Tryz.prog 8 #[.agg #[.string ⟨#[97]⟩, .string ⟨#[60, 34]⟩, .slice none 0 0]] w3 fun en w' => en = .returned (.tuple #[.string ⟨#[60, 63, 120, 109, 108, 32, 118, 101, 114, 115, 105, 111, 110, 61, 34, 49, 46, 48, 34, 32, 101, 110, 99, 111, 100, 105, 110, 103, 61, 34, 85, 84, 70, 45, 56, 34, 63, 62, 10, 60, 97, 62, 38, 108, 116, 59, 38, 113, 117, 111, 116, 59, 60, 47, 97, 62]⟩, .int .i64 0]) ∧ Below w3.heap.size w3 w' := hw
  have HW := Lib.hid hw
  clear HX2 HT hb3 hx3 hw
  go_wp2_with fail
  refine HW.out.mono ?_
  rintro en w4 ⟨rfl, hb4⟩
  have hx4 := HX3.out.step hb4
  have HX4 := Lib.hid hx4
  have ht := text_any w4.heap.size elA [98] _ _ _ w4 hx4.el size_exA (Nat.le_refl _)
  rw [text_exA] at ht
  replace ht : Calls Tryz.prog 18 #[.agg #[.string ⟨#[97]⟩, .string ⟨#[]⟩, .slice A 2 cap], .string ⟨#[98]⟩] w4 fun e' w' => e' = .returned (.tuple #[.string ⟨#[120, 38, 121]⟩, .bool true]) ∧ Below w4.heap.size w4 w' := ht
  have HT := Lib.hid ht
  have c0 : w4.cell? ⟨w1.heap.size, 0, none⟩ = some (.string ⟨#[97]⟩) := hx4.blk.cell 0
  have c1 : w4.cell? ⟨w1.heap.size, 1, none⟩ = some (.string ⟨#[]⟩) := hx4.blk.cell 1
  have c2 : w4.cell? ⟨w1.heap.size, 2, none⟩ = some (.slice A 2 cap) := hx4.blk.cell 2
  clear HX3 HW hb4 hx4 ht
  go_wp2_with fail
  refine HT.out.mono ?_
  rintro en w5 ⟨rfl, hb5⟩
  have hx5 := HX4.out.step hb5
  have HX5 := Lib.hid hx5
  have d0 : w5.cell? ⟨w1.heap.size, 0, none⟩ = some (.string ⟨#[97]⟩) := hx5.blk.cell 0
  have d1 : w5.cell? ⟨w1.heap.size, 1, none⟩ = some (.string ⟨#[]⟩) := hx5.blk.cell 1
  have d2 : w5.cell? ⟨w1.heap.size, 2, none⟩ = some (.slice A 2 cap) := hx5.blk.cell 2
  obtain ⟨A', cap', hcs, _, hks⟩ := hx5.el.form
  injection hcs with hz hcs
  clear hz
  injection hcs with hz hcs
  clear hz
  injection hcs with hcs _
  injection hcs with hcs hlen hcs2
  clear hlen
  subst hcs; subst hcs2
  obtain ⟨kb, koff, f0, f1, f2, hkA, _, g0, g1, g2, gkR⟩ := hks.at (j := 0) (k := .mk [98] [120, 38, 121] []) rfl
  subst hkA
  have hf := find0_any w5.heap.size elA [99] _ _ _ w5 hx5.el size_exA (Nat.le_refl _) leaf_exA
  rw [named_exA] at hf
  replace hf : Calls Tryz.prog 16 #[.agg #[.string ⟨#[97]⟩, .string ⟨#[]⟩, .slice (some ⟨kb, koff, none⟩) 2 cap], .string ⟨#[99]⟩] w5 fun e' w' => ∃ V c', e' = .returned (.slice V 1 c') ∧ Below w5.heap.size w5 w' := hf
  have HF := Lib.hid hf
  obtain ⟨A2, cap2, hcs, _, _⟩ := gkR.form
  injection hcs with p0 hcs
  injection hcs with p1 hcs
  injection hcs with p2 _
  subst p0; subst p1; subst p2
  rw [show koff + 0 * 3 + 1 = koff + 1 by omega] at g1
  have g1' : w5.cell? ⟨kb, koff + 1, none⟩ = some (.string ⟨#[120, 38, 121]⟩) := g1
  clear HX4 HT hb5 hx5 hks g0 g1 g2 gkR hf c0 c1 c2
  go_wp2_with fail
  refine HF.out.mono ?_
  rintro en w6 ⟨V, c', rfl, hb6⟩
  have hx6 := HX5.out.step hb6
  have HX6 := Lib.hid hx6
  have e0 : w6.cell? ⟨w1.heap.size, 0, none⟩ = some (.string ⟨#[97]⟩) := hx6.blk.cell 0
  have e1 : w6.cell? ⟨w1.heap.size, 1, none⟩ = some (.string ⟨#[]⟩) := hx6.blk.cell 1
  have e2 : w6.cell? ⟨w1.heap.size, 2, none⟩ = some (.slice (some ⟨kb, koff, none⟩) 2 cap) := hx6.blk.cell 2
  have hs := sameTop_any w6.heap.size elA elA _ _ _ _ _ _ w6 hx6.el hx6.el size_exA size_exA (Nat.le_refl _) hx6.three hx6.glob
  rw [same_exA] at hs
  have HS := Lib.hid hs
  clear HX5 HF hb6 hx6 hs d0 d1 d2 g1'
  go_wp2_with fail
  refine HS.out.mono ?_
  rintro en w7 ⟨rfl, hb7⟩
  have HX7 := Lib.hid (HX6.out.step hb7)
  clear HX6 HS hb7 e0 e1 e2
  go_wp2_with fail
  go_ret
  exact ⟨rfl, HX7.out.low⟩
end Go.Proofs.YtkjopcbleefioaaGreatDoor
