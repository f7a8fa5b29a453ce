/- strings.IndexAny over two ASCII bytes, in any text. -/
import Derived.Test.YtkjopcbleefioaaGreatDoorA5
import Derived.Lib.OthersKept
import Derived.Lib.IndexAny
import Derived.Outline
namespace Go.Proofs.YtkjopcbleefioaaGreatDoor
open Go Go.RowKit
set_option linter.unusedSimpArgs false
set_option linter.unusedVariables false

theorem get_bang (s : ByteArray) (i : Nat) (h : i < s.size) : s.get! i = s[i] := by
  show s.data[i]! = s.data[i]
  exact getElem!_pos s.data i h

theorem decode_spans (s : ByteArray) (i : Nat) (hi : i < s.size) (h : 128 ≤ s[i].toNat) :
    i + (Utf8.decode s i).2 ≤ s.size ∧ ∀ j, i ≤ j → j < i + (Utf8.decode s i).2 → ∀ b, (bs s)[j]? = some b → 128 ≤ b.toNat := by
  have g0 : s.get! (i + 0) = s[i] := get_bang s i hi
  have cont : ∀ k, (decide (i + k < s.size) && (s.get! (i + k)).toNat / 64 == 2) = true → i + k < s.size ∧ ∀ b, (bs s)[i + k]? = some b → 128 ≤ b.toNat := by
    intro k hk
    simp only [Bool.and_eq_true, decide_eq_true_eq, beq_iff_eq] at hk
    refine ⟨hk.1, fun b hb => ?_⟩
    rw [bs_get s _ hk.1] at hb
    injection hb with hb
    have : s.get! (i + k) = s[i + k] := get_bang s (i + k) hk.1
    rw [this, hb] at hk
    omega
  have zero : ∀ b, (bs s)[i]? = some b → 128 ≤ b.toNat := by
    intro b hb; rw [bs_get s i hi] at hb; injection hb with hb; rw [← hb]; exact h
  have one : i + 1 ≤ s.size ∧ ∀ j, i ≤ j → j < i + 1 → ∀ b, (bs s)[j]? = some b → 128 ≤ b.toNat :=
    ⟨hi, fun j h1 h2 b hb => by
      obtain rfl : j = i := by omega
      exact zero b hb⟩
  unfold Utf8.decode
  simp only [g0]
  rw [if_neg (by omega)]
  split
  · rename_i c
    have c := Bool.and_eq_true_iff.1 c
    obtain ⟨c1, d1⟩ := cont 1 c.2
    split
    · refine ⟨c1, fun j h1 h2 b hb => ?_⟩
      dsimp only at h2
      rcases (by omega : j = i ∨ j = i + 1) with rfl | rfl
      · exact zero b hb
      · exact d1 b hb
    · exact one
  · split
    · rename_i c
      have c := Bool.and_eq_true_iff.1 c
      have c' := Bool.and_eq_true_iff.1 c.1
      obtain ⟨c1, d1⟩ := cont 1 c'.2
      obtain ⟨c2, d2⟩ := cont 2 c.2
      split
      · refine ⟨c2, fun j h1 h2 b hb => ?_⟩
        dsimp only at h2
        rcases (by omega : j = i ∨ j = i + 1 ∨ j = i + 2) with rfl | rfl | rfl
        · exact zero b hb
        · exact d1 b hb
        · exact d2 b hb
      · exact one
    · split
      · rename_i c
        have c := Bool.and_eq_true_iff.1 c
        have c' := Bool.and_eq_true_iff.1 c.1
        have c'' := Bool.and_eq_true_iff.1 c'.1
        obtain ⟨c1, d1⟩ := cont 1 c''.2
        obtain ⟨c2, d2⟩ := cont 2 c'.2
        obtain ⟨c3, d3⟩ := cont 3 c.2
        split
        · refine ⟨c3, fun j h1 h2 b hb => ?_⟩
          dsimp only at h2
          rcases (by omega : j = i ∨ j = i + 1 ∨ j = i + 2 ∨ j = i + 3) with rfl | rfl | rfl | rfl
          · exact zero b hb
          · exact d1 b hb
          · exact d2 b hb
          · exact d3 b hb
        · exact one
      · exact one

theorem indexRune_ascii' (s : ByteArray) (n : Nat) (w : World) (h : n < 128) :
    Calls Tryz.prog 92 #[.string s, .int .i32 n] w fun e w' => e = .returned (.int .i64 (ixB (bs s) n)) ∧ w = w' :=
  (Tryz.strings_IndexRune_ascii s n w (by omega) (by omega)).mono fun _ _ ⟨h, hw⟩ => ⟨h, hw.symm⟩

theorem NoAny.span {s chars : List UInt8} {i n : Nat} (h : Lib.NoAny s chars i) (hn : ∀ j, i ≤ j → j < i + n → ∀ b, s[j]? = some b → chars.contains b = false) : Lib.NoAny s chars (i + n) := fun j b hj hb => by
  rcases Nat.lt_or_ge j i with hlt | hge
  · exact h j b hlt hb
  · exact hn j hge hj b hb

set_option maxRecDepth 1000000 in
set_option maxHeartbeats 8000000 in
theorem indexAny_short (s chars : ByteArray) (w : World) (h2 : chars.size = 2) (ha : chars[0].toNat < 128) (hb : chars[1].toNat < 128) (h8 : s.size ≤ 8) :
    Calls Tryz.prog 74 #[.string s, .string chars] w fun e w' => e = .returned (.int .i64 (Lib.indexAny (bs s) (bs chars))) ∧ Below w.heap.size w w' := by
  have hasc : ∀ b : UInt8, 128 ≤ b.toNat → (bs chars).contains b = false := by
    intro b hb'
    rw [Bool.eq_false_iff]
    intro hc
    rw [List.contains_iff_mem, List.mem_iff_getElem?] at hc
    obtain ⟨j, hj⟩ := hc
    have hlt : j < chars.size := by
      rw [← bs_length]; exact (List.getElem?_eq_some_iff.1 hj).1
    rw [bs_get _ _ hlt] at hj
    injection hj with hj
    rcases (by omega : j = 0 ∨ j = 1) with rfl | rfl
    · rw [hj] at ha; omega
    · rw [hj] at hb; omega
  have HA := Lib.hid hasc
  have hemp : chars.toList.isEmpty = false := by
    rw [Lib.toList_data]
    cases h : chars.data.toList with
    | nil => have := Lib.size_eq chars; rw [h, List.length_nil] at this; omega
    | cons _ _ => rfl
  have hn1 : ((chars.size : Int) == 1) = false := beq_eq_false_iff_ne.2 (by omega)
  have h8z : decide ((8 : Int) < (s.size : Int)) = false := decide_eq_false (by omega)
  clear hasc
  go_enter Tryz.func74, Tryz.ntmps74
  go_wp2
  go_loopg [9, 10] (s.size + 1) (fun g _ _ wx => ∃ i : Nat, i ≤ s.size ∧ s.size < i + g ∧ Hid (wx.heap[w.heap.size]? = some (.stringIter s i)) ∧ Hid (Below w.heap.size w wx) ∧ Hid (Lib.NoAny (bs s) (bs chars) i))
  case atStart => exact ⟨0, by omega, by omega, World.iter_heap w s 0, (Below.refl _ _).alloc (Nat.le_refl _) _, Lib.NoAny.zero _ _⟩
  case round =>
    obtain ⟨i, hi, hig, HI, HB, HN⟩ := hrel
    by_cases hlt : i < s.size
    · have HX := Lib.hid (bs_get s i hlt)
      by_cases hx : s[i].toNat < 128
      · have hnx := fun ty => Lib.run_next_ascii_at (P := Tryz.prog) wr w.heap.size s i ty HI.out hlt hx
        have hsz : wr.heap.size = (wr.iterAt w.heap.size s (i + 1)).heap.size := (Lib.iterAt_size _ _ _ _).symm
        have HI2 := Lib.hid (Lib.iterAt_heap wr w.heap.size s i (i + 1) HI.out)
        have HB2 := Lib.hid (Lib.below_iterAt HB.out (Nat.le_refl _) s (i + 1))
        generalize hw1 : wr.iterAt w.heap.size s (i + 1) = w1 at *
        have Hw1 := Lib.hid hw1; have Hsz := Lib.hid hsz; clear hw1 hsz
        cases hin : (bs chars).contains s[i] with
        | true =>
          have hcon := Lib.contains_iff_indexByte (bs chars) s[i]
          rw [hin] at hcon
          have hge : (0 : Int) ≤ Lib.indexByte (bs chars) s[i] := of_decide_eq_true hcon.symm
          have hge : (0 : Int) ≤ ixB (bs chars) s[i].toNat := by unfold ixB; simpa using hge
          have Hin := Lib.hid hin
          clear hcon hin
          go_wp2_with (go_at_call 92; refine (indexRune_ascii' _ _ _ hx).mono ?_; rintro e w' ⟨rfl, rfl⟩)
          go_ret
          refine ⟨ret_int ?_, HB2.out⟩
          rw [Lib.indexAny_hit HN.out HX.out Hin.out]
        | false =>
          have hcon := Lib.contains_iff_indexByte (bs chars) s[i]
          rw [hin] at hcon
          have hge : ¬ (0 : Int) ≤ Lib.indexByte (bs chars) s[i] := of_decide_eq_false hcon.symm
          have hge : ¬ (0 : Int) ≤ ixB (bs chars) s[i].toNat := by unfold ixB; simpa using hge
          have Hin := Lib.hid hin
          clear hcon hin
          go_wp2_with (go_at_call 92; refine (indexRune_ascii' _ _ _ hx).mono ?_; rintro e w' ⟨rfl, rfl⟩)
          go_roundg (gk - 1)
          case measure => omega
          case rel => exact ⟨i + 1, by omega, by omega, HI2.out, HB2.out, HN.out.succ HX.out Hin.out⟩
      · have hsp := decode_spans s i hlt (by omega)
        have hdh := decode_high s i hlt (by omega)
        have hnx := fun ty => Lib.run_next_any_at (P := Tryz.prog) wr w.heap.size s i ty HI.out hlt
        generalize hd : Utf8.decode s i = d at *
        have HI2 := Lib.hid (Lib.iterAt_heap wr w.heap.size s i (i + d.2) HI.out)
        have HB2 := Lib.hid (Lib.below_iterAt HB.out (Nat.le_refl _) s (i + d.2))
        generalize hw1 : wr.iterAt w.heap.size s (i + d.2) = w1 at *
        have hszz : w.heap.size < w1.heap.size := by
          have := HI2.out
          exact (Array.getElem?_eq_some_iff.1 this).1
        have Hsp := Lib.hid hsp
        obtain ⟨d1, d2⟩ := d
        have h1 : 128 ≤ d1 := hdh.1
        have h2' : 1 ≤ d2 := hdh.2
        clear hw1 hd hsp hdh
        go_wp2_with (go_at_call 92; refine (indexRune_high _ _ (by omega) ha hb (by omega) _).mono ?_; rintro e w2 ⟨rfl, hb2⟩)
        have hbl := Hsp.out
        go_roundg (gk - 1)
        case measure => omega
        case rel =>
          refine ⟨i + d2, hbl.1, by omega, ?_, ?_, ?_⟩
          · exact (hb2.block _ hszz).trans HI2.out
          · exact HB2.out.trans (hb2.mono (by omega))
          · exact NoAny.span HN.out (fun j h1 h2 b hb => HA.out b (hbl.2 j h1 h2 b hb))
    · have hnx := fun ty => Lib.run_next_end_at (P := Tryz.prog) wr w.heap.size s i ty HI.out hlt
      go_wp2
      go_ret
      refine ⟨ret_int ?_, HB.out⟩
      have : i = (bs s).length := by rw [bs_length]; omega
      rw [Lib.indexAny_none (by rw [← this]; exact HN.out)]

theorem zero155 (w : World) : (zeroValue 155).run Tryz.prog w = .ok (.agg (Array.replicate 256 (.bool false))) w := by kernel_rfl

/-- strings.IndexAny of two ASCII bytes, in any text. -/
theorem indexAny_any (s chars : ByteArray) (w : World) (h2 : chars.size = 2) (ha : chars[0].toNat < 128) (hb : chars[1].toNat < 128) (hs : s.size ≤ 100000) :
    Calls Tryz.prog 74 #[.string s, .string chars] w fun e w' => e = .returned (.int .i64 (Lib.indexAny (bs s) (bs chars))) ∧ Below w.heap.size w w' := by
  by_cases h8 : s.size ≤ 8
  · exact indexAny_short s chars w h2 ha hb h8
  · refine (Tryz.strings_IndexAny_long zero155 s chars w (by omega) (by omega) (by omega) (by omega) ?_).mono ?_
    · intro j b hj
      have hlt : j < chars.size := by rw [← bs_length]; exact (List.getElem?_eq_some_iff.1 hj).1
      have hj' : (bs chars)[j]? = some b := hj
      rw [bs_get _ _ hlt] at hj'
      injection hj' with hj'
      rcases (by omega : j = 0 ∨ j = 1) with rfl | rfl
      · rw [← hj']; exact ha
      · rw [← hj']; exact hb
    · rintro e w' ⟨rfl, rfl⟩
      exact ⟨rfl, ((Below.refl _ _).alloc (Nat.le_refl _) _).alloc (by simp) _⟩
end Go.Proofs.YtkjopcbleefioaaGreatDoor
