/- blanks: contract. -/
import Derived.Test.YtkjopcbleefioaaGreatDoorA1
import Derived.Test.YtkjopcbleefioaaGreatDoorShelf
namespace Go.Proofs.YtkjopcbleefioaaGreatDoor
open Go Go.RowKit
set_option linter.unusedSimpArgs false
set_option linter.unusedVariables false

theorem ib (l : List UInt8) (c : UInt8) : (0 ≤ Lib.indexByte l c) ↔ c ∈ l := by
  induction l with
  | nil => simp [Lib.indexByte]
  | cons b l ih =>
    have := Lib.indexByte_ge l c
    unfold Lib.indexByte
    by_cases h : b = c
    · simp [h]
    · rw [if_neg (by simpa using h)]
      split
      · rename_i h2; simp at h2; simp [Ne.symm h]; intro hc; have := ih.2 hc; omega
      · rename_i h2; simp at h2; simp [Ne.symm h]; rw [← ih]; omega

/-- strings.IndexByte over a constant set: is a byte in it? -/
def ixB (l : List UInt8) (c : Nat) : Int := Lib.indexByte l c.toUInt8
theorem indexByte_any (s : ByteArray) (c : Nat) (w : World) :
    Calls Tryz.prog 28 #[.string s, .int .u8 c] w fun e w' => e = .returned (.int .i64 (ixB (bs s) c)) ∧ w = w' :=
  (Tryz.strings_IndexByte s c w).mono fun _ _ ⟨h, hw⟩ => ⟨h, hw.symm⟩

def isBlank (b : UInt8) : Bool := b == 32 || b == 9 || b == 10 || b == 13
theorem ix_blank (b : UInt8) : decide (0 ≤ ixB [32, 9, 10, 13] b.toNat) = isBlank b := by
  unfold ixB isBlank
  have : b.toNat.toUInt8 = b := by simp
  rw [this, Bool.eq_iff_iff]
  simp only [decide_eq_true_eq, ib]
  simp [or_assoc]
theorem ix_blank' (b : UInt8) : decide (0 ≤ ixB (bs ⟨#[32, 9, 10, 13]⟩) b.toNat) = isBlank b := ix_blank b
  
def blanksN (l : List UInt8) : Nat := (l.takeWhile isBlank).length
theorem blanksN_cons (b : UInt8) (l : List UInt8) : blanksN (b :: l) = if isBlank b then blanksN l + 1 else 0 := by
  unfold blanksN
  rw [List.takeWhile_cons]; split <;> simp [*]
theorem blanksN_le (l : List UInt8) : blanksN l ≤ l.length := by
  induction l with
  | nil => exact Nat.le_refl _
  | cons b l ih => rw [blanksN_cons]; split <;> simp <;> omega
def blanksS (s : List UInt8) (st : St) : St := { st with at_ := st.at_ + blanksN (s.drop st.at_) }

theorem blanks_any (r : Nat) (s : ByteArray) (st : St) (pile : Value) (w : World) (hR : Rd w r s st pile) (hs : s.size ≤ 100000) :
    Calls Tryz.prog 25 #[.pointer (some ⟨r, 0, none⟩)] w fun e w' => e = .returned (.int .i64 (blanksN ((bs s).drop st.at_))) ∧ Rd w' r s (blanksS (bs s) st) pile ∧ Keeps (· = r) w w' := by
  have HR := Lib.hid hR
  obtain ⟨bad, hB, hbad, hat⟩ := hR
  obtain ⟨k, o⟩ := st
  dsimp only at hB hbad hat
  have c1 : w.cell? ⟨r, 1, none⟩ = some (.int .i64 k) := hB.cell 1
  clear hB hbad
  go_enter Tryz.func25, Tryz.ntmps25
  go_wp2
  clear c1
  go_loopg [] (s.size - k) (fun g wr => ∃ (j : Nat), k + j + g = s.size ∧ Hid (Rd wr r s ⟨k + j, o⟩ pile) ∧ Hid (Keeps (· = r) w wr) ∧ Hid (blanksN ((bs s).drop (k + j)) + j = blanksN ((bs s).drop k)))
  case atStart => exact ⟨0, by omega, HR.out, Keeps.refl _ _, rfl⟩
  case round =>
    clear HR
    obtain ⟨j, hg, hR, HK, HE⟩ := hrel
    obtain ⟨bad, hB, hbad, hat'⟩ := hR.out
    clear hR
    dsimp only at hB hbad hat'
    have hl := hB.lt
    have f1 := hB.free 1
    have c0 : wr.cell? ⟨r, 0, none⟩ = some (.string s) := hB.cell 0
    have c1 : wr.cell? ⟨r, 1, none⟩ = some (.int .i64 ((k + j : Nat) : Int)) := hB.cell 1
    obtain ⟨m, hm⟩ : ∃ m, k + j = m := ⟨_, rfl⟩
    rw [hm] at hB c1 HE hat'
    have HB := Lib.hid hB
    have HBad := Lib.hid hbad
    clear hB hbad
    have hmk : k ≤ m := by omega
    by_cases hk : m < s.size
    · have HG := Lib.hid (drop_get (bs_get s m hk))
      have hk' : (m : Int) < (s.size : Int) := by omega
      have hk2 : decide (m < s.size) = true := decide_eq_true hk
      cases hb : isBlank s[m] with
      | true =>
        have hi := ix_blank' s[m]
        rw [hb] at hi
        have Hm := Lib.hid hm
        have Hb := Lib.hid hb
        have Hg := Lib.hid hg
        clear hm hb hg
        go_wp2
        go_quiet ((go_at_call 28; exact quietE (indexByte_any _ _ _)))
        go_wp2
        have hg := Hg.out
        have hm := Hm.out
        go_roundg (gk - 1)
        case measure => omega
        case rel =>
          refine ⟨j + 1, by omega, ⟨bad, ?_, ?_, ?_⟩, (HK.out.drewN _).set1 _ _, ?_⟩
          · have := (HB.out.drewN nq).set 1 (.int .i64 ((k + (j + 1) : Nat) : Int))
            rw [show ((m : Int) + 1) = ((k + (j + 1) : Nat) : Int) by omega]
            exact this
          · exact HBad.out.keeps ((Keeps.refl (· = r) _).drewN _ |>.set1 _ _) (fun b cs hb => fun e => hb.ne HB.out (by decide) e)
          · show k + (j + 1) ≤ s.size; omega
          · rw [show k + (j + 1) = m + 1 by omega]
            have := HE.out
            rw [HG.out, blanksN_cons, Hb.out, if_pos rfl] at this
            show _ = _
            omega
      | false =>
        have hi := ix_blank' s[m]
        rw [hb] at hi
        have Hm := Lib.hid hm
        have Hb := Lib.hid hb
        have Hg := Lib.hid hg
        clear hm hb hg
        go_wp2
        go_quiet ((go_at_call 28; exact quietE (indexByte_any _ _ _)))
        go_wp2
        go_ret
        have he := HE.out
        have hm := Hm.out
        rw [HG.out, blanksN_cons, Hb.out, if_neg (by simp)] at he
        refine ⟨ret_int (by omega), ⟨bad, ?_, ?_, ?_⟩, HK.out.drewN _⟩
        · show Blk _ _ [_, .int .i64 ((k + blanksN ((bs s).drop k) : Nat) : Int), _, _] _
          rw [← he, show k + (0 + j) = m by omega]
          exact HB.out.drewN _
        · exact HBad.out.keeps ((Keeps.refl (· = r) _).drewN _) (fun b cs hb => fun e => hb.ne HB.out (by decide) e)
        · show k + blanksN ((bs s).drop k) ≤ s.size; omega
    · have hk2 : decide (m < s.size) = false := decide_eq_false hk
      have Hm := Lib.hid hm
      have Hg := Lib.hid hg
      clear hm hg
      go_wp2
      go_quiet (fail)
      go_wp2
      go_ret
      have he := HE.out
      have hm := Hm.out
      rw [List.drop_eq_nil_of_le (by rw [bs_length]; omega)] at he
      have he : 0 + j = _ := he
      refine ⟨ret_int (by omega), ⟨bad, ?_, ?_, ?_⟩, HK.out.drewN _⟩
      · show Blk _ _ [_, .int .i64 ((k + blanksN ((bs s).drop k) : Nat) : Int), _, _] _
        rw [← he, show k + (0 + j) = m by omega]
        exact HB.out.drewN _
      · exact HBad.out.keeps ((Keeps.refl (· = r) _).drewN _) (fun b cs hb => fun e => hb.ne HB.out (by decide) e)
      · show k + blanksN ((bs s).drop k) ≤ s.size; omega
end Go.Proofs.YtkjopcbleefioaaGreatDoor
