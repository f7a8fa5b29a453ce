/- name: contract. -/
import Derived.Test.YtkjopcbleefioaaGreatDoorA3
namespace Go.Proofs.YtkjopcbleefioaaGreatDoor
open Go Go.RowKit
set_option linter.unusedSimpArgs false
set_option linter.unusedVariables false

theorem Rd.keep {w w' : World} {r : Nat} {s : ByteArray} {st : St} {pile : Value} (h : Rd w r s st pile) {D : Nat → Prop} (k : Keeps D w w') (hr : ¬ D r) (hD : ∀ b cs, Blk w b cs 67 → ¬ D b) : Rd w' r s st pile := by
  obtain ⟨bad, hB, hbad, hat⟩ := h
  exact ⟨bad, k.blk hB hr, hbad.keeps k hD, hat⟩
theorem Rd.drewN {w : World} {r : Nat} {s : ByteArray} {st : St} {pile : Value} (h : Rd w r s st pile) (n : Nat) : Rd (w.drewN n) r s st pile :=
  h.keep (D := fun _ => False) ((Keeps.refl _ _).drewN n) (fun h => h) (fun _ _ _ h => h)
/-- A step on. -/
theorem Rd.step {w : World} {r : Nat} {s : ByteArray} {k : Nat} {o : Option (Int × Int)} {pile : Value} (h : Rd w r s ⟨k, o⟩ pile) (m : Nat) (hm : m ≤ s.size) {v : Value} (hv : v = .int .i64 m) : Rd (w.setCell ⟨r, 1, none⟩ v) r s ⟨m, o⟩ pile := by
  subst hv
  obtain ⟨bad, hB, hbad, hat⟩ := h
  exact ⟨bad, hB.set 1 _, hbad.keeps ((Keeps.refl (· = r) _).set1 _ _) (fun b cs hb => fun e => hb.ne hB (by decide) e), hm⟩

theorem more_is {b : Int} {v : Bool} (h : moreB b = v) (w : World) : Calls Tryz.prog 52 #[.int .u8 b] w fun e w' => e = .returned (.bool v) ∧ w = w' := h ▸ more_any b w
theorem first_is {b : Int} {v : Bool} (h : firstB b = v) (w : World) : Calls Tryz.prog 49 #[.int .u8 b] w fun e w' => e = .returned (.bool v) ∧ w = w' := h ▸ first_any b w

def nameOk (also : List UInt8) (b : UInt8) : Bool := moreB b.toNat || decide (0 ≤ ixB also b.toNat)
def nameN (also l : List UInt8) : Nat := (l.takeWhile (nameOk also)).length
theorem nameN_nil (also : List UInt8) : nameN also [] = 0 := rfl
theorem nameN_cons (also : List UInt8) (b : UInt8) (l : List UInt8) : nameN also (b :: l) = if nameOk also b then nameN also l + 1 else 0 := by
  unfold nameN
  rw [List.takeWhile_cons]; split <;> simp [*]
theorem nameN_le (also l : List UInt8) : nameN also l ≤ l.length := by
  induction l with
  | nil => exact Nat.le_refl _
  | cons b l ih => rw [nameN_cons]; split <;> simp <;> omega

/-- name: the state behind it, and the name. -/
def nameS (also s : List UInt8) (st : St) : St × List UInt8 :=
  match s[st.at_]? with
  | none => (failS 55 st.at_ st, [])
  | some c =>
    if firstB c.toNat then
      (if nameN also (s.drop st.at_) ≤ 100 then ({ st with at_ := st.at_ + nameN also (s.drop st.at_) }, (s.drop st.at_).take (nameN also (s.drop st.at_)))
       else (failS 55 (st.at_ + 100 : Nat) { st with at_ := st.at_ + 100 }, []))
    else (failS 55 st.at_ st, [])

set_option maxHeartbeats 8000000 in
theorem name_any (r : Nat) (s also : ByteArray) (st : St) (pile : Value) (w : World) (hR : Rd w r s st pile) (hs : s.size ≤ 100000) :
    Calls Tryz.prog 58 #[.pointer (some ⟨r, 0, none⟩), .string also] w fun e w' => e = .returned (.string (sb (nameS (bs also) (bs s) st).2)) ∧ Rd w' r s (nameS (bs also) (bs s) st).1 pile ∧ Keeps (· = r) w w' := by
  have HR := Lib.hid hR
  obtain ⟨bad, hB, hbad, hat⟩ := hR
  obtain ⟨k, o⟩ := st
  dsimp only at hB hbad hat
  have c0 : w.cell? ⟨r, 0, none⟩ = some (.string s) := hB.cell 0
  have c1 : w.cell? ⟨r, 1, none⟩ = some (.int .i64 k) := hB.cell 1
  clear hB hbad
  by_cases hk : k < s.size
  · have hg0 := bs_get s k hk
    have hk' : (k : Int) < (s.size : Int) := by omega
    have hk2 : decide (s.size ≤ k) = false := decide_eq_false (by omega)
    cases hf : firstB s[k].toNat with
    | false =>
      have HN : Hid (nameS (bs also) (bs s) ⟨k, o⟩ = (failS 55 k ⟨k, o⟩, [])) := by
        show _ = _
        simp only [nameS, hg0]
        simp [hf]
      clear hg0
      go_enter Tryz.func58, Tryz.ntmps58
      go_wp2
      go_quiet ((go_at_call 49; exact quietE (first_is hf _)))
      go_wp2_with (go_at_call 30; refine (fail_any r s ⟨k, o⟩ pile _ _ _ (HR.out.drewN _)).mono ?_; rintro e w1 ⟨rfl, hr1, hk1⟩)
      go_ret
      rw [HN.out]
      exact ⟨rfl, hr1, ((Keeps.refl _ _).drewN _).trans hk1⟩
    | true =>
      have HN : Hid (nameS (bs also) (bs s) ⟨k, o⟩ = if nameN (bs also) ((bs s).drop k) ≤ 100 then (⟨k + nameN (bs also) ((bs s).drop k), o⟩, ((bs s).drop k).take (nameN (bs also) ((bs s).drop k))) else (failS 55 (k + 100 : Nat) ⟨k + 100, o⟩, [])) := by
        show _ = _
        simp only [nameS, hg0]
        simp [hf]
      clear hg0
      have hkk : k ≤ s.size := by omega
      go_enter Tryz.func58, Tryz.ntmps58
      go_wp2
      go_quiet ((go_at_call 49; exact quietE (first_is hf _)))
      go_wp2
      clear c0 c1 hk2
      go_loopg [] (s.size - k) (fun g wr => ∃ (j : Nat), k + j + g = s.size ∧ j ≤ 100 ∧ Hid (Rd wr r s ⟨k + j, o⟩ pile) ∧ Hid (Keeps (· = r) w wr) ∧ Hid (nameN (bs also) ((bs s).drop (k + j)) + j = nameN (bs also) ((bs s).drop k)))
      case atStart => exact ⟨0, by omega, by omega, HR.out.drewN _, (Keeps.refl _ _).drewN _, rfl⟩
      case round =>
        clear HR hf
        obtain ⟨j, hg, hj, hR, HK, HE⟩ := hrel
        obtain ⟨bad, hB, hbad, hat'⟩ := hR.out
        dsimp only at hB hbad hat'
        have hl := hB.lt
        have f1 := hB.free 1
        have c0 : wr.cell? ⟨r, 0, none⟩ = some (.string s) := hB.cell 0
        have c1 : wr.cell? ⟨r, 1, none⟩ = some (.int .i64 ((k + j : Nat) : Int)) := hB.cell 1
        clear hB hbad
        obtain ⟨m, hm⟩ : ∃ m, k + j = m := ⟨_, rfl⟩
        rw [hm] at c1 HE hat' hR
        have hmk : k ≤ m := by omega
        by_cases hkm : m < s.size
        · have HG := Lib.hid (drop_get (bs_get s m hkm))
          have hkm' : (m : Int) < (s.size : Int) := by omega
          have hkm2 : decide (m < s.size) = true := decide_eq_true hkm
          cases hb : nameOk (bs also) s[m] with
          | true =>
            have Hb := Lib.hid hb
            unfold nameOk at hb
            by_cases h100 : j = 100
            · have Hm := Lib.hid hm
              have Hg := Lib.hid hg
              have H100 := Lib.hid h100
              have ht : ((m : Int) - (k : Int) == 100) = true := by rw [beq_iff_eq]; omega
              have Hlt : Hid (nameN (bs also) ((bs s).drop (m + 1)) ≤ s.size) := by
                have := nameN_le (bs also) ((bs s).drop (m + 1)); rw [List.length_drop, bs_length] at this; show _ ≤ _; omega
              clear hm hg h100
              cases hmore : moreB s[m].toNat with
              | true =>
                clear hb
                go_wp2
                go_quiet ((first | (go_at_call 52; exact quietE (more_is hmore _)) | (go_at_call 28; exact quietE (indexByte_any _ _ _))))
                go_wp2_with (go_at_call 30; refine (fail_any r s ⟨m, o⟩ pile _ _ _ (hR.out.drewN _)).mono ?_; rintro e w1 ⟨rfl, hr1, hk1⟩)
                go_ret
                have h100 := H100.out
                have hm := Hm.out
                have he := HE.out
                have hlt := Hlt.out
                rw [HG.out, nameN_cons, Hb.out, if_pos rfl] at he
                rw [HN.out, if_neg (by omega)]
                refine ⟨rfl, ?_, (HK.out.drewN _).trans hk1⟩
                rw [show k + 100 = m by omega]
                exact hr1
              | false =>
                rw [hmore, Bool.false_or] at hb
                go_wp2
                go_quiet ((first | (go_at_call 52; exact quietE (more_is hmore _)) | (go_at_call 28; exact quietE (indexByte_any _ _ _))))
                go_wp2_with (go_at_call 30; refine (fail_any r s ⟨m, o⟩ pile _ _ _ (hR.out.drewN _)).mono ?_; rintro e w1 ⟨rfl, hr1, hk1⟩)
                go_ret
                have h100 := H100.out
                have hm := Hm.out
                have he := HE.out
                have hlt := Hlt.out
                rw [HG.out, nameN_cons, Hb.out, if_pos rfl] at he
                rw [HN.out, if_neg (by omega)]
                refine ⟨rfl, ?_, (HK.out.drewN _).trans hk1⟩
                rw [show k + 100 = m by omega]
                exact hr1
            · have Hm := Lib.hid hm
              have Hg := Lib.hid hg
              have ht : ((m : Int) - (k : Int) == 100) = false := by rw [beq_eq_false_iff_ne]; omega
              clear hm hg
              cases hmore : moreB s[m].toNat with
              | true =>
                clear hb
                go_wp2
                go_quiet ((first | (go_at_call 52; exact quietE (more_is hmore _)) | (go_at_call 28; exact quietE (indexByte_any _ _ _))))
                go_wp2
                have hg := Hg.out
                have hm := Hm.out
                have he := HE.out
                rw [HG.out, nameN_cons, Hb.out, if_pos rfl] at he
                go_roundg (gk - 1)
                case measure => omega
                case rel =>
                  refine ⟨j + 1, by omega, by omega, (hR.out.drewN _).step _ (by omega) (by go_num), (HK.out.drewN _).set1 _ _, ?_⟩
                  rw [show k + (j + 1) = m + 1 by omega]
                  show _ = _
                  omega
              | false =>
                rw [hmore, Bool.false_or] at hb
                go_wp2
                go_quiet ((first | (go_at_call 52; exact quietE (more_is hmore _)) | (go_at_call 28; exact quietE (indexByte_any _ _ _))))
                go_wp2
                have hg := Hg.out
                have hm := Hm.out
                have he := HE.out
                rw [HG.out, nameN_cons, Hb.out, if_pos rfl] at he
                go_roundg (gk - 1)
                case measure => omega
                case rel =>
                  refine ⟨j + 1, by omega, by omega, (hR.out.drewN _).step _ (by omega) (by go_num), (HK.out.drewN _).set1 _ _, ?_⟩
                  rw [show k + (j + 1) = m + 1 by omega]
                  show _ = _
                  omega
          | false =>
            have Hb := Lib.hid hb
            unfold nameOk at hb
            rw [Bool.or_eq_false_iff] at hb
            obtain ⟨hmore, hix⟩ := hb
            have Hm := Lib.hid hm
            have Hg := Lib.hid hg
            clear hm hg
            go_wp2
            go_quiet ((first | (go_at_call 52; exact quietE (more_is hmore _)) | (go_at_call 28; exact quietE (indexByte_any _ _ _))))
            go_wp2
            go_quiet (fail)
            go_wp2
            go_ret
            have hm := Hm.out
            have he := HE.out
            rw [HG.out, nameN_cons, Hb.out, if_neg (by simp)] at he
            rw [HN.out, if_pos (by omega)]
            refine ⟨?_, ?_, (HK.out.drewN _).drewN _⟩
            · show Ending.returned (Value.string (s.extract k m)) = Ending.returned (Value.string (sb _))
              rw [← he, ← sb_bs (s.extract k m), bs_extract, List.drop_take, show m - k = 0 + j by omega]
            · show Rd _ r s ⟨k + nameN _ _, o⟩ pile
              rw [← he, show k + (0 + j) = m by omega]
              exact (hR.out.drewN _).drewN _
        · have hkm2 : decide (m < s.size) = false := decide_eq_false hkm
          have HG : Hid ((bs s).drop m = []) := List.drop_eq_nil_of_le (by rw [bs_length]; omega)
          have Hm := Lib.hid hm
          have Hg := Lib.hid hg
          clear hm hg
          go_wp2
          go_quiet (fail)
          go_wp2
          go_quiet (fail)
          go_wp2
          go_ret
          have hm := Hm.out
          have he := HE.out
          rw [HG.out, nameN_nil] at he
          rw [HN.out, if_pos (by omega)]
          refine ⟨?_, ?_, (HK.out.drewN _).drewN _⟩
          · show Ending.returned (Value.string (s.extract k m)) = Ending.returned (Value.string (sb _))
            rw [← he, ← sb_bs (s.extract k m), bs_extract, List.drop_take, show m - k = 0 + j by omega]
          · show Rd _ r s ⟨k + nameN _ _, o⟩ pile
            rw [← he, show k + (0 + j) = m by omega]
            exact (hR.out.drewN _).drewN _
  · have hk2 : decide (s.size ≤ k) = true := decide_eq_true (by omega)
    have HN : Hid (nameS (bs also) (bs s) ⟨k, o⟩ = (failS 55 k ⟨k, o⟩, [])) := by
      show _ = _
      simp only [nameS, bs_none s k (by omega)]
    go_enter Tryz.func58, Tryz.ntmps58
    go_wp2
    go_quiet (fail)
    go_wp2_with (go_at_call 30; refine (fail_any r s ⟨k, o⟩ pile _ _ _ (HR.out.drewN _)).mono ?_; rintro e w1 ⟨rfl, hr1, hk1⟩)
    go_ret
    rw [HN.out]
    exact ⟨rfl, hr1, ((Keeps.refl _ _).drewN _).trans hk1⟩
end Go.Proofs.YtkjopcbleefioaaGreatDoor
