/- want, blanks: contracts. -/
import Derived.Test.YtkjopcbleefioaaGreatDoorA1
import Derived.Outline
namespace Go.Proofs.YtkjopcbleefioaaGreatDoor
open Go Go.RowKit
set_option linter.unusedSimpArgs false
set_option linter.unusedVariables false

/-- As far as the bytes p stand from k on: where it ends, or fails. -/
def wantP (s : List UInt8) : List UInt8 → Nat → St
  | [], k => ⟨k, none⟩
  | c :: p, k => if s[k]? = some c then wantP s p (k + 1) else ⟨k, some (55, k)⟩
def wantS (s p : List UInt8) (st : St) : St := match st.bad with | none => wantP s p st.at_ | some _ => st

theorem want_any (r : Nat) (s p : ByteArray) (st : St) (pile : Value) (w : World) (hR : Rd w r s st pile) (hs : s.size ≤ 100000) (hp : p.size ≤ 100000) :
    Calls Tryz.prog 27 #[.pointer (some ⟨r, 0, none⟩), .string p] w fun e w' => e = .returned (.tuple #[]) ∧ Rd w' r s (wantS (bs s) (bs p) st) pile ∧ Keeps (· = r) w w' := by
  have HR := Lib.hid hR
  clear hR
  go_enter Tryz.func27, Tryz.ntmps27
  go_wp2
  go_loopw [4] (fun i wr => ∃ (j : Nat) (st' : St), i = .int .i64 j ∧ j ≤ p.size ∧ Hid (Rd wr r s st' pile ∧ Keeps (· = r) w wr ∧ wantS (bs s) ((bs p).drop j) st' = wantS (bs s) (bs p) st)) (fun i _ => p.size - (intOf i).toNat)
  case atStart => exact ⟨0, st, rfl, Nat.zero_le _, HR.out, Keeps.refl _ _, rfl⟩
  case round =>
    obtain ⟨j, st', rfl, hj, hH⟩ := hrel
    clear HR
    obtain ⟨⟨bad, hB, hbad, hat⟩, hK, hE⟩ := hH.out
    clear hH
    obtain ⟨k, o⟩ := st'
    dsimp only at hB hbad hat
    have HE := Lib.hid hE; clear hE
    have HK := Lib.hid hK; clear hK
    have c0 : wr.cell? ⟨r, 0, none⟩ = some (.string s) := hB.cell 0
    have c1 : wr.cell? ⟨r, 1, none⟩ = some (.int .i64 k) := hB.cell 1
    have f1 := hB.free 1
    have hl := hB.lt
    cases o with
    | some x =>
      have HB := Lib.hid (show Rd wr r s ⟨k, some x⟩ pile from ⟨bad, hB, hbad, hat⟩)
      obtain ⟨b, rfl, -⟩ := hbad
      have c2 : wr.cell? ⟨r, 2, none⟩ = some (.pointer (some ⟨b, 0, none⟩)) := hB.cell 2
      clear hB
      go_wp2
      all_goals go_end0
      all_goals exact ⟨rfl, by rw [← HE.out]; exact HB.out, HK.out⟩
    | none =>
      have HB := Lib.hid (show Rd wr r s ⟨k, none⟩ pile from ⟨bad, hB, hbad, hat⟩)
      obtain rfl := hbad
      have c2 : wr.cell? ⟨r, 2, none⟩ = some (.pointer none) := hB.cell 2
      by_cases hlt : j < p.size
      · have HC := Lib.hid (drop_get (bs_get p j hlt))
        have HB2 := Lib.hid hB
        clear hB
        by_cases hk : k < s.size
        · have HG := Lib.hid (bs_get s k hk)
          by_cases hc : s[k] = p[j]
          · have hc' : ((s[k].toNat : Int) != (p[j].toNat : Int)) = false := by rw [hc]; simp
            have hk' : (k : Int) < (s.size : Int) := by omega
            have hg : decide (s.size ≤ k) = false := decide_eq_false (by omega)
            go_wp2
            go_quiet (fail)
            go_wp2
            go_round
            case rel =>
              refine ⟨j + 1, ⟨k + 1, none⟩, by go_num, by omega, ⟨_, (HB2.out.drewN _).set 1 _, ?_, hk⟩, ?_, ?_⟩
              · rfl
              · exact (HK.out.drewN _).set1 _ _
              · rw [← HE.out, HC.out]
                simp only [wantS, wantP]
                rw [HG.out, hc, if_pos rfl]
            case measure => simp [intOf]; omega
          · have hc' : ((s[k].toNat : Int) != (p[j].toNat : Int)) = true := by
              rw [bne_iff_ne]; intro h; exact hc (UInt8.toNat_inj.1 (by omega))
            have hk' : (k : Int) < (s.size : Int) := by omega
            have hg : decide (s.size ≤ k) = false := decide_eq_false (by omega)
            go_wp2
            go_quiet (fail)
            go_wp2_with (go_at_call 30; refine (fail_any r s ⟨k, none⟩ pile _ _ _ ⟨_, HB2.out.drewN _, rfl, hat⟩).mono ?_; rintro e w1 ⟨rfl, hr1, hk1⟩)
            refine bodyPost_ret (results_none rfl _ _ _) rfl ?_
            refine ⟨rfl, ?_, (HK.out.drewN _).trans hk1⟩
            rw [← HE.out, HC.out]
            simp only [wantS, wantP]
            rw [HG.out, if_neg (by simpa using hc)]
            exact hr1
        · have HG := Lib.hid (bs_none s k (by omega))
          have hg : decide (s.size ≤ k) = true := decide_eq_true (by omega)
          go_wp2
          go_quiet (fail)
          go_wp2_with (go_at_call 30; refine (fail_any r s ⟨k, none⟩ pile _ _ _ ⟨_, HB2.out.drewN _, rfl, hat⟩).mono ?_; rintro e w1 ⟨rfl, hr1, hk1⟩)
          refine bodyPost_ret (results_none rfl _ _ _) rfl ?_
          refine ⟨rfl, ?_, (HK.out.drewN _).trans hk1⟩
          rw [← HE.out, HC.out]
          simp only [wantS, wantP]
          rw [HG.out, if_neg (by simp)]
          exact hr1
      · clear hB
        have hd : (bs p).drop j = [] := List.drop_eq_nil_of_le (by rw [bs_length]; omega)
        have HD := Lib.hid hd; clear hd
        go_wp2
        go_end0
        exact ⟨rfl, by rw [← HE.out, HD.out]; exact HB.out, HK.out⟩
end Go.Proofs.YtkjopcbleefioaaGreatDoor
