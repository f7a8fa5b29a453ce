/- attributes: contract. -/
import Derived.Test.YtkjopcbleefioaaGreatDoorA6
import Derived.Test.YtkjopcbleefioaaGreatDoorA4
import Derived.Test.YtkjopcbleefioaaGreatDoorA2
import Derived.StillTailTactics
import Derived.Outline
namespace Go.Proofs.YtkjopcbleefioaaGreatDoor
open Go Go.RowKit
set_option linter.unusedSimpArgs false
set_option linter.unusedVariables false

/-- What a reader's cells hold. -/
theorem Rd.cells {w : World} {r : Nat} {s : ByteArray} {st : St} {pile : Value} (h : Rd w r s st pile) :
    w.cell? ⟨r, 0, none⟩ = some (.string s) ∧ w.cell? ⟨r, 1, none⟩ = some (.int .i64 st.at_) ∧ w.cell? ⟨r, 3, none⟩ = some pile ∧ w.frozen? ⟨r, 1, none⟩ = false ∧ w.frozen? ⟨r, 3, none⟩ = false ∧ r < w.heap.size := by
  obtain ⟨bad, hB, hbad, hat⟩ := h
  exact ⟨hB.cell 0, hB.cell 1, hB.cell 3, hB.free 1, hB.free 3, hB.lt⟩
theorem Rd.at_le {w : World} {r : Nat} {s : ByteArray} {st : St} {pile : Value} (h : Rd w r s st pile) : st.at_ ≤ s.size := by
  obtain ⟨bad, hB, hbad, hat⟩ := h; exact hat
theorem Rd.none {w : World} {r : Nat} {s : ByteArray} {k : Nat} {pile : Value} (h : Rd w r s ⟨k, .none⟩ pile) : w.cell? ⟨r, 2, .none⟩ = some (.pointer .none) := by
  obtain ⟨bad, hB, rfl, hat⟩ := h
  exact hB.cell 2
theorem Rd.some {w : World} {r : Nat} {s : ByteArray} {k : Nat} {x : Int × Int} {pile : Value} (h : Rd w r s ⟨k, .some x⟩ pile) : ∃ b, w.cell? ⟨r, 2, .none⟩ = .some (.pointer (.some ⟨b, 0, .none⟩)) := by
  obtain ⟨bad, hB, ⟨b, rfl, _⟩, hat⟩ := h
  exact ⟨b, hB.cell 2⟩

theorem ahead_is {r : Nat} {s p : ByteArray} {st : St} {pile : Value} {w : World} {v : Bool} (hR : Rd w r s st pile) (hs : s.size ≤ 100000) (hv : pre (bs p) ((bs s).drop st.at_) = v) :
    Calls Tryz.prog 26 #[.pointer (some ⟨r, 0, none⟩), .string p] w fun e w' => e = .returned (.bool v) ∧ Rd w' r s st pile ∧ Keeps (· = r) w w' :=
  (ahead_any r s p st pile w hR hs).mono fun _ _ ⟨h, n, hw⟩ => by subst hw; exact ⟨by rw [h, hv], hR.drewN n, (Keeps.refl _ _).drewN n⟩

def attrR (s : List UInt8) (st : St) : St × Bool :=
  if pre [47] (s.drop (blanksS s st).at_) then (blanksS s st, false)
  else if pre [62] (s.drop (blanksS s st).at_) then (blanksS s st, false)
  else if blanksN (s.drop st.at_) = 0 then (failS 55 (blanksS s st).at_ (blanksS s st), false)
  else if (wantS s [61] (nameS [58] s (blanksS s st)).1).bad.isSome then (wantS s [61] (nameS [58] s (blanksS s st)).1, false)
  else
    let st3 := wantS s [61] (nameS [58] s (blanksS s st)).1
    if pre [34] (s.drop st3.at_) || pre [39] (s.drop st3.at_) then
      let q := (s.drop st3.at_).take 1
      let m := Lib.indexAny (s.drop (st3.at_ + 1)) (60 :: q)
      (wantS s q { st3 with at_ := if 0 ≤ m then st3.at_ + 1 + m.toNat else s.length }, true)
    else (failS 55 st3.at_ st3, false)

def attrS (s : List UInt8) : Nat → St → St
  | 0, st => st
  | f + 1, st => if st.bad.isSome then st else if (attrR s st).2 then attrS s f (attrR s st).1 else (attrR s st).1

theorem wantP_ge (s p : List UInt8) (k : Nat) : k ≤ (wantP s p k).at_ := by
  induction p generalizing k with
  | nil => exact Nat.le_refl _
  | cons c p ih => unfold wantP; split; exact Nat.le_trans (Nat.le_succ k) (ih _); exact Nat.le_refl _
theorem wantS_ge (s p : List UInt8) (st : St) : st.at_ ≤ (wantS s p st).at_ := by
  unfold wantS; split; exact wantP_ge _ _ _; exact Nat.le_refl _
theorem failS_at (e a : Int) (st : St) : (failS e a st).at_ = st.at_ := by unfold failS; split <;> rfl
theorem nameS_ge (also s : List UInt8) (st : St) : st.at_ ≤ (nameS also s st).1.at_ := by
  unfold nameS
  split
  · simp [failS_at]
  · split
    · split
      · simp
      · simp [failS_at]
    · simp [failS_at]
theorem blanksS_ge (s : List UInt8) (st : St) : st.at_ ≤ (blanksS s st).at_ := Nat.le_add_right _ _

theorem pre_one_lt {c : UInt8} {s : List UInt8} {k : Nat} (h : pre [c] (s.drop k) = true) : k < s.length := by
  rcases Nat.lt_or_ge k s.length with h' | h'
  · exact h'
  · rw [List.drop_eq_nil_of_le h'] at h; simp [pre] at h

/-- Of what a round that goes on has taken there is at least a byte. -/
theorem attrR_ge (s : List UInt8) (st : St) (h : (attrR s st).2 = true) : st.at_ < (attrR s st).1.at_ := by
  unfold attrR at h ⊢
  split at h
  · simp at h
  · rename_i h1; rw [if_neg h1]
    split at h
    · simp at h
    · rename_i h2; rw [if_neg h2]
      split at h
      · simp at h
      · rename_i h3; rw [if_neg h3]
        split at h
        · simp at h
        · rename_i h4; rw [if_neg h4]
          have hb : st.at_ < (blanksS s st).at_ := by show st.at_ < st.at_ + _; omega
          have hn := nameS_ge [58] s (blanksS s st)
          have hw := wantS_ge s [61] (nameS [58] s (blanksS s st)).1
          generalize wantS s [61] (nameS [58] s (blanksS s st)).1 = st3 at *
          dsimp only at h ⊢
          split at h
          · rename_i h5
            rw [if_pos h5]
            have hlt : st3.at_ < s.length := by
              rcases Bool.or_eq_true_iff.1 h5 with h5 | h5 <;> exact pre_one_lt h5
            refine Nat.lt_of_lt_of_le ?_ (wantS_ge _ _ _)
            generalize Lib.indexAny _ _ = m
            dsimp only
            split <;> omega
          · simp at h

theorem attrS_bad (s : List UInt8) (f : Nat) (st : St) (h : st.bad.isSome = true) : attrS s f st = st := by
  cases f with
  | zero => rfl
  | succ f => simp [attrS, h]
theorem attrS_end (s : List UInt8) (f : Nat) (st st' : St) (h : st.bad.isSome = false) (hr : attrR s st = (st', false)) : attrS s (f + 1) st = st' := by
  simp [attrS, h, hr]
theorem attrS_on (s : List UInt8) (f : Nat) (st st' : St) (h : st.bad.isSome = false) (hr : attrR s st = (st', true)) : attrS s (f + 1) st = attrS s f st' := by
  simp [attrS, h, hr]

theorem indexAny_lt (chars : List UInt8) : ∀ l : List UInt8, Lib.indexAny l chars < l.length
  | [] => by simp [Lib.indexAny]
  | b :: l => by
    have := indexAny_lt chars l
    unfold Lib.indexAny
    rw [List.length_cons]
    split
    · omega
    · split <;> omega

/-- .. of '<' and a quote. -/
theorem indexAny_q (s q : ByteArray) (c : UInt8) (w : World) (hq : bs q = [c]) (hc : c.toNat < 128) (hs : s.size ≤ 100000) :
    Calls Tryz.prog 74 #[.string s, .string (⟨#[60]⟩ ++ q)] w fun e w' => e = .returned (.int .i64 (Lib.indexAny (bs s) [60, c])) ∧ Below w.heap.size w w' := by
  have e : q = ⟨#[c]⟩ := bs_inj hq
  subst e
  have e2 : ((⟨#[60]⟩ : ByteArray) ++ ⟨#[c]⟩) = ⟨#[60, c]⟩ := rfl
  rw [e2]
  exact indexAny_any s ⟨#[60, c]⟩ w rfl (show (60 : UInt8).toNat < 128 by decide) hc hs

theorem pre_one_get {c : UInt8} {s : ByteArray} {k : Nat} (h : pre [c] ((bs s).drop k) = true) : bs (s.extract k (k + 1)) = [c] := by
  have hk : k < s.size := by have := pre_one_lt h; rw [bs_length] at this; exact this
  have hd := drop_get (bs_get s k hk)
  rw [hd] at h
  simp only [pre, List.isPrefixOf, Bool.and_true, beq_iff_eq] at h
  rw [bs_extract, List.drop_take, hd, show k + 1 - k = 1 by omega]
  simp [h]

set_option maxHeartbeats 8000000 in
set_option maxRecDepth 100000 in
theorem attributes_any (r : Nat) (s : ByteArray) (st : St) (pile : Value) (w : World) (hR : Rd w r s st pile) (hs : s.size ≤ 100000) :
    Calls Tryz.prog 59 #[.pointer (some ⟨r, 0, none⟩)] w fun e w' => e = .returned (.tuple #[]) ∧ Rd w' r s (attrS (bs s) (s.size + 1) st) pile ∧ Keeps (· = r) w w' := by
  have HR := Lib.hid hR
  clear hR
  go_enter Tryz.func59, Tryz.ntmps59
  go_wp2
  go_loopg [2, 3, 4] (s.size + 1) (fun g _ _ _ wr => ∃ st' : St, Hid (Rd wr r s st' pile) ∧ Hid (Keeps (· = r) w wr) ∧ s.size < st'.at_ + g ∧ Hid (attrS (bs s) g st' = attrS (bs s) (s.size + 1) st))
  case atStart => exact ⟨st, HR.out, Keeps.refl _ _, by omega, rfl⟩
  case round =>
    clear HR
    obtain ⟨⟨k, o⟩, hR, HK, hg, HE⟩ := hrel
    obtain ⟨c0, c1, c3, f1, f3, hl⟩ := hR.out.cells
    cases o with
    | some x =>
      obtain ⟨b, c2⟩ := hR.out.some
      go_wp2
      go_end0
      have he := HE.out
      rw [attrS_bad _ _ _ rfl] at he
      rw [← he]
      exact ⟨rfl, hR.out, HK.out⟩
    | none =>
      have c2 := hR.out.none
      clear c0 c1 c3 f1 f3
      have hz : gk = (gk - 1) + 1 := by have := hR.out.at_le; dsimp only at hg this; omega
      have HZ := Lib.hid hz; clear hz
      go_wp2_with fail
      refine (blanks_any r s ⟨k, none⟩ pile _ hR.out hs).mono ?_
      rintro e w1 ⟨rfl, hR1, hk1⟩
      clear c2
      have HR1 := Lib.hid hR1; have HK1 := Lib.hid (HK.out.trans hk1); clear hR1 hk1
      obtain ⟨n, hn⟩ : ∃ n, blanksN ((bs s).drop k) = n := ⟨_, rfl⟩
      obtain ⟨st1, hst1⟩ : ∃ st1, blanksS (bs s) ⟨k, none⟩ = st1 := ⟨_, rfl⟩
      rw [hst1] at HR1
      rw [hn]
      have Hn := Lib.hid hn; have Hst1 := Lib.hid hst1; clear hn hst1
      have hbad0 : (⟨k, none⟩ : St).bad.isSome = false := rfl
      cases h1 : pre [47] ((bs s).drop st1.at_) with
      | true =>
        have H1 := Lib.hid h1
        go_wp2_with fail
        refine (ahead_is (p := ⟨#[47]⟩) HR1.out hs h1).mono ?_
        rintro e w2 ⟨rfl, hR2, hk2⟩
        have HR2 := Lib.hid hR2; have HK2 := Lib.hid (HK1.out.trans hk2); clear hR2 hk2 h1
        go_wp2_with fail
        refine bodyPost_ret (results_none rfl _ _ _) rfl ?_
        have hr : attrR (bs s) ⟨k, none⟩ = (st1, false) := by simp [attrR, Hst1.out, H1.out]
        have he := HE.out
        rw [HZ.out, attrS_end _ _ _ _ hbad0 hr] at he
        rw [← he]
        exact ⟨rfl, HR2.out, HK2.out⟩
      | false =>
        have H1 := Lib.hid h1
        go_wp2_with fail
        refine (ahead_is (p := ⟨#[47]⟩) HR1.out hs h1).mono ?_
        rintro e w2 ⟨rfl, hR2, hk2⟩
        have HR2 := Lib.hid hR2; have HK2 := Lib.hid (HK1.out.trans hk2); clear hR2 hk2 h1
        cases h2 : pre [62] ((bs s).drop st1.at_) with
        | true =>
          have H2 := Lib.hid h2
          go_wp2_with fail
          refine (ahead_is (p := ⟨#[62]⟩) HR2.out hs h2).mono ?_
          rintro e w3 ⟨rfl, hR3, hk3⟩
          have HR3 := Lib.hid hR3; have HK3 := Lib.hid (HK2.out.trans hk3); clear hR3 hk3 h2
          go_wp2_with fail
          refine bodyPost_ret (results_none rfl _ _ _) rfl ?_
          have hr : attrR (bs s) ⟨k, none⟩ = (st1, false) := by simp [attrR, Hst1.out, H1.out, H2.out]
          have he := HE.out
          rw [HZ.out, attrS_end _ _ _ _ hbad0 hr] at he
          rw [← he]
          exact ⟨rfl, HR3.out, HK3.out⟩
        | false =>
          have H2 := Lib.hid h2
          go_wp2_with fail
          refine (ahead_is (p := ⟨#[62]⟩) HR2.out hs h2).mono ?_
          rintro e w3 ⟨rfl, hR3, hk3⟩
          obtain ⟨c0, c1, c3, f1, f3, hl⟩ := hR3.cells
          have HR3 := Lib.hid hR3; have HK3 := Lib.hid (HK2.out.trans hk3); clear hR3 hk3 h2
          by_cases hn0 : n = 0
          · have hnb : ((n : Int) == 0) = true := by rw [beq_iff_eq]; omega
            have Hn0 := Lib.hid hn0; clear hn0
            go_wp2_with fail
            refine (fail_any r s st1 pile _ _ _ HR3.out).mono ?_
            rintro e w4 ⟨rfl, hR4, hk4⟩
            go_wp2_with fail
            refine bodyPost_ret (results_none rfl _ _ _) rfl ?_
            have hr : attrR (bs s) ⟨k, none⟩ = (failS 55 st1.at_ st1, false) := by simp [attrR, Hst1.out, H1.out, H2.out, Hn.out, Hn0.out]
            have he := HE.out
            rw [HZ.out, attrS_end _ _ _ _ hbad0 hr] at he
            rw [← he]
            exact ⟨rfl, hR4, HK3.out.trans hk4⟩
          · have hnb : ((n : Int) == 0) = false := by rw [beq_eq_false_iff_ne]; omega
            have Hn0 := Lib.hid hn0; clear hn0 c0 c1 c3 f1 f3 hl
            go_wp2_with fail
            refine (name_any r s ⟨#[58]⟩ st1 pile _ HR3.out hs).mono ?_
            rintro e w4 ⟨rfl, hR4, hk4⟩
            have HR4 := Lib.hid hR4; have HK4 := Lib.hid (HK3.out.trans hk4); clear hR4 hk4
            go_wp2_with fail
            refine (want_any r s ⟨#[61]⟩ _ pile _ HR4.out hs (by decide)).mono ?_
            rintro e w5 ⟨rfl, hR5, hk5⟩
            have hR5 : Rd w5 r s (wantS (bs s) [61] (nameS [58] (bs s) st1).1) pile := hR5
            obtain ⟨st3, hst3⟩ : ∃ st3, wantS (bs s) [61] (nameS [58] (bs s) st1).1 = st3 := ⟨_, rfl⟩
            rw [hst3] at hR5
            have Hst3 := Lib.hid hst3; clear hst3
            obtain ⟨c0, c1, c3, f1, f3, hl⟩ := hR5.cells
            obtain ⟨k3, o3⟩ := st3
            cases o3 with
            | some x3 =>
              obtain ⟨b3, c2⟩ := hR5.some
              have HR5 := Lib.hid hR5; have HK5 := Lib.hid (HK4.out.trans hk5); clear hR5 hk5
              go_wp2_with fail
              refine bodyPost_ret (results_none rfl _ _ _) rfl ?_
              have hr : attrR (bs s) ⟨k, none⟩ = (⟨k3, some x3⟩, false) := by simp [attrR, Hst1.out, H1.out, H2.out, Hn.out, Hn0.out, Hst3.out]
              have he := HE.out
              rw [HZ.out, attrS_end _ _ _ _ hbad0 hr] at he
              rw [← he]
              exact ⟨rfl, HR5.out, HK5.out⟩
            | none =>
              have c2 := hR5.none
              have HR5 := Lib.hid hR5; have HK5 := Lib.hid (HK4.out.trans hk5); clear hR5 hk5
              have hk3 : k3 ≤ s.size := HR5.out.at_le
              cases h3 : pre [34] ((bs s).drop k3) with
              | true =>
                have hk3 : k3 < s.size := by have := pre_one_lt h3; rw [bs_length] at this; exact this
                have H3 := Lib.hid h3; clear h3
                clear c0 c1 c3 f1 f3 hl
                go_wp2_with fail
                refine (ahead_is (p := ⟨#[34]⟩) HR5.out hs H3.out).mono ?_
                rintro e wq ⟨rfl, hRq, hkq⟩
                clear c2
                obtain ⟨c0, c1, c3, f1, f3, hl⟩ := hRq.cells
                have HR6 := Lib.hid hRq; have HK6 := Lib.hid (HK5.out.trans hkq); clear hRq hkq
                have s1 : IntKind.i64.wrap ((k3 : Int) + 1) = (k3 : Int) + 1 := by rw [IntWalk.i64_in _ (by omega)]
                have s2 : (0 : Int) ≤ (k3 : Int) + 1 := by omega
                have s3 : ((k3 : Int) + 1).toNat = k3 + 1 := by omega
                have s4 : (k3 : Int) ≤ (k3 : Int) + 1 := by omega
                have s5 : (k3 : Int) + 1 ≤ (s.size : Int) := by omega
                go_wp2_with fail
                go_quiet (fail)
                have HR7 := Lib.hid ((HR6.out.drewN nq).step (k3 + 1) (by omega) (v := .int .i64 ((k3 : Int) + 1)) (by go_num))
                have HK7 := Lib.hid ((HK6.out.drewN nq).set1 1 (.int .i64 ((k3 : Int) + 1)))
                have hq : Hid (bs (s.extract k3 (k3 + 1)) = [34]) := pre_one_get H3.out
                have hq1 : (s.extract k3 (k3 + 1)).size = 1 := by rw [← bs_length, hq.out]; rfl
                go_wp2_with fail
                generalize hw7 : (wq.drewN nq).setCell ⟨r, 1, none⟩ (.int .i64 ((k3 : Int) + 1)) = w7
                rw [hw7] at HR7 HK7
                clear hw7 c0 c1 c3 f1 f3 hl
                obtain ⟨c0, c1, c3, f1, f3, hl⟩ := HR7.out.cells
                dsimp only at c1
                generalize s.extract k3 (k3 + 1) = q at *
                go_still_tail 11, (by kernel_rfl)
                change wpList _ _ _ _ _ w7.drew
                go_wp2_with fail
                clear c0 c1 c3 f1 f3 hl
                refine (indexAny_q _ q 34 _ hq.out (by decide) (by rw [← bs_length, bs_extract, List.length_drop, List.length_take, bs_length]; omega)).mono ?_
                rintro e w8 ⟨rfl, hb8⟩
                have HK8 := Lib.hid ((HK7.out.drew).trans (Keeps.fresh hb8))
                have hR8 := (show Rd w7.drew r s ⟨k3 + 1, none⟩ pile from HR7.out.drewN 1).keep (Keeps.fresh (D := fun _ => False) hb8) (fun h => h) (fun _ _ _ h => h)
                obtain ⟨c0, c1, c3, f1, f3, hl⟩ := hR8.cells
                have HR8 := Lib.hid hR8; clear hR8 hb8 hq1
                dsimp only at c1
                obtain ⟨m, hm⟩ : ∃ m, Lib.indexAny (bs (s.extract (k3 + 1) s.size)) [60, 34] = m := ⟨_, rfl⟩
                rw [hm]
                have hml := indexAny_lt [60, 34] (bs (s.extract (k3 + 1) s.size))
                rw [hm, bs_extract, List.take_of_length_le (by rw [bs_length]; omega), List.length_drop, bs_length] at hml
                rw [bs_extract, List.take_of_length_le (by rw [bs_length]; omega)] at hm
                have Hm := Lib.hid hm; clear hm
                have hr : Hid (attrR (bs s) ⟨k, none⟩ = (wantS (bs s) [34] ⟨if 0 ≤ m then k3 + 1 + m.toNat else (bs s).length, none⟩, true)) := by
                  show _ = _
                  have ht : ((bs s).drop k3).take 1 = [34] := by
                    have h := H3.out
                    have hlt := pre_one_lt h
                    rw [bs_length] at hlt
                    have hd := drop_get (bs_get s k3 hlt)
                    rw [hd] at h ⊢
                    simp only [pre, List.isPrefixOf, Bool.and_true, beq_iff_eq] at h
                    simp [h]
                  have h3 := H3.out
                  have hmm := Hm.out
                  simp only [attrR, Hst1.out, H1.out, H2.out, Hn.out, if_neg Hn0.out, Hst3.out, Option.isSome_none, Bool.false_eq_true, if_false]
                  rw [ht, hmm]
                  simp [h3]
                by_cases hm0 : 0 ≤ m
                · have hg0 : decide (0 ≤ m) = true := decide_eq_true hm0
                  go_wp2_with fail
                  have HR9 := Lib.hid (HR8.out.step (k3 + 1 + m.toNat) (by omega) (v := .int .i64 ((k3 : Int) + 1 + m)) (by rw [show (k3 : Int) + 1 + m = ((k3 + 1 + m.toNat : Nat) : Int) by omega]))
                  have HK9 := Lib.hid (HK8.out.set1 1 (.int .i64 ((k3 : Int) + 1 + m)))
                  refine (want_any r s q _ pile _ HR9.out hs (by rw [← bs_length, hq.out]; decide)).mono ?_
                  rintro e w10 ⟨rfl, hR10, hk10⟩
                  rw [hq.out] at hR10
                  clear c0 c1 c3 f1 f3 hl
                  go_wp2_with fail
                  have hr' := hr.out
                  rw [if_pos hm0] at hr'
                  have he := HE.out
                  rw [HZ.out, attrS_on _ _ _ _ hbad0 hr'] at he
                  have hlt := attrR_ge (bs s) ⟨k, none⟩ (by rw [hr'])
                  rw [hr'] at hlt
                  go_roundg (gk - 1)
                  case measure => have := HZ.out; omega
                  case rel => exact ⟨_, hR10, HK9.out.trans hk10, by dsimp only at hlt; omega, he⟩
                · have hg0 : decide (0 ≤ m) = false := decide_eq_false hm0
                  go_wp2_with fail
                  have HR9 := Lib.hid (HR8.out.step s.size (Nat.le_refl _) (v := .int .i64 (s.size : Int)) rfl)
                  have HK9 := Lib.hid (HK8.out.set1 1 (.int .i64 (s.size : Int)))
                  refine (want_any r s q _ pile _ HR9.out hs (by rw [← bs_length, hq.out]; decide)).mono ?_
                  rintro e w10 ⟨rfl, hR10, hk10⟩
                  rw [hq.out] at hR10
                  clear c0 c1 c3 f1 f3 hl
                  go_wp2_with fail
                  have hr' := hr.out
                  rw [if_neg (by omega), bs_length] at hr'
                  have he := HE.out
                  rw [HZ.out, attrS_on _ _ _ _ hbad0 hr'] at he
                  have hlt := attrR_ge (bs s) ⟨k, none⟩ (by rw [hr'])
                  rw [hr'] at hlt
                  go_roundg (gk - 1)
                  case measure => have := HZ.out; omega
                  case rel => exact ⟨_, hR10, HK9.out.trans hk10, by dsimp only at hlt; omega, he⟩
              | false =>
                have H30 := Lib.hid h3; clear h3
                clear c0 c1 c3 f1 f3 hl
                go_wp2_with fail
                refine (ahead_is (p := ⟨#[34]⟩) HR5.out hs H30.out).mono ?_
                rintro e wp ⟨rfl, hRp, hkp⟩
                clear c2
                have HRp := Lib.hid hRp; have HKp := Lib.hid (HK5.out.trans hkp); clear hRp hkp
                cases h3 : pre [39] ((bs s).drop k3) with
                | true =>
                  have hk3 : k3 < s.size := by have := pre_one_lt h3; rw [bs_length] at this; exact this
                  have H3 := Lib.hid h3; clear h3
                  go_wp2_with fail
                  refine (ahead_is (p := ⟨#[39]⟩) HRp.out hs H3.out).mono ?_
                  rintro e wq ⟨rfl, hRq, hkq⟩
                  obtain ⟨c0, c1, c3, f1, f3, hl⟩ := hRq.cells
                  have HR6 := Lib.hid hRq; have HK6 := Lib.hid (HKp.out.trans hkq); clear hRq hkq
                  have s1 : IntKind.i64.wrap ((k3 : Int) + 1) = (k3 : Int) + 1 := by rw [IntWalk.i64_in _ (by omega)]
                  have s2 : (0 : Int) ≤ (k3 : Int) + 1 := by omega
                  have s3 : ((k3 : Int) + 1).toNat = k3 + 1 := by omega
                  have s4 : (k3 : Int) ≤ (k3 : Int) + 1 := by omega
                  have s5 : (k3 : Int) + 1 ≤ (s.size : Int) := by omega
                  go_wp2_with fail
                  go_quiet (fail)
                  have HR7 := Lib.hid ((HR6.out.drewN nq).step (k3 + 1) (by omega) (v := .int .i64 ((k3 : Int) + 1)) (by go_num))
                  have HK7 := Lib.hid ((HK6.out.drewN nq).set1 1 (.int .i64 ((k3 : Int) + 1)))
                  have hq : Hid (bs (s.extract k3 (k3 + 1)) = [39]) := pre_one_get H3.out
                  have hq1 : (s.extract k3 (k3 + 1)).size = 1 := by rw [← bs_length, hq.out]; rfl
                  go_wp2_with fail
                  generalize hw7 : (wq.drewN nq).setCell ⟨r, 1, none⟩ (.int .i64 ((k3 : Int) + 1)) = w7
                  rw [hw7] at HR7 HK7
                  clear hw7 c0 c1 c3 f1 f3 hl
                  obtain ⟨c0, c1, c3, f1, f3, hl⟩ := HR7.out.cells
                  dsimp only at c1
                  generalize s.extract k3 (k3 + 1) = q at *
                  go_still_tail 11, (by kernel_rfl)
                  change wpList _ _ _ _ _ w7.drew
                  go_wp2_with fail
                  clear c0 c1 c3 f1 f3 hl
                  refine (indexAny_q _ q 39 _ hq.out (by decide) (by rw [← bs_length, bs_extract, List.length_drop, List.length_take, bs_length]; omega)).mono ?_
                  rintro e w8 ⟨rfl, hb8⟩
                  have HK8 := Lib.hid ((HK7.out.drew).trans (Keeps.fresh hb8))
                  have hR8 := (show Rd w7.drew r s ⟨k3 + 1, none⟩ pile from HR7.out.drewN 1).keep (Keeps.fresh (D := fun _ => False) hb8) (fun h => h) (fun _ _ _ h => h)
                  obtain ⟨c0, c1, c3, f1, f3, hl⟩ := hR8.cells
                  have HR8 := Lib.hid hR8; clear hR8 hb8 hq1
                  dsimp only at c1
                  obtain ⟨m, hm⟩ : ∃ m, Lib.indexAny (bs (s.extract (k3 + 1) s.size)) [60, 39] = m := ⟨_, rfl⟩
                  rw [hm]
                  have hml := indexAny_lt [60, 39] (bs (s.extract (k3 + 1) s.size))
                  rw [hm, bs_extract, List.take_of_length_le (by rw [bs_length]; omega), List.length_drop, bs_length] at hml
                  rw [bs_extract, List.take_of_length_le (by rw [bs_length]; omega)] at hm
                  have Hm := Lib.hid hm; clear hm
                  have hr : Hid (attrR (bs s) ⟨k, none⟩ = (wantS (bs s) [39] ⟨if 0 ≤ m then k3 + 1 + m.toNat else (bs s).length, none⟩, true)) := by
                    show _ = _
                    have ht : ((bs s).drop k3).take 1 = [39] := by
                      have h := H3.out
                      have hlt := pre_one_lt h
                      rw [bs_length] at hlt
                      have hd := drop_get (bs_get s k3 hlt)
                      rw [hd] at h ⊢
                      simp only [pre, List.isPrefixOf, Bool.and_true, beq_iff_eq] at h
                      simp [h]
                    have h3 := H3.out
                    have hmm := Hm.out
                    simp only [attrR, Hst1.out, H1.out, H2.out, Hn.out, if_neg Hn0.out, Hst3.out, Option.isSome_none, Bool.false_eq_true, if_false]
                    rw [ht, hmm]
                    simp [h3, H30.out]
                  by_cases hm0 : 0 ≤ m
                  · have hg0 : decide (0 ≤ m) = true := decide_eq_true hm0
                    go_wp2_with fail
                    have HR9 := Lib.hid (HR8.out.step (k3 + 1 + m.toNat) (by omega) (v := .int .i64 ((k3 : Int) + 1 + m)) (by rw [show (k3 : Int) + 1 + m = ((k3 + 1 + m.toNat : Nat) : Int) by omega]))
                    have HK9 := Lib.hid (HK8.out.set1 1 (.int .i64 ((k3 : Int) + 1 + m)))
                    refine (want_any r s q _ pile _ HR9.out hs (by rw [← bs_length, hq.out]; decide)).mono ?_
                    rintro e w10 ⟨rfl, hR10, hk10⟩
                    rw [hq.out] at hR10
                    clear c0 c1 c3 f1 f3 hl
                    go_wp2_with fail
                    have hr' := hr.out
                    rw [if_pos hm0] at hr'
                    have he := HE.out
                    rw [HZ.out, attrS_on _ _ _ _ hbad0 hr'] at he
                    have hlt := attrR_ge (bs s) ⟨k, none⟩ (by rw [hr'])
                    rw [hr'] at hlt
                    go_roundg (gk - 1)
                    case measure => have := HZ.out; omega
                    case rel => exact ⟨_, hR10, HK9.out.trans hk10, by dsimp only at hlt; omega, he⟩
                  · have hg0 : decide (0 ≤ m) = false := decide_eq_false hm0
                    go_wp2_with fail
                    have HR9 := Lib.hid (HR8.out.step s.size (Nat.le_refl _) (v := .int .i64 (s.size : Int)) rfl)
                    have HK9 := Lib.hid (HK8.out.set1 1 (.int .i64 (s.size : Int)))
                    refine (want_any r s q _ pile _ HR9.out hs (by rw [← bs_length, hq.out]; decide)).mono ?_
                    rintro e w10 ⟨rfl, hR10, hk10⟩
                    rw [hq.out] at hR10
                    clear c0 c1 c3 f1 f3 hl
                    go_wp2_with fail
                    have hr' := hr.out
                    rw [if_neg (by omega), bs_length] at hr'
                    have he := HE.out
                    rw [HZ.out, attrS_on _ _ _ _ hbad0 hr'] at he
                    have hlt := attrR_ge (bs s) ⟨k, none⟩ (by rw [hr'])
                    rw [hr'] at hlt
                    go_roundg (gk - 1)
                    case measure => have := HZ.out; omega
                    case rel => exact ⟨_, hR10, HK9.out.trans hk10, by dsimp only at hlt; omega, he⟩
                | false =>
                  have H3 := Lib.hid h3; clear h3
                  go_wp2_with fail
                  refine (ahead_is (p := ⟨#[39]⟩) HRp.out hs H3.out).mono ?_
                  rintro e wq ⟨rfl, hRq, hkq⟩
                  obtain ⟨c0, c1, c3, f1, f3, hl⟩ := hRq.cells
                  have HR6 := Lib.hid hRq; have HK6 := Lib.hid (HKp.out.trans hkq); clear hRq hkq
                  go_wp2_with fail
                  refine (fail_any r s ⟨k3, none⟩ pile _ _ _ HR6.out).mono ?_
                  rintro e w7 ⟨rfl, hR7, hk7⟩
                  go_wp2_with fail
                  refine bodyPost_ret (results_none rfl _ _ _) rfl ?_
                  have hr : attrR (bs s) ⟨k, none⟩ = (failS 55 k3 ⟨k3, none⟩, false) := by simp [attrR, Hst1.out, H1.out, H2.out, Hn.out, Hn0.out, Hst3.out, H30.out, H3.out]
                  have he := HE.out
                  rw [HZ.out, attrS_end _ _ _ _ hbad0 hr] at he
                  rw [← he]
                  exact ⟨rfl, hR7, HK6.out.trans hk7⟩
end Go.Proofs.YtkjopcbleefioaaGreatDoor
