/- within: the walk. -/
import Derived.Test.YtkjopcbleefioaaGreatDoorD1
namespace Go.Proofs.YtkjopcbleefioaaGreatDoor
open Go Go.RowKit
set_option linter.unusedSimpArgs false
set_option linter.unusedVariables false

def WithinPost (w w' : World) (base r : Nat) (s : ByteArray) (x : St × List OS) : Prop :=
  ∃ pv' G', RdP w' base r s x.1 pv' G' ∧ G'.map OG.os = x.2 ∧ Keeps (fun k => k = r ∨ base ≤ k) w w'

theorem pre_two {a b : UInt8} {l : List UInt8} (h : pre [a] l = false) : pre [a, b] l = false := by
  cases l with
  | nil => rfl
  | cons x l =>
    unfold pre at h ⊢
    simp [List.isPrefixOf] at h ⊢
    intro e; exact absurd e h

set_option maxHeartbeats 8000000 in
set_option maxRecDepth 100000 in
theorem within_any (base r : Nat) (s : ByteArray) (k : Nat) (pv : Value) (g : OG) (G : List OG) (w : World) (hP : RdP w base r s ⟨k, none⟩ pv (g :: G)) (hs : s.size ≤ 100000) (hg : Glob w) (hb3 : 3 < base) (hn : G.length ≤ 19)
    (hsm : ∀ g' ∈ g :: G, g'.kids.length ≤ 500000) (htx : g.text.length ≤ 400000) (hnm : g.name.length ≤ 100000) :
    Calls Tryz.prog 42 #[.pointer (some ⟨r, 0, none⟩)] w fun e w' => e = .returned (.tuple #[]) ∧ WithinPost w w' base r s (withinS (bs s) k g.os (G.map OG.os)) := by
  have HP := Lib.hid hP
  have HG := Lib.hid hg
  have hpile : w.ownsRow base 93 1 pv (G.length + 1) ((G.reverse.map fun g => .pointer (some ⟨g.blk, 0, none⟩)) ++ [.pointer (some ⟨g.blk, 0, none⟩)]) := by
    have := hP.pile; unfold PileIs at this; simpa using this
  obtain ⟨pb, cp, rfl, hpb, hpbl⟩ := hpile.form (by omega)
  have hpc := hpile.cellAt G.length (by omega)
  rw [show ((G.reverse.map fun g => Value.pointer (some ⟨g.blk, 0, none⟩)) ++ [.pointer (some ⟨g.blk, 0, none⟩)])[G.length]? = some (.pointer (some ⟨g.blk, 0, none⟩)) by
    rw [List.getElem?_append_right (by simp)]; simp] at hpc
  obtain ⟨L, hL⟩ : ∃ L, G.length = L := ⟨_, rfl⟩
  obtain ⟨t, ht⟩ : ∃ t, s.extract k s.size = t := ⟨_, rfl⟩
  have hks : k ≤ s.size := hP.rd.at_le
  have hT : bs t = (bs s).drop k := by rw [← ht, bs_extract, List.take_of_length_le (by simp [bs_length])]
  have hts : t.size + k = s.size := by rw [← bs_length t, hT, List.length_drop, bs_length]; omega
  obtain ⟨⟨c, n⟩, hcn⟩ : ∃ x, Lib.decodeGo t = x := ⟨_, rfl⟩
  obtain ⟨X, hX⟩ : ∃ X, withinS (bs s) k g.os (G.map OG.os) = X := ⟨_, rfl⟩
  rw [hX]
  have hdec : decR ((bs s).drop k) = (c, n) := by unfold decR; rw [← hT, sb_bs, hcn]
  have hcb : c ≤ 1114111 ∧ n ≤ 4 ∧ n + k ≤ s.size := by
    have h1 := decR_max ((bs s).drop k)
    have h2 := decR_le4 ((bs s).drop k)
    have h3 := decR_le ((bs s).drop k)
    rw [hdec] at h1 h2 h3
    rw [List.length_drop, bs_length] at h3
    dsimp only at h1 h2 h3
    exact ⟨h1, h2, by omega⟩
  obtain ⟨hc1, hn4, hnk⟩ := hcb
  have HX := Lib.hid hX; have HDec := Lib.hid hdec; have HT := Lib.hid hT
  clear hX hdec hT
  obtain ⟨c0, c1, c2, c3, f1, hl, b0, b2, b5, f5, lb, hgr⟩ := hP.top
  have hcd := fun wz hwz => Tryz.utf8_DecodeRuneInString t wz hwz
  rw [hcn] at hcd
  dsimp only at hcd
  rw [hL] at hpc c3 hpile
  obtain ⟨M, hM⟩ : ∃ M, L + 1 = M := ⟨_, rfl⟩
  rw [hM] at c3
  have s2 : IntKind.i64.wrap ((M : Int) - 1) = (L : Int) := by rw [IntWalk.i64_in _ (by omega)]; omega
  have s3 : (L : Int) < (M : Int) := by omega
  have s4 : (0 : Int) ≤ (L : Int) := by omega
  have s5 : (k : Int) ≤ (s.size : Int) := by omega
  have s6 : (0 : Int) ≤ (k : Int) := by omega
  have HL := Lib.hid hL
  clear hP hL hpile hg hcn hM
  go_enter Tryz.func42, Tryz.ntmps42
  go_wp2_with fail
  go_quiet (fail)
  have hP1 : RdP (w.drewN nq) base r s ⟨k, none⟩ (.slice (some ⟨pb, 0, none⟩) (G.length + 1) cp) (g :: G) := HP.out.reader (HP.out.rd.drewN nq) ((Keeps.refl _ w).drewN nq)
  have hG1 : Glob (w.drewN nq) := HG.out.keep ((Keeps.refl (fun _ => False) w).drewN nq) (fun _ _ h => h)
  have hK1 : Keeps (fun k => k = r ∨ base ≤ k) w (w.drewN nq) := (Keeps.refl _ w).drewN nq
  generalize w.drewN nq = w1 at hP1 hG1 hK1 ⊢
  have HP1 := Lib.hid hP1; have HG1 := Lib.hid hG1; have HK1 := Lib.hid hK1
  clear c0 c1 c2 c3 f1 hl b0 b2 b5 f5 lb hgr hpc s2 s3 s4 hG1 hK1
  obtain ⟨c0, c1, c2, c3, f1, hl, b0, b2, b5, f5, lb, hgr⟩ := hP1.top
  have hu8 : Lib.Utf8Tabs 1 2 w1.drew := (HG1.out.keep ((Keeps.refl (fun _ => False) w1).drew) (fun _ _ h => h)).utf
  have hcd1 := hcd w1.drew hu8
  clear hcd hu8 hP1
  go_wp2_with fail
  have hkk : ∀ w2, Below w1.drew.heap.size w1.drew w2 → w2.cell? ⟨r, 0, none⟩ = some (.string s) ∧ w2.cell? ⟨r, 1, none⟩ = some (.int .i64 k) := fun w2 hb =>
    have e := hb.block r (show r < w1.drew.heap.size from hl)
    ⟨(World.cell?_of_block (w := w1.drew) (w' := w2) (a := ⟨r, 0, none⟩) e).trans c0, (World.cell?_of_block (w := w1.drew) (w' := w2) (a := ⟨r, 1, none⟩) e).trans c1⟩
  go_region_held3 (fun w' => w'.cell? ⟨r, 0, none⟩ = some (.string s) ∧ w'.cell? ⟨r, 1, none⟩ = some (.int .i64 k))
    (first | exact ⟨c0, c1⟩ | exact ⟨d0, d1⟩ | go_keep)
    ((go_at_call 61; refine hcd1.mono ?_; rintro e w2 ⟨rfl, hb⟩; have d0 := (hkk w2 hb).1; have d1 := (hkk w2 hb).2))
  have hk2 : Keeps (fun _ => False) w1 w2 := Keeps.fresh (show Below w1.heap.size w1 w2 from ⟨hb.os, hb.tape, hb.output, hb.size, hb.block⟩)
  have HP2 := Lib.hid (HP1.out.keepAll hk2)
  have HG2 := Lib.hid (HG1.out.keep hk2 (fun _ _ h => h))
  have HK2 := Lib.hid (HK1.out.trans (hk2.mono (fun _ _ h => h.elim)))
  obtain ⟨csk, hks2, _⟩ := (HP.out.open_ g (by simp)).2.2.2.2.2
  obtain ⟨Ak, ck, ek, hck⟩ := own_slice hks2
  have HEk := Lib.hid ek
  clear hks2 ek hb hk2 hcd1 HP1 HG1 HK1 c0 c1 c2 c3 f1 hl b0 b2 b5 f5 lb hgr
  obtain ⟨c0, c1, c2, c3, f1, hl, b0, b2, b5, f5, lb, hgr⟩ := HP2.out.top
  rw [HEk.out] at b2
  by_cases h127 : 127 < c
  · have h127' : (127 : Int) < (c : Int) := by omega
    have hsv : solidR c = true := by unfold solidR; rw [decide_eq_true h127]; rfl
    obtain ⟨sv, hsv'⟩ : ∃ sv, sv = true := ⟨_, rfl⟩
    rw [← hsv'] at hsv
    have HSv := Lib.hid hsv
    clear hsv
    by_cases hn0 : n = 0
    · have hnz : ((n : Int) == 0) = true := by rw [hn0]; rfl
      clear hn0
      go_wp2_with fail
      refine (fail_any r s ⟨k, none⟩ _ 55 _ w2 HP2.out.rd).mono ?_
      rintro e wf ⟨rfl, hR, hk⟩
      have HPf := Lib.hid (HP2.out.reader hR hk)
      have HKf := Lib.hid (HK2.out.trans (hk.mono (fun i _ e => by have := HP.out.le; omega)))
      clear hR hk
      clear c0 c1 c2 c3 f1 hl b0 b2 b5 f5 lb hgr
      go_wp2_with fail
      go_end0
      have hXe : X = (⟨k, some (55, k)⟩, g.os :: G.map OG.os) := by
        rw [← HX.out]; unfold withinS; rw [HDec.out]; dsimp only
        rw [if_pos (by rw [beq_iff_eq] at hnz; omega)]
      rw [hXe]
      exact ⟨rfl, _, _, HPf.out, rfl, HKf.out⟩
    · have hnz : ((n : Int) == 0) = false := by rw [beq_eq_false_iff_ne]; omega
      cases h60 : pre [60] ((bs s).drop k) with
      | true =>
        have H60 := Lib.hid h60
        have hkl : k < s.size := by have := pre_one_lt h60; rw [bs_length] at this; exact this
        clear h60
        have s1 : IntKind.i64.wrap ((k : Int) + 1) = (k : Int) + 1 := by rw [IntWalk.i64_in _ (by omega)]
        by_cases hlast : k + 1 = s.size
        · have hcmp : ((k : Int) + 1 == (s.size : Int)) = true := by rw [beq_iff_eq]; omega
          go_wp2_with fail
          go_quiet ((go_at_call 26; exact ahead_q (p := ⟨#[60]⟩) HP2.out.rd hs H60.out _))
          have HP4 := Lib.hid (HP2.out.keepAll ((Keeps.refl (fun _ => False) w2).drewN nq))
          have HG4 := Lib.hid (HG2.out.keep ((Keeps.refl (fun _ => False) w2).drewN nq) (fun _ _ h => h))
          have HK4 := Lib.hid (HK2.out.drewN nq)
          generalize w2.drewN nq = w4 at HP4 HG4 HK4 ⊢
          clear c0 c1 c2 c3 f1 hl b0 b2 b5 f5 lb hgr
          obtain ⟨c0, c1, c2, c3, f1, hl, b0, b2, b5, f5, lb, hgr⟩ := HP4.out.top
          rw [HEk.out] at b2
          clear hlast
          go_wp2_with fail
          refine (fail_any r s ⟨k, none⟩ _ 55 _ w4 HP4.out.rd).mono ?_
          rintro e wf ⟨rfl, hR, hk⟩
          have HPf := Lib.hid (HP4.out.reader hR hk)
          have HKf := Lib.hid (HK4.out.trans (hk.mono (fun i _ e => by have := HP.out.le; omega)))
          clear hR hk
          clear c0 c1 c2 c3 f1 hl b0 b2 b5 f5 lb hgr
          go_wp2_with fail
          go_end0
          have hXe : X = (⟨k, some (55, s.size)⟩, g.os :: G.map OG.os) := by
            rw [← HX.out]; unfold withinS; rw [HDec.out]; dsimp only
            rw [if_neg (by rw [beq_eq_false_iff_ne] at hnz; omega), if_pos ⟨H60.out, by rw [bs_length]; rw [beq_iff_eq] at hcmp; omega⟩, bs_length]
          rw [hXe]
          exact ⟨rfl, _, _, HPf.out, rfl, HKf.out⟩
        · have hcmp : ((k : Int) + 1 == (s.size : Int)) = false := by rw [beq_eq_false_iff_ne]; omega
          go_wp2_with fail
          go_quiet ((go_at_call 26; exact ahead_q (p := ⟨#[60]⟩) HP2.out.rd hs H60.out _))
          have HP4 := Lib.hid (HP2.out.keepAll ((Keeps.refl (fun _ => False) w2).drewN nq))
          have HG4 := Lib.hid (HG2.out.keep ((Keeps.refl (fun _ => False) w2).drewN nq) (fun _ _ h => h))
          have HK4 := Lib.hid (HK2.out.drewN nq)
          generalize w2.drewN nq = w4 at HP4 HG4 HK4 ⊢
          clear c0 c1 c2 c3 f1 hl b0 b2 b5 f5 lb hgr
          obtain ⟨c0, c1, c2, c3, f1, hl, b0, b2, b5, f5, lb, hgr⟩ := HP4.out.top
          rw [HEk.out] at b2
          go_wp2_with fail
          cases h47 : pre [60, 47] ((bs s).drop k) with
          | true =>
            have H47 := Lib.hid h47
            clear h47
            refine (ahead_is (p := ⟨#[60, 47]⟩) HP4.out.rd hs H47.out).mono ?_
            rintro e w5 ⟨rfl, hR, hk⟩
            have HP5 := Lib.hid (HP4.out.reader hR hk)
            have HK5 := Lib.hid (HK4.out.trans (hk.mono (fun i _ e => by have := HP.out.le; omega)))
            clear hR hk
            clear c0 c1 c2 c3 f1 hl b0 b2 b5 f5 lb hgr
            obtain ⟨c0, c1, c2, c3, f1, hl, b0, b2, b5, f5, lb, hgr⟩ := HP5.out.top
            rw [HEk.out] at b2
            go_wp2_with fail
            have hk2s : k + 2 ≤ s.size := by
              have := List.IsPrefix.length_le (List.isPrefixOf_iff_prefix.1 H47.out)
              rw [List.length_drop, bs_length] at this
              simp at this; omega
            have hR6 := HP5.out.rd.step (k + 2) hk2s (v := .int .i64 ((k : Int) + 2)) (by go_num)
            have HP6 := Lib.hid (HP5.out.reader hR6 ((Keeps.refl (· = r) w5).set1 1 _))
            have HK6 := Lib.hid (HK5.out.trans (((Keeps.refl (· = r) w5).set1 1 (.int .i64 ((k : Int) + 2))).mono (D' := fun k => k = r ∨ base ≤ k) (fun i _ e => by have := HP.out.le; omega)))
            clear hR6
            generalize w5.setCell ⟨r, 1, none⟩ (.int .i64 ((k : Int) + 2)) = w6 at HP6 HK6 ⊢
            clear c0 c1 c2 c3 f1 hl b0 b2 b5 f5 lb hgr
            obtain ⟨⟨ak, ao⟩, hA⟩ : ∃ a, wantS (bs s) g.name ⟨k + 2, none⟩ = a := ⟨_, rfl⟩
            refine (want_any r s (sb g.name) ⟨k + 2, none⟩ _ w6 HP6.out.rd hs (by rw [sb_size]; omega)).mono ?_
            rintro e w7 ⟨rfl, hR7, hk7⟩
            rw [show wantS (bs s) (bs (sb g.name)) ⟨k + 2, none⟩ = ⟨ak, ao⟩ from hA] at hR7
            have HP7 := Lib.hid (HP6.out.reader hR7 hk7)
            have HK7 := Lib.hid (HK6.out.trans (hk7.mono (fun i _ e => by have := HP.out.le; omega)))
            have HA := Lib.hid hA
            clear hk7 hA
            obtain ⟨c0, c1, c3, f1, f3, hl⟩ := hR7.cells
            cases ao with
            | some x =>
              obtain ⟨bb, c2⟩ := hR7.some
              clear hR7
              go_wp2_with fail
              clear c0 c1 c2 c3 f1 f3 hl
              obtain ⟨⟨zk, zo⟩, hZ⟩ : ∃ z, wantS (bs s) [62] ⟨ak, some x⟩ = z := ⟨_, rfl⟩
              refine (want_any r s ⟨#[62]⟩ ⟨ak, some x⟩ _ w7 HP7.out.rd hs (by decide)).mono ?_
              rintro e w8 ⟨rfl, hR, hk⟩
              rw [show wantS (bs s) (bs ⟨#[62]⟩) ⟨ak, some x⟩ = ⟨zk, zo⟩ from hZ] at hR
              have HP8 := Lib.hid (HP7.out.reader hR hk)
              have HK8 := Lib.hid (HK7.out.trans (hk.mono (fun i _ e => by have := HP.out.le; omega)))
              have HZ := Lib.hid hZ
              clear hR hk hZ
              go_wp2_with fail
              refine (end_any base r s ⟨zk, zo⟩ _ (g :: G) w8 HP8.out (by simp; omega) (by simp) (fun g' hg' => Nat.le_trans (hsm g' hg') (by decide))).mono ?_
              rintro e w9 ⟨rfl, pv9, G9, hP9, hm9, hk9⟩
              have HP9 := Lib.hid hP9
              have HM9 := Lib.hid hm9
              have HK9 := Lib.hid (HK8.out.trans hk9)
              clear hP9 hm9 hk9
              go_wp2_with fail
              go_end0
              have hXe : X = (⟨zk, zo⟩, endS zo (g.os :: G.map OG.os)) := by
                rw [← HX.out]; unfold withinS; rw [HDec.out]; dsimp only
                rw [if_neg (by rw [beq_eq_false_iff_ne] at hnz; omega), if_neg (by rintro ⟨_, h⟩; rw [bs_length] at h; exact hlast h), if_pos H47.out]
                rw [show wantS (bs s) g.os.name ⟨k + 2, none⟩ = ⟨ak, some x⟩ from HA.out]
                show (wantS (bs s) [62] ⟨ak, some x⟩, endS (wantS (bs s) [62] ⟨ak, some x⟩).bad (g.os :: G.map OG.os)) = _
                rw [HZ.out]
              rw [hXe]
              exact ⟨rfl, _, _, HP9.out, HM9.out, HK9.out⟩
            | none =>
              have c2 := hR7.none
              clear hR7
              go_wp2_with fail
              clear c0 c1 c2 c3 f1 f3 hl
              refine (blanks_any r s ⟨ak, none⟩ _ w7 HP7.out.rd hs).mono ?_
              rintro e w8 ⟨rfl, hR, hk⟩
              have HP8 := Lib.hid (HP7.out.reader hR hk)
              have HK8 := Lib.hid (HK7.out.trans (hk.mono (fun i _ e => by have := HP.out.le; omega)))
              clear hR hk
              go_wp2_with fail
              obtain ⟨⟨zk, zo⟩, hZ⟩ : ∃ z, wantS (bs s) [62] (blanksS (bs s) ⟨ak, none⟩) = z := ⟨_, rfl⟩
              refine (want_any r s ⟨#[62]⟩ (blanksS (bs s) ⟨ak, none⟩) _ w8 HP8.out.rd hs (by decide)).mono ?_
              rintro e w9 ⟨rfl, hR, hk⟩
              rw [show wantS (bs s) (bs ⟨#[62]⟩) (blanksS (bs s) ⟨ak, none⟩) = ⟨zk, zo⟩ from hZ] at hR
              have HP9 := Lib.hid (HP8.out.reader hR hk)
              have HK9 := Lib.hid (HK8.out.trans (hk.mono (fun i _ e => by have := HP.out.le; omega)))
              have HZ := Lib.hid hZ
              clear hR hk hZ
              go_wp2_with fail
              refine (end_any base r s ⟨zk, zo⟩ _ (g :: G) w9 HP9.out (by simp; omega) (by simp) (fun g' hg' => Nat.le_trans (hsm g' hg') (by decide))).mono ?_
              rintro e w10 ⟨rfl, pv9, G9, hP9, hm9, hk9⟩
              have HP9 := Lib.hid hP9
              have HM9 := Lib.hid hm9
              have HK9 := Lib.hid (HK9.out.trans hk9)
              clear hP9 hm9 hk9
              go_wp2_with fail
              go_end0
              have hXe : X = (⟨zk, zo⟩, endS zo (g.os :: G.map OG.os)) := by
                rw [← HX.out]; unfold withinS; rw [HDec.out]; dsimp only
                rw [if_neg (by rw [beq_eq_false_iff_ne] at hnz; omega), if_neg (by rintro ⟨_, h⟩; rw [bs_length] at h; exact hlast h), if_pos H47.out]
                rw [show wantS (bs s) g.os.name ⟨k + 2, none⟩ = ⟨ak, none⟩ from HA.out]
                show (wantS (bs s) [62] (blanksS (bs s) ⟨ak, none⟩), endS (wantS (bs s) [62] (blanksS (bs s) ⟨ak, none⟩)).bad (g.os :: G.map OG.os)) = _
                rw [HZ.out]
              rw [hXe]
              exact ⟨rfl, _, _, HP9.out, HM9.out, HK9.out⟩
          | false =>
            have H47 := Lib.hid h47
            clear h47
            cases hsd : g.solid with
            | true =>
              have Hsd := Lib.hid hsd
              rw [hsd] at b5
              clear hsd
              refine (ahead_is (p := ⟨#[60, 47]⟩) HP4.out.rd hs H47.out).mono ?_
              rintro e w5 ⟨rfl, hR, hk⟩
              have HP5 := Lib.hid (HP4.out.reader hR hk)
              have HK5 := Lib.hid (HK4.out.trans (hk.mono (fun i _ e => by have := HP.out.le; omega)))
              clear hR hk
              clear c0 c1 c2 c3 f1 hl b0 b2 b5 f5 lb hgr
              obtain ⟨c0, c1, c2, c3, f1, hl, b0, b2, b5, f5, lb, hgr⟩ := HP5.out.top
              rw [HEk.out] at b2
              rw [Hsd.out] at b5
              go_wp2_with fail
              refine (ahead_is (p := ⟨#[60]⟩) HP5.out.rd hs H60.out).mono ?_
              rintro e w6 ⟨rfl, hR, hk⟩
              have HP6 := Lib.hid (HP5.out.reader hR hk)
              have HK6 := Lib.hid (HK5.out.trans (hk.mono (fun i _ e => by have := HP.out.le; omega)))
              clear hR hk
              clear c0 c1 c2 c3 f1 hl b0 b2 b5 f5 lb hgr
              obtain ⟨c0, c1, c2, c3, f1, hl, b0, b2, b5, f5, lb, hgr⟩ := HP6.out.top
              rw [HEk.out] at b2
              rw [Hsd.out] at b5
              go_wp2_with fail
              refine (fail_any r s ⟨k, none⟩ _ 55 _ w6 HP6.out.rd).mono ?_
              rintro e wf ⟨rfl, hR, hk⟩
              have HPf := Lib.hid (HP6.out.reader hR hk)
              have HKf := Lib.hid (HK6.out.trans (hk.mono (fun i _ e => by have := HP.out.le; omega)))
              clear hR hk
              clear c0 c1 c2 c3 f1 hl b0 b2 b5 f5 lb hgr
              go_wp2_with fail
              go_end0
              have hXe : X = (⟨k, some (55, k)⟩, g.os :: G.map OG.os) := by
                rw [← HX.out]; unfold withinS; rw [HDec.out]; dsimp only
                rw [if_neg (by rw [beq_eq_false_iff_ne] at hnz; omega), if_neg (by rintro ⟨_, h⟩; rw [bs_length] at h; exact hlast h), if_neg (by rw [H47.out]; decide), if_pos H60.out, if_pos (show g.os.solid = true from Hsd.out)]
              rw [hXe]
              exact ⟨rfl, _, _, HPf.out, rfl, HKf.out⟩
            | false =>
              have Hsd := Lib.hid hsd
              rw [hsd] at b5
              clear hsd
              refine (ahead_is (p := ⟨#[60, 47]⟩) HP4.out.rd hs H47.out).mono ?_
              rintro e w5 ⟨rfl, hR, hk⟩
              have HP5 := Lib.hid (HP4.out.reader hR hk)
              have HK5 := Lib.hid (HK4.out.trans (hk.mono (fun i _ e => by have := HP.out.le; omega)))
              clear hR hk
              clear c0 c1 c2 c3 f1 hl b0 b2 b5 f5 lb hgr
              obtain ⟨c0, c1, c2, c3, f1, hl, b0, b2, b5, f5, lb, hgr⟩ := HP5.out.top
              rw [HEk.out] at b2
              rw [Hsd.out] at b5
              go_wp2_with fail
              refine (ahead_is (p := ⟨#[60]⟩) HP5.out.rd hs H60.out).mono ?_
              rintro e w6 ⟨rfl, hR, hk⟩
              have HP6 := Lib.hid (HP5.out.reader hR hk)
              have HK6 := Lib.hid (HK5.out.trans (hk.mono (fun i _ e => by have := HP.out.le; omega)))
              clear hR hk
              clear c0 c1 c2 c3 f1 hl b0 b2 b5 f5 lb hgr
              obtain ⟨c0, c1, c2, c3, f1, hl, b0, b2, b5, f5, lb, hgr⟩ := HP6.out.top
              rw [HEk.out] at b2
              rw [Hsd.out] at b5
              go_wp2_with fail
              refine (ahead_is (p := ⟨#[60]⟩) HP6.out.rd hs H60.out).mono ?_
              rintro e w7 ⟨rfl, hR, hk⟩
              have HP7 := Lib.hid (HP6.out.reader hR hk)
              have HK7 := Lib.hid (HK6.out.trans (hk.mono (fun i _ e => by have := HP.out.le; omega)))
              clear hR hk
              clear c0 c1 c2 c3 f1 hl b0 b2 b5 f5 lb hgr
              obtain ⟨c0, c1, c2, c3, f1, hl, b0, b2, b5, f5, lb, hgr⟩ := HP7.out.top
              rw [HEk.out] at b2
              go_wp2_with fail
              obtain ⟨⟨ys, yo, yb⟩, hY⟩ : ∃ y, beginS (bs s) (g :: G).length ⟨k, none⟩ = y := ⟨_, rfl⟩
              have hbeg := begin_any base r s k _ (g :: G) w7 HP7.out hs (by simp; omega)
              rw [hY] at hbeg
              dsimp only at hbeg
              have hXe : X = (ys, if yb then pushed yo (g.os :: G.map OG.os) else endS ys.bad (pushed yo (g.os :: G.map OG.os))) := by
                rw [← HX.out]; unfold withinS; rw [HDec.out]; dsimp only
                rw [if_neg (by rw [beq_eq_false_iff_ne] at hnz; omega), if_neg (by rintro ⟨_, h⟩; rw [bs_length] at h; exact hlast h), if_neg (by rw [H47.out]; decide), if_pos H60.out, if_neg (by rw [show g.os.solid = false from Hsd.out]; decide)]
                rw [List.length_map, show G.length + 1 = (g :: G).length from rfl, hY]
              have HXe := Lib.hid hXe
              clear hXe hY
              refine hbeg.mono ?_
              rintro e w8 ⟨rfl, pv8, G8, hP8, hm8, hk8⟩
              have HP8 := Lib.hid hP8
              have HM8 := Lib.hid hm8
              have HK8 := Lib.hid (HK7.out.trans hk8)
              have hlen8 : (G8.map OG.os).length ≤ 22 := by
                rw [hm8]; cases yo <;> simp [pushed] <;> omega
              have hone8 : 1 ≤ (G8.map OG.os).length := by
                rw [hm8]; cases yo <;> simp [pushed]
              rw [List.length_map] at hlen8 hone8
              have hkid8 : Hid (∀ g' ∈ G8, g'.kids.length ≤ 1000000) := by
                show ∀ g' ∈ G8, g'.kids.length ≤ 1000000
                intro g' hg'
                have hmem : g'.os ∈ G8.map OG.os := List.mem_map.2 ⟨g', hg', rfl⟩
                rw [hm8] at hmem
                have hbase' : ∀ o ∈ g.os :: G.map OG.os, o.kids.length ≤ 1000000 := by
                  intro o ho
                  rw [← List.map_cons] at ho
                  obtain ⟨g2, hg2, rfl⟩ := List.mem_map.1 ho
                  exact Nat.le_trans (hsm g2 hg2) (by decide)
                cases yo with
                | none => exact hbase' _ hmem
                | some nm =>
                  rcases List.mem_cons.1 hmem with e | e
                  · rw [show g'.kids = g'.os.kids from rfl, e]; exact Nat.zero_le _
                  · exact hbase' _ e
              clear hbeg hm8 hk8
              clear c0 c1 c2 c3 f1 hl b0 b2 b5 f5 lb hgr
              obtain ⟨A8, cp8, rfl, _⟩ := own_slice hP8.pile
              cases yb with
              | true =>
                clear hP8
                go_wp2_with fail
                go_end0
                rw [HXe.out]
                exact ⟨rfl, _, _, HP8.out, HM8.out, HK8.out⟩
              | false =>
                obtain ⟨yk, ybad⟩ := ys
                obtain ⟨c0, c1, c3, f1, f3, hl⟩ := hP8.rd.cells
                cases ybad with
                | some x =>
                  obtain ⟨bb, c2⟩ := hP8.rd.some
                  clear hP8
                  go_wp2_with fail
                  go_end0
                  rw [HXe.out]
                  refine ⟨rfl, _, _, HP8.out, ?_, HK8.out⟩
                  rw [HM8.out]; rfl
                | none =>
                  have c2 := hP8.rd.none
                  clear hP8
                  go_wp2_with fail
                  refine (end_any base r s ⟨yk, none⟩ _ G8 w8 HP8.out hlen8 hone8 hkid8.out).mono ?_
                  rintro e w9 ⟨rfl, pv9, G9, hP9, hm9, hk9⟩
                  have HP9 := Lib.hid hP9
                  have HM9 := Lib.hid hm9
                  have HK9 := Lib.hid (HK8.out.trans hk9)
                  clear hP9 hm9 hk9 c0 c1 c2 c3 f1 f3 hl
                  go_wp2_with fail
                  go_end0
                  rw [HXe.out]
                  refine ⟨rfl, _, _, HP9.out, ?_, HK9.out⟩
                  rw [HM9.out, HM8.out]; rfl
      | false =>
        have H60 := Lib.hid h60
        clear h60
        go_wp2_with fail
        go_quiet ((go_at_call 26; exact ahead_q (p := ⟨#[60]⟩) HP2.out.rd hs H60.out _))
        have HP4 := Lib.hid (HP2.out.keepAll ((Keeps.refl (fun _ => False) w2).drewN nq))
        have HG4 := Lib.hid (HG2.out.keep ((Keeps.refl (fun _ => False) w2).drewN nq) (fun _ _ h => h))
        have HK4 := Lib.hid (HK2.out.drewN nq)
        generalize w2.drewN nq = w4 at HP4 HG4 HK4 ⊢
        clear c0 c1 c2 c3 f1 hl b0 b2 b5 f5 lb hgr
        obtain ⟨c0, c1, c2, c3, f1, hl, b0, b2, b5, f5, lb, hgr⟩ := HP4.out.top
        rw [HEk.out] at b2
        go_wp2_with fail
        have H47 := Lib.hid (show pre [60, 47] ((bs s).drop k) = false from pre_two H60.out)
        by_cases hk0 : 0 < g.kids.length
        · have hk0' : (0 : Int) < (g.kids.length : Int) := by omega
          cases sv with
          | true =>
            refine (ahead_is (p := ⟨#[60, 47]⟩) HP4.out.rd hs H47.out).mono ?_
            rintro e w5 ⟨rfl, hR, hk⟩
            have HP5 := Lib.hid (HP4.out.reader hR hk)
            have HK5 := Lib.hid (HK4.out.trans (hk.mono (fun i _ e => by have := HP.out.le; omega)))
            clear hR hk
            clear c0 c1 c2 c3 f1 hl b0 b2 b5 f5 lb hgr
            obtain ⟨c0, c1, c2, c3, f1, hl, b0, b2, b5, f5, lb, hgr⟩ := HP5.out.top
            rw [HEk.out] at b2
            go_wp2_with fail
            refine (ahead_is (p := ⟨#[60]⟩) HP5.out.rd hs H60.out).mono ?_
            rintro e w6 ⟨rfl, hR, hk⟩
            have HP6 := Lib.hid (HP5.out.reader hR hk)
            have HK6 := Lib.hid (HK5.out.trans (hk.mono (fun i _ e => by have := HP.out.le; omega)))
            clear hR hk
            clear c0 c1 c2 c3 f1 hl b0 b2 b5 f5 lb hgr
            obtain ⟨c0, c1, c2, c3, f1, hl, b0, b2, b5, f5, lb, hgr⟩ := HP6.out.top
            rw [HEk.out] at b2
            go_wp2_with fail
            refine (ahead_is (p := ⟨#[60]⟩) HP6.out.rd hs H60.out).mono ?_
            rintro e w7 ⟨rfl, hR, hk⟩
            have HP7 := Lib.hid (HP6.out.reader hR hk)
            have HK7 := Lib.hid (HK6.out.trans (hk.mono (fun i _ e => by have := HP.out.le; omega)))
            clear hR hk
            clear c0 c1 c2 c3 f1 hl b0 b2 b5 f5 lb hgr
            obtain ⟨c0, c1, c2, c3, f1, hl, b0, b2, b5, f5, lb, hgr⟩ := HP7.out.top
            rw [HEk.out] at b2
            go_wp2_with fail
            refine (fail_any r s ⟨k, none⟩ _ 55 _ w7 HP7.out.rd).mono ?_
            rintro e wf ⟨rfl, hR, hk⟩
            have HPf := Lib.hid (HP7.out.reader hR hk)
            have HKf := Lib.hid (HK7.out.trans (hk.mono (fun i _ e => by have := HP.out.le; omega)))
            clear hR hk
            clear c0 c1 c2 c3 f1 hl b0 b2 b5 f5 lb hgr
            go_wp2_with fail
            go_end0
            have hXe : X = (⟨k, some (55, k)⟩, g.os :: G.map OG.os) := by
              rw [← HX.out]; unfold withinS; rw [HDec.out]; dsimp only
              rw [if_neg (by rw [beq_eq_false_iff_ne] at hnz; omega), if_neg (by rintro ⟨h, _⟩; rw [H60.out] at h; cases h), if_neg (by rw [pre_two H60.out]; decide), if_neg (by rw [H60.out]; decide), if_pos ⟨hk0, HSv.out⟩]
            rw [hXe]
            exact ⟨rfl, _, _, HPf.out, rfl, HKf.out⟩
          | false =>
            first
              | exact absurd hsv' (by decide)
              | skip
            all_goals
              have H6 : Hid (¬ (0 < g.os.kids.length ∧ solidR c = true)) := by
                show ¬ _
                rintro ⟨_, h⟩; rw [HSv.out] at h; cases h
              refine (ahead_is (p := ⟨#[60, 47]⟩) HP4.out.rd hs H47.out).mono ?_
              rintro e w5 ⟨rfl, hR, hk⟩
              have HP5 := Lib.hid (HP4.out.reader hR hk)
              have HK5 := Lib.hid (HK4.out.trans (hk.mono (fun i _ e => by have := HP.out.le; omega)))
              clear hR hk
              clear c0 c1 c2 c3 f1 hl b0 b2 b5 f5 lb hgr
              obtain ⟨c0, c1, c2, c3, f1, hl, b0, b2, b5, f5, lb, hgr⟩ := HP5.out.top
              rw [HEk.out] at b2
              go_wp2_with fail
              refine (ahead_is (p := ⟨#[60]⟩) HP5.out.rd hs H60.out).mono ?_
              rintro e w6 ⟨rfl, hR, hk⟩
              have HP6 := Lib.hid (HP5.out.reader hR hk)
              have HK6 := Lib.hid (HK5.out.trans (hk.mono (fun i _ e => by have := HP.out.le; omega)))
              clear hR hk
              clear c0 c1 c2 c3 f1 hl b0 b2 b5 f5 lb hgr
              obtain ⟨c0, c1, c2, c3, f1, hl, b0, b2, b5, f5, lb, hgr⟩ := HP6.out.top
              rw [HEk.out] at b2
              go_wp2_with fail
              refine (ahead_is (p := ⟨#[60]⟩) HP6.out.rd hs H60.out).mono ?_
              rintro e w7 ⟨rfl, hR, hk⟩
              have HP7 := Lib.hid (HP6.out.reader hR hk)
              have HK7 := Lib.hid (HK6.out.trans (hk.mono (fun i _ e => by have := HP.out.le; omega)))
              clear hR hk
              clear c0 c1 c2 c3 f1 hl b0 b2 b5 f5 lb hgr
              obtain ⟨c0, c1, c2, c3, f1, hl, b0, b2, b5, f5, lb, hgr⟩ := HP7.out.top
              rw [HEk.out] at b2
              go_wp2_with fail
              cases h38 : pre [38] ((bs s).drop k) with
              | true =>
                have H38 := Lib.hid h38
                clear h38
                refine (ahead_is (p := ⟨#[38]⟩) HP7.out.rd hs H38.out).mono ?_
                rintro e w8 ⟨rfl, hR, hk⟩
                have HP8 := Lib.hid (HP7.out.reader hR hk)
                have HK8 := Lib.hid (HK7.out.trans (hk.mono (fun i _ e => by have := HP.out.le; omega)))
                clear hR hk
                clear c0 c1 c2 c3 f1 hl b0 b2 b5 f5 lb hgr
                obtain ⟨c0, c1, c2, c3, f1, hl, b0, b2, b5, f5, lb, hgr⟩ := HP8.out.top
                rw [HEk.out] at b2
                go_wp2_with fail
                have HP9 := Lib.hid (HP8.out.solid true)
                have HK9 := Lib.hid (HK8.out.set (p := ⟨g.blk, 5, none⟩) (fun _ => .inr (HP8.out.open_ g (by simp)).2.1) (.bool true))
                have HG9 := Lib.hid (HG.out.keep HK9.out (fun i hi h => by have := HP.out.le; omega))
                generalize w8.setCell ⟨g.blk, 5, none⟩ (.bool true) = w9 at HP9 HK9 HG9 ⊢
                clear c0 c1 c2 c3 f1 hl b0 b2 b5 f5 lb hgr
                have ho9 := HP9.out.open_ (g.told g.text g.a g.u true) (by simp)
                have hrf := reference_any w9 base r g.blk s ⟨k, none⟩ rfl _ HP9.out.rd hs HG9.out (by have := HP.out.le; omega) (by have : base ≤ g.blk := ho9.2.1; omega) _ _ _ _ _ _ g.text ho9.1 ho9.2.2.1 ho9.2.2.2.1 (by omega) HP9.out.size hb3
                refine hrf.mono ?_
                rintro e w10 ⟨rfl, hpost⟩
                obtain ⟨q, hq⟩ : ∃ q, refR ((bs s).drop k) = q := ⟨_, rfl⟩
                dsimp only at hpost
                rw [hq] at hpost
                have Hq := Lib.hid hq
                clear hrf ho9 hq
                cases q with
                | is o m =>
                  obtain ⟨u', hR10, hB10, hO10, hK10, hN10⟩ := hpost
                  have hP10 := HP9.out.text (t := g.text ++ o) hR10 hK10 hB10 (.inr rfl) (by rw [List.length_append, u8s_append]; exact hO10) (fun h => absurd (List.append_eq_nil_iff.1 h).2 (refR_ne Hq.out)) hN10
                  have HP10 := Lib.hid hP10
                  have HK10 := Lib.hid (HK9.out.trans' hK10 (fun i hi h => by
                    rcases h with rfl | rfl | h
                    · exact .inl rfl
                    · exact .inr (HP9.out.open_ (g.told g.text g.a g.u true) (by simp)).2.1
                    · exact .inr (own_lt (HP9.out.open_ (g.told g.text g.a g.u true) (by simp)).2.2.2.1 h).2))
                  clear hR10 hB10 hO10 hK10 hN10 hP10
                  go_wp2_with fail
                  go_end0
                  have hXe : X = (⟨k + m, none⟩, { g.os with text := g.os.text ++ o, solid := true } :: G.map OG.os) := by
                    rw [← HX.out]; unfold withinS; rw [HDec.out]; dsimp only
                    rw [if_neg (by rw [beq_eq_false_iff_ne] at hnz; omega), if_neg (by rintro ⟨h, _⟩; rw [H60.out] at h; cases h), if_neg (by rw [H47.out]; decide), if_neg (by rw [H60.out]; decide), if_neg H6.out, if_pos H38.out, Hq.out]
                  rw [hXe]
                  exact ⟨rfl, _, _, HP10.out, rfl, HK10.out⟩
                | bad sh =>
                  obtain ⟨hR10, hK10⟩ := hpost
                  have HP10 := Lib.hid (HP9.out.reader hR10 hK10)
                  have HK10 := Lib.hid (HK9.out.trans (hK10.mono (fun i _ e => by have := HP.out.le; omega)))
                  clear hR10 hK10
                  go_wp2_with fail
                  go_end0
                  have hXe : X = (⟨k, some (55, if sh then s.size else k)⟩, { g.os with solid := true } :: G.map OG.os) := by
                    rw [← HX.out]; unfold withinS; rw [HDec.out]; dsimp only
                    rw [if_neg (by rw [beq_eq_false_iff_ne] at hnz; omega), if_neg (by rintro ⟨h, _⟩; rw [H60.out] at h; cases h), if_neg (by rw [H47.out]; decide), if_neg (by rw [H60.out]; decide), if_neg H6.out, if_pos H38.out, Hq.out, bs_length]
                  rw [hXe]
                  exact ⟨rfl, _, _, HP10.out, rfl, HK10.out⟩
              | false =>
                have H38 := Lib.hid h38
                clear h38
                by_cases hce : c = 65533
                · have hceB : ((c : Int) == 65533) = true := by rw [beq_iff_eq]; omega
                  by_cases hn1 : n = 1
                  · have hn1B : ((n : Int) == 1) = true := by rw [beq_iff_eq]; omega
                    have hboth := Lib.hid (And.intro hce hn1)
                    clear hce hn1
                    refine (ahead_is (p := ⟨#[38]⟩) HP7.out.rd hs H38.out).mono ?_
                    rintro e w8 ⟨rfl, hR, hk⟩
                    have HP8 := Lib.hid (HP7.out.reader hR hk)
                    have HK8 := Lib.hid (HK7.out.trans (hk.mono (fun i _ e => by have := HP.out.le; omega)))
                    clear hR hk
                    clear c0 c1 c2 c3 f1 hl b0 b2 b5 f5 lb hgr
                    obtain ⟨c0, c1, c2, c3, f1, hl, b0, b2, b5, f5, lb, hgr⟩ := HP8.out.top
                    rw [HEk.out] at b2
                    go_wp2_with fail
                    refine (fail_any r s ⟨k, none⟩ _ 55 _ w8 HP8.out.rd).mono ?_
                    rintro e wf ⟨rfl, hR, hk⟩
                    have HPf := Lib.hid (HP8.out.reader hR hk)
                    have HKf := Lib.hid (HK8.out.trans (hk.mono (fun i _ e => by have := HP.out.le; omega)))
                    clear hR hk
                    clear c0 c1 c2 c3 f1 hl b0 b2 b5 f5 lb hgr
                    go_wp2_with fail
                    go_end0
                    have hXe : X = (⟨k, some (55, k)⟩, g.os :: G.map OG.os) := by
                      rw [← HX.out]; unfold withinS; rw [HDec.out]; dsimp only
                      rw [if_neg (by rw [beq_eq_false_iff_ne] at hnz; omega), if_neg (by rintro ⟨h, _⟩; rw [H60.out] at h; cases h), if_neg (by rw [H47.out]; decide), if_neg (by rw [H60.out]; decide), if_neg H6.out, if_neg (by rw [H38.out]; decide), if_pos (.inl hboth.out)]
                    rw [hXe]
                    exact ⟨rfl, _, _, HPf.out, rfl, HKf.out⟩
                  · have hn1B : ((n : Int) == 1) = false := by rw [beq_eq_false_iff_ne]; omega
                    have hbad : ¬ (c = 65533 ∧ n = 1) := fun h => hn1 h.2
                    clear hce
                    cases hkn : knowsB c with
                    | false =>
                      refine (ahead_is (p := ⟨#[38]⟩) HP7.out.rd hs H38.out).mono ?_
                      rintro e w8 ⟨rfl, hR, hk⟩
                      have HP8 := Lib.hid (HP7.out.reader hR hk)
                      have HK8 := Lib.hid (HK7.out.trans (hk.mono (fun i _ e => by have := HP.out.le; omega)))
                      clear hR hk
                      clear c0 c1 c2 c3 f1 hl b0 b2 b5 f5 lb hgr
                      obtain ⟨c0, c1, c2, c3, f1, hl, b0, b2, b5, f5, lb, hgr⟩ := HP8.out.top
                      rw [HEk.out] at b2
                      go_wp2_with fail
                      refine (knows_any c w8).mono ?_
                      rintro e w9 ⟨rfl, rfl⟩
                      rw [hkn]
                      go_wp2_with fail
                      refine (fail_any r s ⟨k, none⟩ _ 55 _ w8 HP8.out.rd).mono ?_
                      rintro e wf ⟨rfl, hR, hk⟩
                      have HPf := Lib.hid (HP8.out.reader hR hk)
                      have HKf := Lib.hid (HK8.out.trans (hk.mono (fun i _ e => by have := HP.out.le; omega)))
                      clear hR hk
                      clear c0 c1 c2 c3 f1 hl b0 b2 b5 f5 lb hgr
                      go_wp2_with fail
                      go_end0
                      have hXe : X = (⟨k, some (55, k)⟩, g.os :: G.map OG.os) := by
                        rw [← HX.out]; unfold withinS; rw [HDec.out]; dsimp only
                        rw [if_neg (by rw [beq_eq_false_iff_ne] at hnz; omega), if_neg (by rintro ⟨h, _⟩; rw [H60.out] at h; cases h), if_neg (by rw [H47.out]; decide), if_neg (by rw [H60.out]; decide), if_neg H6.out, if_neg (by rw [H38.out]; decide), if_pos (.inr hkn)]
                      rw [hXe]
                      exact ⟨rfl, _, _, HPf.out, rfl, HKf.out⟩
                    | true =>
                      have HNb : Hid (¬ ((c = 65533 ∧ n = 1) ∨ knowsB c = false)) := by
                        show ¬ _
                        rintro (h | h)
                        · exact hbad h
                        · rw [hkn] at h; cases h
                      cases hsd : g.solid with
                      | true =>
                        have Hsd := Lib.hid hsd
                        rw [hsd] at b5
                        clear hsd
                        refine (ahead_is (p := ⟨#[38]⟩) HP7.out.rd hs H38.out).mono ?_
                        rintro e w8 ⟨rfl, hR, hk⟩
                        have HP8 := Lib.hid (HP7.out.reader hR hk)
                        have HK8 := Lib.hid (HK7.out.trans (hk.mono (fun i _ e => by have := HP.out.le; omega)))
                        clear hR hk
                        clear c0 c1 c2 c3 f1 hl b0 b2 b5 f5 lb hgr
                        obtain ⟨c0, c1, c2, c3, f1, hl, b0, b2, b5, f5, lb, hgr⟩ := HP8.out.top
                        rw [HEk.out] at b2
                        rw [Hsd.out] at b5
                        go_wp2_with fail
                        refine (knows_any c w8).mono ?_
                        rintro e w9 ⟨rfl, rfl⟩
                        rw [hkn]
                        go_wp2_with fail
                        have HP9 := Lib.hid (HP8.out.solid true)
                        have HK9 := Lib.hid (HK8.out.set (p := ⟨g.blk, 5, none⟩) (fun _ => .inr (HP8.out.open_ g (by simp)).2.1) (.bool true))
                        generalize w8.setCell ⟨g.blk, 5, none⟩ (.bool true) = w9 at HP9 HK9 ⊢
                        clear c0 c1 c2 c3 f1 hl b0 b2 b5 f5 lb hgr
                        have ho9 := HP9.out.open_ (g.told g.text g.a g.u true) (by simp)
                        refine (writeRune_at g.blk _ _ _ _ _ _ g.text base c w9 ho9.1 ho9.2.2.1 ho9.2.2.2.1 (by omega) (by omega) (by omega) HP9.out.size).mono ?_
                        rintro e w10 ⟨nn, u', rfl, hB10, hO10, hK10, hN10⟩
                        have hR10 := wrote_rd HP9.out.rd ho9.1 ho9.2.2.2.1 hK10
                        have hP10 := HP9.out.text (t := g.text ++ encR c) hR10 (hK10.mono (fun i _ h => .inr h)) hB10 (.inr rfl) (by rw [List.length_append, u8s_append, u8s_encR, show (encR c).length = (Lib.runeCells c).length by rw [← u8s_encR, u8s_length]]; exact hO10) (fun h => absurd (List.append_eq_nil_iff.1 h).2 (encR_ne c)) hN10
                        have HP10 := Lib.hid hP10
                        have HK10 := Lib.hid (HK9.out.trans' hK10 (fun i hi h => by
                          rcases h with rfl | h
                          · exact .inr ho9.2.1
                          · exact .inr (own_lt ho9.2.2.2.1 h).2))
                        clear hR10 hB10 hO10 hK10 hN10 ho9
                        obtain ⟨c0, c1, c3, f1, f3, hl⟩ := hP10.rd.cells
                        clear hP10
                        have sn : IntKind.i64.wrap ((k : Int) + n) = (k : Int) + n := by rw [IntWalk.i64_in _ (by omega)]
                        go_wp2_with fail
                        have hR11 := HP10.out.rd.step (k + n) (by omega) (v := .int .i64 ((k : Int) + n)) (by go_num)
                        have HP11 := Lib.hid (HP10.out.reader hR11 ((Keeps.refl (· = r) w10).set1 1 _))
                        have HK11 := Lib.hid (HK10.out.trans (((Keeps.refl (· = r) w10).set1 1 (.int .i64 ((k : Int) + n))).mono (D' := fun k => k = r ∨ base ≤ k) (fun i _ e => by have := HP.out.le; omega)))
                        go_end0
                        have hXe : X = (⟨k + n, none⟩, { g.os with text := g.os.text ++ encR c, solid := g.os.solid || solidR c } :: G.map OG.os) := by
                          rw [← HX.out]; unfold withinS; rw [HDec.out]; dsimp only
                          rw [if_neg (by rw [beq_eq_false_iff_ne] at hnz; omega), if_neg (by rintro ⟨h, _⟩; rw [H60.out] at h; cases h), if_neg (by rw [H47.out]; decide), if_neg (by rw [H60.out]; decide), if_neg H6.out, if_neg (by rw [H38.out]; decide), if_neg HNb.out]
                        rw [hXe]
                        refine ⟨rfl, _, _, HP11.out, ?_, HK11.out⟩
                        rw [show g.os.solid = g.solid from rfl, Hsd.out, Bool.true_or]
                        rfl
                      | false =>
                        have Hsd := Lib.hid hsd
                        rw [hsd] at b5
                        clear hsd
                        refine (ahead_is (p := ⟨#[38]⟩) HP7.out.rd hs H38.out).mono ?_
                        rintro e w8 ⟨rfl, hR, hk⟩
                        have HP8 := Lib.hid (HP7.out.reader hR hk)
                        have HK8 := Lib.hid (HK7.out.trans (hk.mono (fun i _ e => by have := HP.out.le; omega)))
                        clear hR hk
                        clear c0 c1 c2 c3 f1 hl b0 b2 b5 f5 lb hgr
                        obtain ⟨c0, c1, c2, c3, f1, hl, b0, b2, b5, f5, lb, hgr⟩ := HP8.out.top
                        rw [HEk.out] at b2
                        rw [Hsd.out] at b5
                        go_wp2_with fail
                        refine (knows_any c w8).mono ?_
                        rintro e w9 ⟨rfl, rfl⟩
                        rw [hkn]
                        go_wp2_with fail
                        have HP9 := Lib.hid (HP8.out.solid false)
                        have HK9 := Lib.hid (HK8.out.set (p := ⟨g.blk, 5, none⟩) (fun _ => .inr (HP8.out.open_ g (by simp)).2.1) (.bool false))
                        generalize w8.setCell ⟨g.blk, 5, none⟩ (.bool false) = w9 at HP9 HK9 ⊢
                        clear c0 c1 c2 c3 f1 hl b0 b2 b5 f5 lb hgr
                        have ho9 := HP9.out.open_ (g.told g.text g.a g.u false) (by simp)
                        refine (writeRune_at g.blk _ _ _ _ _ _ g.text base c w9 ho9.1 ho9.2.2.1 ho9.2.2.2.1 (by omega) (by omega) (by omega) HP9.out.size).mono ?_
                        rintro e w10 ⟨nn, u', rfl, hB10, hO10, hK10, hN10⟩
                        have hR10 := wrote_rd HP9.out.rd ho9.1 ho9.2.2.2.1 hK10
                        have hP10 := HP9.out.text (t := g.text ++ encR c) hR10 (hK10.mono (fun i _ h => .inr h)) hB10 (.inr rfl) (by rw [List.length_append, u8s_append, u8s_encR, show (encR c).length = (Lib.runeCells c).length by rw [← u8s_encR, u8s_length]]; exact hO10) (fun h => absurd (List.append_eq_nil_iff.1 h).2 (encR_ne c)) hN10
                        have HP10 := Lib.hid hP10
                        have HK10 := Lib.hid (HK9.out.trans' hK10 (fun i hi h => by
                          rcases h with rfl | h
                          · exact .inr ho9.2.1
                          · exact .inr (own_lt ho9.2.2.2.1 h).2))
                        clear hR10 hB10 hO10 hK10 hN10 ho9
                        obtain ⟨c0, c1, c3, f1, f3, hl⟩ := hP10.rd.cells
                        clear hP10
                        have sn : IntKind.i64.wrap ((k : Int) + n) = (k : Int) + n := by rw [IntWalk.i64_in _ (by omega)]
                        go_wp2_with fail
                        have hR11 := HP10.out.rd.step (k + n) (by omega) (v := .int .i64 ((k : Int) + n)) (by go_num)
                        have HP11 := Lib.hid (HP10.out.reader hR11 ((Keeps.refl (· = r) w10).set1 1 _))
                        have HK11 := Lib.hid (HK10.out.trans (((Keeps.refl (· = r) w10).set1 1 (.int .i64 ((k : Int) + n))).mono (D' := fun k => k = r ∨ base ≤ k) (fun i _ e => by have := HP.out.le; omega)))
                        go_end0
                        have hXe : X = (⟨k + n, none⟩, { g.os with text := g.os.text ++ encR c, solid := g.os.solid || solidR c } :: G.map OG.os) := by
                          rw [← HX.out]; unfold withinS; rw [HDec.out]; dsimp only
                          rw [if_neg (by rw [beq_eq_false_iff_ne] at hnz; omega), if_neg (by rintro ⟨h, _⟩; rw [H60.out] at h; cases h), if_neg (by rw [H47.out]; decide), if_neg (by rw [H60.out]; decide), if_neg H6.out, if_neg (by rw [H38.out]; decide), if_neg HNb.out]
                        rw [hXe]
                        refine ⟨rfl, _, _, HP11.out, ?_, HK11.out⟩
                        rw [show g.os.solid = g.solid from rfl, Hsd.out, HSv.out]
                        rfl
                · have hceB : ((c : Int) == 65533) = false := by rw [beq_eq_false_iff_ne]; omega
                  have hbad : ¬ (c = 65533 ∧ n = 1) := fun h => hce h.1
                  cases hkn : knowsB c with
                  | false =>
                    refine (ahead_is (p := ⟨#[38]⟩) HP7.out.rd hs H38.out).mono ?_
                    rintro e w8 ⟨rfl, hR, hk⟩
                    have HP8 := Lib.hid (HP7.out.reader hR hk)
                    have HK8 := Lib.hid (HK7.out.trans (hk.mono (fun i _ e => by have := HP.out.le; omega)))
                    clear hR hk
                    clear c0 c1 c2 c3 f1 hl b0 b2 b5 f5 lb hgr
                    obtain ⟨c0, c1, c2, c3, f1, hl, b0, b2, b5, f5, lb, hgr⟩ := HP8.out.top
                    rw [HEk.out] at b2
                    go_wp2_with fail
                    refine (knows_any c w8).mono ?_
                    rintro e w9 ⟨rfl, rfl⟩
                    rw [hkn]
                    go_wp2_with fail
                    refine (fail_any r s ⟨k, none⟩ _ 55 _ w8 HP8.out.rd).mono ?_
                    rintro e wf ⟨rfl, hR, hk⟩
                    have HPf := Lib.hid (HP8.out.reader hR hk)
                    have HKf := Lib.hid (HK8.out.trans (hk.mono (fun i _ e => by have := HP.out.le; omega)))
                    clear hR hk
                    clear c0 c1 c2 c3 f1 hl b0 b2 b5 f5 lb hgr
                    go_wp2_with fail
                    go_end0
                    have hXe : X = (⟨k, some (55, k)⟩, g.os :: G.map OG.os) := by
                      rw [← HX.out]; unfold withinS; rw [HDec.out]; dsimp only
                      rw [if_neg (by rw [beq_eq_false_iff_ne] at hnz; omega), if_neg (by rintro ⟨h, _⟩; rw [H60.out] at h; cases h), if_neg (by rw [H47.out]; decide), if_neg (by rw [H60.out]; decide), if_neg H6.out, if_neg (by rw [H38.out]; decide), if_pos (.inr hkn)]
                    rw [hXe]
                    exact ⟨rfl, _, _, HPf.out, rfl, HKf.out⟩
                  | true =>
                    have HNb : Hid (¬ ((c = 65533 ∧ n = 1) ∨ knowsB c = false)) := by
                      show ¬ _
                      rintro (h | h)
                      · exact hbad h
                      · rw [hkn] at h; cases h
                    cases hsd : g.solid with
                    | true =>
                      have Hsd := Lib.hid hsd
                      rw [hsd] at b5
                      clear hsd
                      refine (ahead_is (p := ⟨#[38]⟩) HP7.out.rd hs H38.out).mono ?_
                      rintro e w8 ⟨rfl, hR, hk⟩
                      have HP8 := Lib.hid (HP7.out.reader hR hk)
                      have HK8 := Lib.hid (HK7.out.trans (hk.mono (fun i _ e => by have := HP.out.le; omega)))
                      clear hR hk
                      clear c0 c1 c2 c3 f1 hl b0 b2 b5 f5 lb hgr
                      obtain ⟨c0, c1, c2, c3, f1, hl, b0, b2, b5, f5, lb, hgr⟩ := HP8.out.top
                      rw [HEk.out] at b2
                      rw [Hsd.out] at b5
                      go_wp2_with fail
                      refine (knows_any c w8).mono ?_
                      rintro e w9 ⟨rfl, rfl⟩
                      rw [hkn]
                      go_wp2_with fail
                      have HP9 := Lib.hid (HP8.out.solid true)
                      have HK9 := Lib.hid (HK8.out.set (p := ⟨g.blk, 5, none⟩) (fun _ => .inr (HP8.out.open_ g (by simp)).2.1) (.bool true))
                      generalize w8.setCell ⟨g.blk, 5, none⟩ (.bool true) = w9 at HP9 HK9 ⊢
                      clear c0 c1 c2 c3 f1 hl b0 b2 b5 f5 lb hgr
                      have ho9 := HP9.out.open_ (g.told g.text g.a g.u true) (by simp)
                      refine (writeRune_at g.blk _ _ _ _ _ _ g.text base c w9 ho9.1 ho9.2.2.1 ho9.2.2.2.1 (by omega) (by omega) (by omega) HP9.out.size).mono ?_
                      rintro e w10 ⟨nn, u', rfl, hB10, hO10, hK10, hN10⟩
                      have hR10 := wrote_rd HP9.out.rd ho9.1 ho9.2.2.2.1 hK10
                      have hP10 := HP9.out.text (t := g.text ++ encR c) hR10 (hK10.mono (fun i _ h => .inr h)) hB10 (.inr rfl) (by rw [List.length_append, u8s_append, u8s_encR, show (encR c).length = (Lib.runeCells c).length by rw [← u8s_encR, u8s_length]]; exact hO10) (fun h => absurd (List.append_eq_nil_iff.1 h).2 (encR_ne c)) hN10
                      have HP10 := Lib.hid hP10
                      have HK10 := Lib.hid (HK9.out.trans' hK10 (fun i hi h => by
                        rcases h with rfl | h
                        · exact .inr ho9.2.1
                        · exact .inr (own_lt ho9.2.2.2.1 h).2))
                      clear hR10 hB10 hO10 hK10 hN10 ho9
                      obtain ⟨c0, c1, c3, f1, f3, hl⟩ := hP10.rd.cells
                      clear hP10
                      have sn : IntKind.i64.wrap ((k : Int) + n) = (k : Int) + n := by rw [IntWalk.i64_in _ (by omega)]
                      go_wp2_with fail
                      have hR11 := HP10.out.rd.step (k + n) (by omega) (v := .int .i64 ((k : Int) + n)) (by go_num)
                      have HP11 := Lib.hid (HP10.out.reader hR11 ((Keeps.refl (· = r) w10).set1 1 _))
                      have HK11 := Lib.hid (HK10.out.trans (((Keeps.refl (· = r) w10).set1 1 (.int .i64 ((k : Int) + n))).mono (D' := fun k => k = r ∨ base ≤ k) (fun i _ e => by have := HP.out.le; omega)))
                      go_end0
                      have hXe : X = (⟨k + n, none⟩, { g.os with text := g.os.text ++ encR c, solid := g.os.solid || solidR c } :: G.map OG.os) := by
                        rw [← HX.out]; unfold withinS; rw [HDec.out]; dsimp only
                        rw [if_neg (by rw [beq_eq_false_iff_ne] at hnz; omega), if_neg (by rintro ⟨h, _⟩; rw [H60.out] at h; cases h), if_neg (by rw [H47.out]; decide), if_neg (by rw [H60.out]; decide), if_neg H6.out, if_neg (by rw [H38.out]; decide), if_neg HNb.out]
                      rw [hXe]
                      refine ⟨rfl, _, _, HP11.out, ?_, HK11.out⟩
                      rw [show g.os.solid = g.solid from rfl, Hsd.out, Bool.true_or]
                      rfl
                    | false =>
                      have Hsd := Lib.hid hsd
                      rw [hsd] at b5
                      clear hsd
                      refine (ahead_is (p := ⟨#[38]⟩) HP7.out.rd hs H38.out).mono ?_
                      rintro e w8 ⟨rfl, hR, hk⟩
                      have HP8 := Lib.hid (HP7.out.reader hR hk)
                      have HK8 := Lib.hid (HK7.out.trans (hk.mono (fun i _ e => by have := HP.out.le; omega)))
                      clear hR hk
                      clear c0 c1 c2 c3 f1 hl b0 b2 b5 f5 lb hgr
                      obtain ⟨c0, c1, c2, c3, f1, hl, b0, b2, b5, f5, lb, hgr⟩ := HP8.out.top
                      rw [HEk.out] at b2
                      rw [Hsd.out] at b5
                      go_wp2_with fail
                      refine (knows_any c w8).mono ?_
                      rintro e w9 ⟨rfl, rfl⟩
                      rw [hkn]
                      go_wp2_with fail
                      have HP9 := Lib.hid (HP8.out.solid false)
                      have HK9 := Lib.hid (HK8.out.set (p := ⟨g.blk, 5, none⟩) (fun _ => .inr (HP8.out.open_ g (by simp)).2.1) (.bool false))
                      generalize w8.setCell ⟨g.blk, 5, none⟩ (.bool false) = w9 at HP9 HK9 ⊢
                      clear c0 c1 c2 c3 f1 hl b0 b2 b5 f5 lb hgr
                      have ho9 := HP9.out.open_ (g.told g.text g.a g.u false) (by simp)
                      refine (writeRune_at g.blk _ _ _ _ _ _ g.text base c w9 ho9.1 ho9.2.2.1 ho9.2.2.2.1 (by omega) (by omega) (by omega) HP9.out.size).mono ?_
                      rintro e w10 ⟨nn, u', rfl, hB10, hO10, hK10, hN10⟩
                      have hR10 := wrote_rd HP9.out.rd ho9.1 ho9.2.2.2.1 hK10
                      have hP10 := HP9.out.text (t := g.text ++ encR c) hR10 (hK10.mono (fun i _ h => .inr h)) hB10 (.inr rfl) (by rw [List.length_append, u8s_append, u8s_encR, show (encR c).length = (Lib.runeCells c).length by rw [← u8s_encR, u8s_length]]; exact hO10) (fun h => absurd (List.append_eq_nil_iff.1 h).2 (encR_ne c)) hN10
                      have HP10 := Lib.hid hP10
                      have HK10 := Lib.hid (HK9.out.trans' hK10 (fun i hi h => by
                        rcases h with rfl | h
                        · exact .inr ho9.2.1
                        · exact .inr (own_lt ho9.2.2.2.1 h).2))
                      clear hR10 hB10 hO10 hK10 hN10 ho9
                      obtain ⟨c0, c1, c3, f1, f3, hl⟩ := hP10.rd.cells
                      clear hP10
                      have sn : IntKind.i64.wrap ((k : Int) + n) = (k : Int) + n := by rw [IntWalk.i64_in _ (by omega)]
                      go_wp2_with fail
                      have hR11 := HP10.out.rd.step (k + n) (by omega) (v := .int .i64 ((k : Int) + n)) (by go_num)
                      have HP11 := Lib.hid (HP10.out.reader hR11 ((Keeps.refl (· = r) w10).set1 1 _))
                      have HK11 := Lib.hid (HK10.out.trans (((Keeps.refl (· = r) w10).set1 1 (.int .i64 ((k : Int) + n))).mono (D' := fun k => k = r ∨ base ≤ k) (fun i _ e => by have := HP.out.le; omega)))
                      go_end0
                      have hXe : X = (⟨k + n, none⟩, { g.os with text := g.os.text ++ encR c, solid := g.os.solid || solidR c } :: G.map OG.os) := by
                        rw [← HX.out]; unfold withinS; rw [HDec.out]; dsimp only
                        rw [if_neg (by rw [beq_eq_false_iff_ne] at hnz; omega), if_neg (by rintro ⟨h, _⟩; rw [H60.out] at h; cases h), if_neg (by rw [H47.out]; decide), if_neg (by rw [H60.out]; decide), if_neg H6.out, if_neg (by rw [H38.out]; decide), if_neg HNb.out]
                      rw [hXe]
                      refine ⟨rfl, _, _, HP11.out, ?_, HK11.out⟩
                      rw [show g.os.solid = g.solid from rfl, Hsd.out, HSv.out]
                      rfl

        · have hk0' : ¬ ((0 : Int) < (g.kids.length : Int)) := by omega
          have H6 : Hid (¬ (0 < g.os.kids.length ∧ solidR c = true)) := by
            show ¬ _
            rintro ⟨h, _⟩; exact hk0 h
          refine (ahead_is (p := ⟨#[60, 47]⟩) HP4.out.rd hs H47.out).mono ?_
          rintro e w5 ⟨rfl, hR, hk⟩
          have HP5 := Lib.hid (HP4.out.reader hR hk)
          have HK5 := Lib.hid (HK4.out.trans (hk.mono (fun i _ e => by have := HP.out.le; omega)))
          clear hR hk
          clear c0 c1 c2 c3 f1 hl b0 b2 b5 f5 lb hgr
          obtain ⟨c0, c1, c2, c3, f1, hl, b0, b2, b5, f5, lb, hgr⟩ := HP5.out.top
          rw [HEk.out] at b2
          go_wp2_with fail
          refine (ahead_is (p := ⟨#[60]⟩) HP5.out.rd hs H60.out).mono ?_
          rintro e w6 ⟨rfl, hR, hk⟩
          have HP6 := Lib.hid (HP5.out.reader hR hk)
          have HK6 := Lib.hid (HK5.out.trans (hk.mono (fun i _ e => by have := HP.out.le; omega)))
          clear hR hk
          clear c0 c1 c2 c3 f1 hl b0 b2 b5 f5 lb hgr
          obtain ⟨c0, c1, c2, c3, f1, hl, b0, b2, b5, f5, lb, hgr⟩ := HP6.out.top
          rw [HEk.out] at b2
          go_wp2_with fail
          refine (ahead_is (p := ⟨#[60]⟩) HP6.out.rd hs H60.out).mono ?_
          rintro e w7 ⟨rfl, hR, hk⟩
          have HP7 := Lib.hid (HP6.out.reader hR hk)
          have HK7 := Lib.hid (HK6.out.trans (hk.mono (fun i _ e => by have := HP.out.le; omega)))
          clear hR hk
          clear c0 c1 c2 c3 f1 hl b0 b2 b5 f5 lb hgr
          obtain ⟨c0, c1, c2, c3, f1, hl, b0, b2, b5, f5, lb, hgr⟩ := HP7.out.top
          rw [HEk.out] at b2
          go_wp2_with fail
          cases h38 : pre [38] ((bs s).drop k) with
          | true =>
            have H38 := Lib.hid h38
            clear h38
            refine (ahead_is (p := ⟨#[38]⟩) HP7.out.rd hs H38.out).mono ?_
            rintro e w8 ⟨rfl, hR, hk⟩
            have HP8 := Lib.hid (HP7.out.reader hR hk)
            have HK8 := Lib.hid (HK7.out.trans (hk.mono (fun i _ e => by have := HP.out.le; omega)))
            clear hR hk
            clear c0 c1 c2 c3 f1 hl b0 b2 b5 f5 lb hgr
            obtain ⟨c0, c1, c2, c3, f1, hl, b0, b2, b5, f5, lb, hgr⟩ := HP8.out.top
            rw [HEk.out] at b2
            go_wp2_with fail
            have HP9 := Lib.hid (HP8.out.solid true)
            have HK9 := Lib.hid (HK8.out.set (p := ⟨g.blk, 5, none⟩) (fun _ => .inr (HP8.out.open_ g (by simp)).2.1) (.bool true))
            have HG9 := Lib.hid (HG.out.keep HK9.out (fun i hi h => by have := HP.out.le; omega))
            generalize w8.setCell ⟨g.blk, 5, none⟩ (.bool true) = w9 at HP9 HK9 HG9 ⊢
            clear c0 c1 c2 c3 f1 hl b0 b2 b5 f5 lb hgr
            have ho9 := HP9.out.open_ (g.told g.text g.a g.u true) (by simp)
            have hrf := reference_any w9 base r g.blk s ⟨k, none⟩ rfl _ HP9.out.rd hs HG9.out (by have := HP.out.le; omega) (by have : base ≤ g.blk := ho9.2.1; omega) _ _ _ _ _ _ g.text ho9.1 ho9.2.2.1 ho9.2.2.2.1 (by omega) HP9.out.size hb3
            refine hrf.mono ?_
            rintro e w10 ⟨rfl, hpost⟩
            obtain ⟨q, hq⟩ : ∃ q, refR ((bs s).drop k) = q := ⟨_, rfl⟩
            dsimp only at hpost
            rw [hq] at hpost
            have Hq := Lib.hid hq
            clear hrf ho9 hq
            cases q with
            | is o m =>
              obtain ⟨u', hR10, hB10, hO10, hK10, hN10⟩ := hpost
              have hP10 := HP9.out.text (t := g.text ++ o) hR10 hK10 hB10 (.inr rfl) (by rw [List.length_append, u8s_append]; exact hO10) (fun h => absurd (List.append_eq_nil_iff.1 h).2 (refR_ne Hq.out)) hN10
              have HP10 := Lib.hid hP10
              have HK10 := Lib.hid (HK9.out.trans' hK10 (fun i hi h => by
                rcases h with rfl | rfl | h
                · exact .inl rfl
                · exact .inr (HP9.out.open_ (g.told g.text g.a g.u true) (by simp)).2.1
                · exact .inr (own_lt (HP9.out.open_ (g.told g.text g.a g.u true) (by simp)).2.2.2.1 h).2))
              clear hR10 hB10 hO10 hK10 hN10 hP10
              go_wp2_with fail
              go_end0
              have hXe : X = (⟨k + m, none⟩, { g.os with text := g.os.text ++ o, solid := true } :: G.map OG.os) := by
                rw [← HX.out]; unfold withinS; rw [HDec.out]; dsimp only
                rw [if_neg (by rw [beq_eq_false_iff_ne] at hnz; omega), if_neg (by rintro ⟨h, _⟩; rw [H60.out] at h; cases h), if_neg (by rw [H47.out]; decide), if_neg (by rw [H60.out]; decide), if_neg H6.out, if_pos H38.out, Hq.out]
              rw [hXe]
              exact ⟨rfl, _, _, HP10.out, rfl, HK10.out⟩
            | bad sh =>
              obtain ⟨hR10, hK10⟩ := hpost
              have HP10 := Lib.hid (HP9.out.reader hR10 hK10)
              have HK10 := Lib.hid (HK9.out.trans (hK10.mono (fun i _ e => by have := HP.out.le; omega)))
              clear hR10 hK10
              go_wp2_with fail
              go_end0
              have hXe : X = (⟨k, some (55, if sh then s.size else k)⟩, { g.os with solid := true } :: G.map OG.os) := by
                rw [← HX.out]; unfold withinS; rw [HDec.out]; dsimp only
                rw [if_neg (by rw [beq_eq_false_iff_ne] at hnz; omega), if_neg (by rintro ⟨h, _⟩; rw [H60.out] at h; cases h), if_neg (by rw [H47.out]; decide), if_neg (by rw [H60.out]; decide), if_neg H6.out, if_pos H38.out, Hq.out, bs_length]
              rw [hXe]
              exact ⟨rfl, _, _, HP10.out, rfl, HK10.out⟩
          | false =>
            have H38 := Lib.hid h38
            clear h38
            by_cases hce : c = 65533
            · have hceB : ((c : Int) == 65533) = true := by rw [beq_iff_eq]; omega
              by_cases hn1 : n = 1
              · have hn1B : ((n : Int) == 1) = true := by rw [beq_iff_eq]; omega
                have hboth := Lib.hid (And.intro hce hn1)
                clear hce hn1
                refine (ahead_is (p := ⟨#[38]⟩) HP7.out.rd hs H38.out).mono ?_
                rintro e w8 ⟨rfl, hR, hk⟩
                have HP8 := Lib.hid (HP7.out.reader hR hk)
                have HK8 := Lib.hid (HK7.out.trans (hk.mono (fun i _ e => by have := HP.out.le; omega)))
                clear hR hk
                clear c0 c1 c2 c3 f1 hl b0 b2 b5 f5 lb hgr
                obtain ⟨c0, c1, c2, c3, f1, hl, b0, b2, b5, f5, lb, hgr⟩ := HP8.out.top
                rw [HEk.out] at b2
                go_wp2_with fail
                refine (fail_any r s ⟨k, none⟩ _ 55 _ w8 HP8.out.rd).mono ?_
                rintro e wf ⟨rfl, hR, hk⟩
                have HPf := Lib.hid (HP8.out.reader hR hk)
                have HKf := Lib.hid (HK8.out.trans (hk.mono (fun i _ e => by have := HP.out.le; omega)))
                clear hR hk
                clear c0 c1 c2 c3 f1 hl b0 b2 b5 f5 lb hgr
                go_wp2_with fail
                go_end0
                have hXe : X = (⟨k, some (55, k)⟩, g.os :: G.map OG.os) := by
                  rw [← HX.out]; unfold withinS; rw [HDec.out]; dsimp only
                  rw [if_neg (by rw [beq_eq_false_iff_ne] at hnz; omega), if_neg (by rintro ⟨h, _⟩; rw [H60.out] at h; cases h), if_neg (by rw [H47.out]; decide), if_neg (by rw [H60.out]; decide), if_neg H6.out, if_neg (by rw [H38.out]; decide), if_pos (.inl hboth.out)]
                rw [hXe]
                exact ⟨rfl, _, _, HPf.out, rfl, HKf.out⟩
              · have hn1B : ((n : Int) == 1) = false := by rw [beq_eq_false_iff_ne]; omega
                have hbad : ¬ (c = 65533 ∧ n = 1) := fun h => hn1 h.2
                clear hce
                cases hkn : knowsB c with
                | false =>
                  refine (ahead_is (p := ⟨#[38]⟩) HP7.out.rd hs H38.out).mono ?_
                  rintro e w8 ⟨rfl, hR, hk⟩
                  have HP8 := Lib.hid (HP7.out.reader hR hk)
                  have HK8 := Lib.hid (HK7.out.trans (hk.mono (fun i _ e => by have := HP.out.le; omega)))
                  clear hR hk
                  clear c0 c1 c2 c3 f1 hl b0 b2 b5 f5 lb hgr
                  obtain ⟨c0, c1, c2, c3, f1, hl, b0, b2, b5, f5, lb, hgr⟩ := HP8.out.top
                  rw [HEk.out] at b2
                  go_wp2_with fail
                  refine (knows_any c w8).mono ?_
                  rintro e w9 ⟨rfl, rfl⟩
                  rw [hkn]
                  go_wp2_with fail
                  refine (fail_any r s ⟨k, none⟩ _ 55 _ w8 HP8.out.rd).mono ?_
                  rintro e wf ⟨rfl, hR, hk⟩
                  have HPf := Lib.hid (HP8.out.reader hR hk)
                  have HKf := Lib.hid (HK8.out.trans (hk.mono (fun i _ e => by have := HP.out.le; omega)))
                  clear hR hk
                  clear c0 c1 c2 c3 f1 hl b0 b2 b5 f5 lb hgr
                  go_wp2_with fail
                  go_end0
                  have hXe : X = (⟨k, some (55, k)⟩, g.os :: G.map OG.os) := by
                    rw [← HX.out]; unfold withinS; rw [HDec.out]; dsimp only
                    rw [if_neg (by rw [beq_eq_false_iff_ne] at hnz; omega), if_neg (by rintro ⟨h, _⟩; rw [H60.out] at h; cases h), if_neg (by rw [H47.out]; decide), if_neg (by rw [H60.out]; decide), if_neg H6.out, if_neg (by rw [H38.out]; decide), if_pos (.inr hkn)]
                  rw [hXe]
                  exact ⟨rfl, _, _, HPf.out, rfl, HKf.out⟩
                | true =>
                  have HNb : Hid (¬ ((c = 65533 ∧ n = 1) ∨ knowsB c = false)) := by
                    show ¬ _
                    rintro (h | h)
                    · exact hbad h
                    · rw [hkn] at h; cases h
                  cases hsd : g.solid with
                  | true =>
                    have Hsd := Lib.hid hsd
                    rw [hsd] at b5
                    clear hsd
                    refine (ahead_is (p := ⟨#[38]⟩) HP7.out.rd hs H38.out).mono ?_
                    rintro e w8 ⟨rfl, hR, hk⟩
                    have HP8 := Lib.hid (HP7.out.reader hR hk)
                    have HK8 := Lib.hid (HK7.out.trans (hk.mono (fun i _ e => by have := HP.out.le; omega)))
                    clear hR hk
                    clear c0 c1 c2 c3 f1 hl b0 b2 b5 f5 lb hgr
                    obtain ⟨c0, c1, c2, c3, f1, hl, b0, b2, b5, f5, lb, hgr⟩ := HP8.out.top
                    rw [HEk.out] at b2
                    rw [Hsd.out] at b5
                    go_wp2_with fail
                    refine (knows_any c w8).mono ?_
                    rintro e w9 ⟨rfl, rfl⟩
                    rw [hkn]
                    go_wp2_with fail
                    have HP9 := Lib.hid (HP8.out.solid true)
                    have HK9 := Lib.hid (HK8.out.set (p := ⟨g.blk, 5, none⟩) (fun _ => .inr (HP8.out.open_ g (by simp)).2.1) (.bool true))
                    generalize w8.setCell ⟨g.blk, 5, none⟩ (.bool true) = w9 at HP9 HK9 ⊢
                    clear c0 c1 c2 c3 f1 hl b0 b2 b5 f5 lb hgr
                    have ho9 := HP9.out.open_ (g.told g.text g.a g.u true) (by simp)
                    refine (writeRune_at g.blk _ _ _ _ _ _ g.text base c w9 ho9.1 ho9.2.2.1 ho9.2.2.2.1 (by omega) (by omega) (by omega) HP9.out.size).mono ?_
                    rintro e w10 ⟨nn, u', rfl, hB10, hO10, hK10, hN10⟩
                    have hR10 := wrote_rd HP9.out.rd ho9.1 ho9.2.2.2.1 hK10
                    have hP10 := HP9.out.text (t := g.text ++ encR c) hR10 (hK10.mono (fun i _ h => .inr h)) hB10 (.inr rfl) (by rw [List.length_append, u8s_append, u8s_encR, show (encR c).length = (Lib.runeCells c).length by rw [← u8s_encR, u8s_length]]; exact hO10) (fun h => absurd (List.append_eq_nil_iff.1 h).2 (encR_ne c)) hN10
                    have HP10 := Lib.hid hP10
                    have HK10 := Lib.hid (HK9.out.trans' hK10 (fun i hi h => by
                      rcases h with rfl | h
                      · exact .inr ho9.2.1
                      · exact .inr (own_lt ho9.2.2.2.1 h).2))
                    clear hR10 hB10 hO10 hK10 hN10 ho9
                    obtain ⟨c0, c1, c3, f1, f3, hl⟩ := hP10.rd.cells
                    clear hP10
                    have sn : IntKind.i64.wrap ((k : Int) + n) = (k : Int) + n := by rw [IntWalk.i64_in _ (by omega)]
                    go_wp2_with fail
                    have hR11 := HP10.out.rd.step (k + n) (by omega) (v := .int .i64 ((k : Int) + n)) (by go_num)
                    have HP11 := Lib.hid (HP10.out.reader hR11 ((Keeps.refl (· = r) w10).set1 1 _))
                    have HK11 := Lib.hid (HK10.out.trans (((Keeps.refl (· = r) w10).set1 1 (.int .i64 ((k : Int) + n))).mono (D' := fun k => k = r ∨ base ≤ k) (fun i _ e => by have := HP.out.le; omega)))
                    go_end0
                    have hXe : X = (⟨k + n, none⟩, { g.os with text := g.os.text ++ encR c, solid := g.os.solid || solidR c } :: G.map OG.os) := by
                      rw [← HX.out]; unfold withinS; rw [HDec.out]; dsimp only
                      rw [if_neg (by rw [beq_eq_false_iff_ne] at hnz; omega), if_neg (by rintro ⟨h, _⟩; rw [H60.out] at h; cases h), if_neg (by rw [H47.out]; decide), if_neg (by rw [H60.out]; decide), if_neg H6.out, if_neg (by rw [H38.out]; decide), if_neg HNb.out]
                    rw [hXe]
                    refine ⟨rfl, _, _, HP11.out, ?_, HK11.out⟩
                    rw [show g.os.solid = g.solid from rfl, Hsd.out, Bool.true_or]
                    rfl
                  | false =>
                    have Hsd := Lib.hid hsd
                    rw [hsd] at b5
                    clear hsd
                    cases sv with
                    | true =>
                      refine (ahead_is (p := ⟨#[38]⟩) HP7.out.rd hs H38.out).mono ?_
                      rintro e w8 ⟨rfl, hR, hk⟩
                      have HP8 := Lib.hid (HP7.out.reader hR hk)
                      have HK8 := Lib.hid (HK7.out.trans (hk.mono (fun i _ e => by have := HP.out.le; omega)))
                      clear hR hk
                      clear c0 c1 c2 c3 f1 hl b0 b2 b5 f5 lb hgr
                      obtain ⟨c0, c1, c2, c3, f1, hl, b0, b2, b5, f5, lb, hgr⟩ := HP8.out.top
                      rw [HEk.out] at b2
                      rw [Hsd.out] at b5
                      go_wp2_with fail
                      refine (knows_any c w8).mono ?_
                      rintro e w9 ⟨rfl, rfl⟩
                      rw [hkn]
                      go_wp2_with fail
                      have HP9 := Lib.hid (HP8.out.solid true)
                      have HK9 := Lib.hid (HK8.out.set (p := ⟨g.blk, 5, none⟩) (fun _ => .inr (HP8.out.open_ g (by simp)).2.1) (.bool true))
                      generalize w8.setCell ⟨g.blk, 5, none⟩ (.bool true) = w9 at HP9 HK9 ⊢
                      clear c0 c1 c2 c3 f1 hl b0 b2 b5 f5 lb hgr
                      have ho9 := HP9.out.open_ (g.told g.text g.a g.u true) (by simp)
                      refine (writeRune_at g.blk _ _ _ _ _ _ g.text base c w9 ho9.1 ho9.2.2.1 ho9.2.2.2.1 (by omega) (by omega) (by omega) HP9.out.size).mono ?_
                      rintro e w10 ⟨nn, u', rfl, hB10, hO10, hK10, hN10⟩
                      have hR10 := wrote_rd HP9.out.rd ho9.1 ho9.2.2.2.1 hK10
                      have hP10 := HP9.out.text (t := g.text ++ encR c) hR10 (hK10.mono (fun i _ h => .inr h)) hB10 (.inr rfl) (by rw [List.length_append, u8s_append, u8s_encR, show (encR c).length = (Lib.runeCells c).length by rw [← u8s_encR, u8s_length]]; exact hO10) (fun h => absurd (List.append_eq_nil_iff.1 h).2 (encR_ne c)) hN10
                      have HP10 := Lib.hid hP10
                      have HK10 := Lib.hid (HK9.out.trans' hK10 (fun i hi h => by
                        rcases h with rfl | h
                        · exact .inr ho9.2.1
                        · exact .inr (own_lt ho9.2.2.2.1 h).2))
                      clear hR10 hB10 hO10 hK10 hN10 ho9
                      obtain ⟨c0, c1, c3, f1, f3, hl⟩ := hP10.rd.cells
                      clear hP10
                      have sn : IntKind.i64.wrap ((k : Int) + n) = (k : Int) + n := by rw [IntWalk.i64_in _ (by omega)]
                      go_wp2_with fail
                      have hR11 := HP10.out.rd.step (k + n) (by omega) (v := .int .i64 ((k : Int) + n)) (by go_num)
                      have HP11 := Lib.hid (HP10.out.reader hR11 ((Keeps.refl (· = r) w10).set1 1 _))
                      have HK11 := Lib.hid (HK10.out.trans (((Keeps.refl (· = r) w10).set1 1 (.int .i64 ((k : Int) + n))).mono (D' := fun k => k = r ∨ base ≤ k) (fun i _ e => by have := HP.out.le; omega)))
                      go_end0
                      have hXe : X = (⟨k + n, none⟩, { g.os with text := g.os.text ++ encR c, solid := g.os.solid || solidR c } :: G.map OG.os) := by
                        rw [← HX.out]; unfold withinS; rw [HDec.out]; dsimp only
                        rw [if_neg (by rw [beq_eq_false_iff_ne] at hnz; omega), if_neg (by rintro ⟨h, _⟩; rw [H60.out] at h; cases h), if_neg (by rw [H47.out]; decide), if_neg (by rw [H60.out]; decide), if_neg H6.out, if_neg (by rw [H38.out]; decide), if_neg HNb.out]
                      rw [hXe]
                      refine ⟨rfl, _, _, HP11.out, ?_, HK11.out⟩
                      rw [show g.os.solid = g.solid from rfl, Hsd.out, HSv.out]
                      rfl
                    | false =>
                      first
                        | exact absurd hsv' (by decide)
                        | skip
                      all_goals
                        refine (ahead_is (p := ⟨#[38]⟩) HP7.out.rd hs H38.out).mono ?_
                        rintro e w8 ⟨rfl, hR, hk⟩
                        have HP8 := Lib.hid (HP7.out.reader hR hk)
                        have HK8 := Lib.hid (HK7.out.trans (hk.mono (fun i _ e => by have := HP.out.le; omega)))
                        clear hR hk
                        clear c0 c1 c2 c3 f1 hl b0 b2 b5 f5 lb hgr
                        obtain ⟨c0, c1, c2, c3, f1, hl, b0, b2, b5, f5, lb, hgr⟩ := HP8.out.top
                        rw [HEk.out] at b2
                        rw [Hsd.out] at b5
                        go_wp2_with fail
                        refine (knows_any c w8).mono ?_
                        rintro e w9 ⟨rfl, rfl⟩
                        rw [hkn]
                        go_wp2_with fail
                        have HP9 := Lib.hid (HP8.out.solid false)
                        have HK9 := Lib.hid (HK8.out.set (p := ⟨g.blk, 5, none⟩) (fun _ => .inr (HP8.out.open_ g (by simp)).2.1) (.bool false))
                        generalize w8.setCell ⟨g.blk, 5, none⟩ (.bool false) = w9 at HP9 HK9 ⊢
                        clear c0 c1 c2 c3 f1 hl b0 b2 b5 f5 lb hgr
                        have ho9 := HP9.out.open_ (g.told g.text g.a g.u false) (by simp)
                        refine (writeRune_at g.blk _ _ _ _ _ _ g.text base c w9 ho9.1 ho9.2.2.1 ho9.2.2.2.1 (by omega) (by omega) (by omega) HP9.out.size).mono ?_
                        rintro e w10 ⟨nn, u', rfl, hB10, hO10, hK10, hN10⟩
                        have hR10 := wrote_rd HP9.out.rd ho9.1 ho9.2.2.2.1 hK10
                        have hP10 := HP9.out.text (t := g.text ++ encR c) hR10 (hK10.mono (fun i _ h => .inr h)) hB10 (.inr rfl) (by rw [List.length_append, u8s_append, u8s_encR, show (encR c).length = (Lib.runeCells c).length by rw [← u8s_encR, u8s_length]]; exact hO10) (fun h => absurd (List.append_eq_nil_iff.1 h).2 (encR_ne c)) hN10
                        have HP10 := Lib.hid hP10
                        have HK10 := Lib.hid (HK9.out.trans' hK10 (fun i hi h => by
                          rcases h with rfl | h
                          · exact .inr ho9.2.1
                          · exact .inr (own_lt ho9.2.2.2.1 h).2))
                        clear hR10 hB10 hO10 hK10 hN10 ho9
                        obtain ⟨c0, c1, c3, f1, f3, hl⟩ := hP10.rd.cells
                        clear hP10
                        have sn : IntKind.i64.wrap ((k : Int) + n) = (k : Int) + n := by rw [IntWalk.i64_in _ (by omega)]
                        go_wp2_with fail
                        have hR11 := HP10.out.rd.step (k + n) (by omega) (v := .int .i64 ((k : Int) + n)) (by go_num)
                        have HP11 := Lib.hid (HP10.out.reader hR11 ((Keeps.refl (· = r) w10).set1 1 _))
                        have HK11 := Lib.hid (HK10.out.trans (((Keeps.refl (· = r) w10).set1 1 (.int .i64 ((k : Int) + n))).mono (D' := fun k => k = r ∨ base ≤ k) (fun i _ e => by have := HP.out.le; omega)))
                        go_end0
                        have hXe : X = (⟨k + n, none⟩, { g.os with text := g.os.text ++ encR c, solid := g.os.solid || solidR c } :: G.map OG.os) := by
                          rw [← HX.out]; unfold withinS; rw [HDec.out]; dsimp only
                          rw [if_neg (by rw [beq_eq_false_iff_ne] at hnz; omega), if_neg (by rintro ⟨h, _⟩; rw [H60.out] at h; cases h), if_neg (by rw [H47.out]; decide), if_neg (by rw [H60.out]; decide), if_neg H6.out, if_neg (by rw [H38.out]; decide), if_neg HNb.out]
                        rw [hXe]
                        refine ⟨rfl, _, _, HP11.out, ?_, HK11.out⟩
                        rw [show g.os.solid = g.solid from rfl, Hsd.out, HSv.out]
                        rfl
            · have hceB : ((c : Int) == 65533) = false := by rw [beq_eq_false_iff_ne]; omega
              have hbad : ¬ (c = 65533 ∧ n = 1) := fun h => hce h.1
              cases hkn : knowsB c with
              | false =>
                refine (ahead_is (p := ⟨#[38]⟩) HP7.out.rd hs H38.out).mono ?_
                rintro e w8 ⟨rfl, hR, hk⟩
                have HP8 := Lib.hid (HP7.out.reader hR hk)
                have HK8 := Lib.hid (HK7.out.trans (hk.mono (fun i _ e => by have := HP.out.le; omega)))
                clear hR hk
                clear c0 c1 c2 c3 f1 hl b0 b2 b5 f5 lb hgr
                obtain ⟨c0, c1, c2, c3, f1, hl, b0, b2, b5, f5, lb, hgr⟩ := HP8.out.top
                rw [HEk.out] at b2
                go_wp2_with fail
                refine (knows_any c w8).mono ?_
                rintro e w9 ⟨rfl, rfl⟩
                rw [hkn]
                go_wp2_with fail
                refine (fail_any r s ⟨k, none⟩ _ 55 _ w8 HP8.out.rd).mono ?_
                rintro e wf ⟨rfl, hR, hk⟩
                have HPf := Lib.hid (HP8.out.reader hR hk)
                have HKf := Lib.hid (HK8.out.trans (hk.mono (fun i _ e => by have := HP.out.le; omega)))
                clear hR hk
                clear c0 c1 c2 c3 f1 hl b0 b2 b5 f5 lb hgr
                go_wp2_with fail
                go_end0
                have hXe : X = (⟨k, some (55, k)⟩, g.os :: G.map OG.os) := by
                  rw [← HX.out]; unfold withinS; rw [HDec.out]; dsimp only
                  rw [if_neg (by rw [beq_eq_false_iff_ne] at hnz; omega), if_neg (by rintro ⟨h, _⟩; rw [H60.out] at h; cases h), if_neg (by rw [H47.out]; decide), if_neg (by rw [H60.out]; decide), if_neg H6.out, if_neg (by rw [H38.out]; decide), if_pos (.inr hkn)]
                rw [hXe]
                exact ⟨rfl, _, _, HPf.out, rfl, HKf.out⟩
              | true =>
                have HNb : Hid (¬ ((c = 65533 ∧ n = 1) ∨ knowsB c = false)) := by
                  show ¬ _
                  rintro (h | h)
                  · exact hbad h
                  · rw [hkn] at h; cases h
                cases hsd : g.solid with
                | true =>
                  have Hsd := Lib.hid hsd
                  rw [hsd] at b5
                  clear hsd
                  refine (ahead_is (p := ⟨#[38]⟩) HP7.out.rd hs H38.out).mono ?_
                  rintro e w8 ⟨rfl, hR, hk⟩
                  have HP8 := Lib.hid (HP7.out.reader hR hk)
                  have HK8 := Lib.hid (HK7.out.trans (hk.mono (fun i _ e => by have := HP.out.le; omega)))
                  clear hR hk
                  clear c0 c1 c2 c3 f1 hl b0 b2 b5 f5 lb hgr
                  obtain ⟨c0, c1, c2, c3, f1, hl, b0, b2, b5, f5, lb, hgr⟩ := HP8.out.top
                  rw [HEk.out] at b2
                  rw [Hsd.out] at b5
                  go_wp2_with fail
                  refine (knows_any c w8).mono ?_
                  rintro e w9 ⟨rfl, rfl⟩
                  rw [hkn]
                  go_wp2_with fail
                  have HP9 := Lib.hid (HP8.out.solid true)
                  have HK9 := Lib.hid (HK8.out.set (p := ⟨g.blk, 5, none⟩) (fun _ => .inr (HP8.out.open_ g (by simp)).2.1) (.bool true))
                  generalize w8.setCell ⟨g.blk, 5, none⟩ (.bool true) = w9 at HP9 HK9 ⊢
                  clear c0 c1 c2 c3 f1 hl b0 b2 b5 f5 lb hgr
                  have ho9 := HP9.out.open_ (g.told g.text g.a g.u true) (by simp)
                  refine (writeRune_at g.blk _ _ _ _ _ _ g.text base c w9 ho9.1 ho9.2.2.1 ho9.2.2.2.1 (by omega) (by omega) (by omega) HP9.out.size).mono ?_
                  rintro e w10 ⟨nn, u', rfl, hB10, hO10, hK10, hN10⟩
                  have hR10 := wrote_rd HP9.out.rd ho9.1 ho9.2.2.2.1 hK10
                  have hP10 := HP9.out.text (t := g.text ++ encR c) hR10 (hK10.mono (fun i _ h => .inr h)) hB10 (.inr rfl) (by rw [List.length_append, u8s_append, u8s_encR, show (encR c).length = (Lib.runeCells c).length by rw [← u8s_encR, u8s_length]]; exact hO10) (fun h => absurd (List.append_eq_nil_iff.1 h).2 (encR_ne c)) hN10
                  have HP10 := Lib.hid hP10
                  have HK10 := Lib.hid (HK9.out.trans' hK10 (fun i hi h => by
                    rcases h with rfl | h
                    · exact .inr ho9.2.1
                    · exact .inr (own_lt ho9.2.2.2.1 h).2))
                  clear hR10 hB10 hO10 hK10 hN10 ho9
                  obtain ⟨c0, c1, c3, f1, f3, hl⟩ := hP10.rd.cells
                  clear hP10
                  have sn : IntKind.i64.wrap ((k : Int) + n) = (k : Int) + n := by rw [IntWalk.i64_in _ (by omega)]
                  go_wp2_with fail
                  have hR11 := HP10.out.rd.step (k + n) (by omega) (v := .int .i64 ((k : Int) + n)) (by go_num)
                  have HP11 := Lib.hid (HP10.out.reader hR11 ((Keeps.refl (· = r) w10).set1 1 _))
                  have HK11 := Lib.hid (HK10.out.trans (((Keeps.refl (· = r) w10).set1 1 (.int .i64 ((k : Int) + n))).mono (D' := fun k => k = r ∨ base ≤ k) (fun i _ e => by have := HP.out.le; omega)))
                  go_end0
                  have hXe : X = (⟨k + n, none⟩, { g.os with text := g.os.text ++ encR c, solid := g.os.solid || solidR c } :: G.map OG.os) := by
                    rw [← HX.out]; unfold withinS; rw [HDec.out]; dsimp only
                    rw [if_neg (by rw [beq_eq_false_iff_ne] at hnz; omega), if_neg (by rintro ⟨h, _⟩; rw [H60.out] at h; cases h), if_neg (by rw [H47.out]; decide), if_neg (by rw [H60.out]; decide), if_neg H6.out, if_neg (by rw [H38.out]; decide), if_neg HNb.out]
                  rw [hXe]
                  refine ⟨rfl, _, _, HP11.out, ?_, HK11.out⟩
                  rw [show g.os.solid = g.solid from rfl, Hsd.out, Bool.true_or]
                  rfl
                | false =>
                  have Hsd := Lib.hid hsd
                  rw [hsd] at b5
                  clear hsd
                  cases sv with
                  | true =>
                    refine (ahead_is (p := ⟨#[38]⟩) HP7.out.rd hs H38.out).mono ?_
                    rintro e w8 ⟨rfl, hR, hk⟩
                    have HP8 := Lib.hid (HP7.out.reader hR hk)
                    have HK8 := Lib.hid (HK7.out.trans (hk.mono (fun i _ e => by have := HP.out.le; omega)))
                    clear hR hk
                    clear c0 c1 c2 c3 f1 hl b0 b2 b5 f5 lb hgr
                    obtain ⟨c0, c1, c2, c3, f1, hl, b0, b2, b5, f5, lb, hgr⟩ := HP8.out.top
                    rw [HEk.out] at b2
                    rw [Hsd.out] at b5
                    go_wp2_with fail
                    refine (knows_any c w8).mono ?_
                    rintro e w9 ⟨rfl, rfl⟩
                    rw [hkn]
                    go_wp2_with fail
                    have HP9 := Lib.hid (HP8.out.solid true)
                    have HK9 := Lib.hid (HK8.out.set (p := ⟨g.blk, 5, none⟩) (fun _ => .inr (HP8.out.open_ g (by simp)).2.1) (.bool true))
                    generalize w8.setCell ⟨g.blk, 5, none⟩ (.bool true) = w9 at HP9 HK9 ⊢
                    clear c0 c1 c2 c3 f1 hl b0 b2 b5 f5 lb hgr
                    have ho9 := HP9.out.open_ (g.told g.text g.a g.u true) (by simp)
                    refine (writeRune_at g.blk _ _ _ _ _ _ g.text base c w9 ho9.1 ho9.2.2.1 ho9.2.2.2.1 (by omega) (by omega) (by omega) HP9.out.size).mono ?_
                    rintro e w10 ⟨nn, u', rfl, hB10, hO10, hK10, hN10⟩
                    have hR10 := wrote_rd HP9.out.rd ho9.1 ho9.2.2.2.1 hK10
                    have hP10 := HP9.out.text (t := g.text ++ encR c) hR10 (hK10.mono (fun i _ h => .inr h)) hB10 (.inr rfl) (by rw [List.length_append, u8s_append, u8s_encR, show (encR c).length = (Lib.runeCells c).length by rw [← u8s_encR, u8s_length]]; exact hO10) (fun h => absurd (List.append_eq_nil_iff.1 h).2 (encR_ne c)) hN10
                    have HP10 := Lib.hid hP10
                    have HK10 := Lib.hid (HK9.out.trans' hK10 (fun i hi h => by
                      rcases h with rfl | h
                      · exact .inr ho9.2.1
                      · exact .inr (own_lt ho9.2.2.2.1 h).2))
                    clear hR10 hB10 hO10 hK10 hN10 ho9
                    obtain ⟨c0, c1, c3, f1, f3, hl⟩ := hP10.rd.cells
                    clear hP10
                    have sn : IntKind.i64.wrap ((k : Int) + n) = (k : Int) + n := by rw [IntWalk.i64_in _ (by omega)]
                    go_wp2_with fail
                    have hR11 := HP10.out.rd.step (k + n) (by omega) (v := .int .i64 ((k : Int) + n)) (by go_num)
                    have HP11 := Lib.hid (HP10.out.reader hR11 ((Keeps.refl (· = r) w10).set1 1 _))
                    have HK11 := Lib.hid (HK10.out.trans (((Keeps.refl (· = r) w10).set1 1 (.int .i64 ((k : Int) + n))).mono (D' := fun k => k = r ∨ base ≤ k) (fun i _ e => by have := HP.out.le; omega)))
                    go_end0
                    have hXe : X = (⟨k + n, none⟩, { g.os with text := g.os.text ++ encR c, solid := g.os.solid || solidR c } :: G.map OG.os) := by
                      rw [← HX.out]; unfold withinS; rw [HDec.out]; dsimp only
                      rw [if_neg (by rw [beq_eq_false_iff_ne] at hnz; omega), if_neg (by rintro ⟨h, _⟩; rw [H60.out] at h; cases h), if_neg (by rw [H47.out]; decide), if_neg (by rw [H60.out]; decide), if_neg H6.out, if_neg (by rw [H38.out]; decide), if_neg HNb.out]
                    rw [hXe]
                    refine ⟨rfl, _, _, HP11.out, ?_, HK11.out⟩
                    rw [show g.os.solid = g.solid from rfl, Hsd.out, HSv.out]
                    rfl
                  | false =>
                    first
                      | exact absurd hsv' (by decide)
                      | skip
                    all_goals
                      refine (ahead_is (p := ⟨#[38]⟩) HP7.out.rd hs H38.out).mono ?_
                      rintro e w8 ⟨rfl, hR, hk⟩
                      have HP8 := Lib.hid (HP7.out.reader hR hk)
                      have HK8 := Lib.hid (HK7.out.trans (hk.mono (fun i _ e => by have := HP.out.le; omega)))
                      clear hR hk
                      clear c0 c1 c2 c3 f1 hl b0 b2 b5 f5 lb hgr
                      obtain ⟨c0, c1, c2, c3, f1, hl, b0, b2, b5, f5, lb, hgr⟩ := HP8.out.top
                      rw [HEk.out] at b2
                      rw [Hsd.out] at b5
                      go_wp2_with fail
                      refine (knows_any c w8).mono ?_
                      rintro e w9 ⟨rfl, rfl⟩
                      rw [hkn]
                      go_wp2_with fail
                      have HP9 := Lib.hid (HP8.out.solid false)
                      have HK9 := Lib.hid (HK8.out.set (p := ⟨g.blk, 5, none⟩) (fun _ => .inr (HP8.out.open_ g (by simp)).2.1) (.bool false))
                      generalize w8.setCell ⟨g.blk, 5, none⟩ (.bool false) = w9 at HP9 HK9 ⊢
                      clear c0 c1 c2 c3 f1 hl b0 b2 b5 f5 lb hgr
                      have ho9 := HP9.out.open_ (g.told g.text g.a g.u false) (by simp)
                      refine (writeRune_at g.blk _ _ _ _ _ _ g.text base c w9 ho9.1 ho9.2.2.1 ho9.2.2.2.1 (by omega) (by omega) (by omega) HP9.out.size).mono ?_
                      rintro e w10 ⟨nn, u', rfl, hB10, hO10, hK10, hN10⟩
                      have hR10 := wrote_rd HP9.out.rd ho9.1 ho9.2.2.2.1 hK10
                      have hP10 := HP9.out.text (t := g.text ++ encR c) hR10 (hK10.mono (fun i _ h => .inr h)) hB10 (.inr rfl) (by rw [List.length_append, u8s_append, u8s_encR, show (encR c).length = (Lib.runeCells c).length by rw [← u8s_encR, u8s_length]]; exact hO10) (fun h => absurd (List.append_eq_nil_iff.1 h).2 (encR_ne c)) hN10
                      have HP10 := Lib.hid hP10
                      have HK10 := Lib.hid (HK9.out.trans' hK10 (fun i hi h => by
                        rcases h with rfl | h
                        · exact .inr ho9.2.1
                        · exact .inr (own_lt ho9.2.2.2.1 h).2))
                      clear hR10 hB10 hO10 hK10 hN10 ho9
                      obtain ⟨c0, c1, c3, f1, f3, hl⟩ := hP10.rd.cells
                      clear hP10
                      have sn : IntKind.i64.wrap ((k : Int) + n) = (k : Int) + n := by rw [IntWalk.i64_in _ (by omega)]
                      go_wp2_with fail
                      have hR11 := HP10.out.rd.step (k + n) (by omega) (v := .int .i64 ((k : Int) + n)) (by go_num)
                      have HP11 := Lib.hid (HP10.out.reader hR11 ((Keeps.refl (· = r) w10).set1 1 _))
                      have HK11 := Lib.hid (HK10.out.trans (((Keeps.refl (· = r) w10).set1 1 (.int .i64 ((k : Int) + n))).mono (D' := fun k => k = r ∨ base ≤ k) (fun i _ e => by have := HP.out.le; omega)))
                      go_end0
                      have hXe : X = (⟨k + n, none⟩, { g.os with text := g.os.text ++ encR c, solid := g.os.solid || solidR c } :: G.map OG.os) := by
                        rw [← HX.out]; unfold withinS; rw [HDec.out]; dsimp only
                        rw [if_neg (by rw [beq_eq_false_iff_ne] at hnz; omega), if_neg (by rintro ⟨h, _⟩; rw [H60.out] at h; cases h), if_neg (by rw [H47.out]; decide), if_neg (by rw [H60.out]; decide), if_neg H6.out, if_neg (by rw [H38.out]; decide), if_neg HNb.out]
                      rw [hXe]
                      refine ⟨rfl, _, _, HP11.out, ?_, HK11.out⟩
                      rw [show g.os.solid = g.solid from rfl, Hsd.out, HSv.out]
                      rfl

  · have h127' : ¬ ((127 : Int) < (c : Int)) := by omega
    have hcw : IntKind.u8.wrap (c : Int) = c := by rw [IntKind.wrap_u8]; omega
    obtain ⟨sv, hsv⟩ : ∃ sv, solidR c = sv := ⟨_, rfl⟩
    have hix : decide (ixB (bs ⟨#[32, 9, 10, 13]⟩) c < 0) = sv := by
      have h := ix_blank' (UInt8.ofNat c)
      have hcc : (UInt8.ofNat c).toNat = c := by rw [UInt8.toNat_ofNat']; omega
      rw [hcc] at h
      rw [← hsv]; unfold solidR
      rw [decide_eq_false h127, ← h]
      by_cases hz : ixB (bs ⟨#[32, 9, 10, 13]⟩) c < 0
      · rw [decide_eq_true hz, decide_eq_false (by omega)]; rfl
      · rw [decide_eq_false hz, decide_eq_true (by omega)]; rfl
    have HSv := Lib.hid hsv
    clear hsv
    go_wp2_with fail
    refine (indexByte_any ⟨#[32, 9, 10, 13]⟩ c _).mono ?_
    rintro e w3 ⟨rfl, rfl⟩
    by_cases hn0 : n = 0
    · have hnz : ((n : Int) == 0) = true := by rw [hn0]; rfl
      clear hn0
      go_wp2_with fail
      refine (fail_any r s ⟨k, none⟩ _ 55 _ w2 HP2.out.rd).mono ?_
      rintro e wf ⟨rfl, hR, hk⟩
      have HPf := Lib.hid (HP2.out.reader hR hk)
      have HKf := Lib.hid (HK2.out.trans (hk.mono (fun i _ e => by have := HP.out.le; omega)))
      clear hR hk
      clear c0 c1 c2 c3 f1 hl b0 b2 b5 f5 lb hgr
      go_wp2_with fail
      go_end0
      have hXe : X = (⟨k, some (55, k)⟩, g.os :: G.map OG.os) := by
        rw [← HX.out]; unfold withinS; rw [HDec.out]; dsimp only
        rw [if_pos (by rw [beq_iff_eq] at hnz; omega)]
      rw [hXe]
      exact ⟨rfl, _, _, HPf.out, rfl, HKf.out⟩
    · have hnz : ((n : Int) == 0) = false := by rw [beq_eq_false_iff_ne]; omega
      cases h60 : pre [60] ((bs s).drop k) with
      | true =>
        have H60 := Lib.hid h60
        have hkl : k < s.size := by have := pre_one_lt h60; rw [bs_length] at this; exact this
        clear h60
        have s1 : IntKind.i64.wrap ((k : Int) + 1) = (k : Int) + 1 := by rw [IntWalk.i64_in _ (by omega)]
        by_cases hlast : k + 1 = s.size
        · have hcmp : ((k : Int) + 1 == (s.size : Int)) = true := by rw [beq_iff_eq]; omega
          go_wp2_with fail
          go_quiet ((go_at_call 26; exact ahead_q (p := ⟨#[60]⟩) HP2.out.rd hs H60.out _))
          have HP4 := Lib.hid (HP2.out.keepAll ((Keeps.refl (fun _ => False) w2).drewN nq))
          have HG4 := Lib.hid (HG2.out.keep ((Keeps.refl (fun _ => False) w2).drewN nq) (fun _ _ h => h))
          have HK4 := Lib.hid (HK2.out.drewN nq)
          generalize w2.drewN nq = w4 at HP4 HG4 HK4 ⊢
          clear c0 c1 c2 c3 f1 hl b0 b2 b5 f5 lb hgr
          obtain ⟨c0, c1, c2, c3, f1, hl, b0, b2, b5, f5, lb, hgr⟩ := HP4.out.top
          rw [HEk.out] at b2
          clear hlast
          go_wp2_with fail
          refine (fail_any r s ⟨k, none⟩ _ 55 _ w4 HP4.out.rd).mono ?_
          rintro e wf ⟨rfl, hR, hk⟩
          have HPf := Lib.hid (HP4.out.reader hR hk)
          have HKf := Lib.hid (HK4.out.trans (hk.mono (fun i _ e => by have := HP.out.le; omega)))
          clear hR hk
          clear c0 c1 c2 c3 f1 hl b0 b2 b5 f5 lb hgr
          go_wp2_with fail
          go_end0
          have hXe : X = (⟨k, some (55, s.size)⟩, g.os :: G.map OG.os) := by
            rw [← HX.out]; unfold withinS; rw [HDec.out]; dsimp only
            rw [if_neg (by rw [beq_eq_false_iff_ne] at hnz; omega), if_pos ⟨H60.out, by rw [bs_length]; rw [beq_iff_eq] at hcmp; omega⟩, bs_length]
          rw [hXe]
          exact ⟨rfl, _, _, HPf.out, rfl, HKf.out⟩
        · have hcmp : ((k : Int) + 1 == (s.size : Int)) = false := by rw [beq_eq_false_iff_ne]; omega
          go_wp2_with fail
          go_quiet ((go_at_call 26; exact ahead_q (p := ⟨#[60]⟩) HP2.out.rd hs H60.out _))
          have HP4 := Lib.hid (HP2.out.keepAll ((Keeps.refl (fun _ => False) w2).drewN nq))
          have HG4 := Lib.hid (HG2.out.keep ((Keeps.refl (fun _ => False) w2).drewN nq) (fun _ _ h => h))
          have HK4 := Lib.hid (HK2.out.drewN nq)
          generalize w2.drewN nq = w4 at HP4 HG4 HK4 ⊢
          clear c0 c1 c2 c3 f1 hl b0 b2 b5 f5 lb hgr
          obtain ⟨c0, c1, c2, c3, f1, hl, b0, b2, b5, f5, lb, hgr⟩ := HP4.out.top
          rw [HEk.out] at b2
          go_wp2_with fail
          cases h47 : pre [60, 47] ((bs s).drop k) with
          | true =>
            have H47 := Lib.hid h47
            clear h47
            refine (ahead_is (p := ⟨#[60, 47]⟩) HP4.out.rd hs H47.out).mono ?_
            rintro e w5 ⟨rfl, hR, hk⟩
            have HP5 := Lib.hid (HP4.out.reader hR hk)
            have HK5 := Lib.hid (HK4.out.trans (hk.mono (fun i _ e => by have := HP.out.le; omega)))
            clear hR hk
            clear c0 c1 c2 c3 f1 hl b0 b2 b5 f5 lb hgr
            obtain ⟨c0, c1, c2, c3, f1, hl, b0, b2, b5, f5, lb, hgr⟩ := HP5.out.top
            rw [HEk.out] at b2
            go_wp2_with fail
            have hk2s : k + 2 ≤ s.size := by
              have := List.IsPrefix.length_le (List.isPrefixOf_iff_prefix.1 H47.out)
              rw [List.length_drop, bs_length] at this
              simp at this; omega
            have hR6 := HP5.out.rd.step (k + 2) hk2s (v := .int .i64 ((k : Int) + 2)) (by go_num)
            have HP6 := Lib.hid (HP5.out.reader hR6 ((Keeps.refl (· = r) w5).set1 1 _))
            have HK6 := Lib.hid (HK5.out.trans (((Keeps.refl (· = r) w5).set1 1 (.int .i64 ((k : Int) + 2))).mono (D' := fun k => k = r ∨ base ≤ k) (fun i _ e => by have := HP.out.le; omega)))
            clear hR6
            generalize w5.setCell ⟨r, 1, none⟩ (.int .i64 ((k : Int) + 2)) = w6 at HP6 HK6 ⊢
            clear c0 c1 c2 c3 f1 hl b0 b2 b5 f5 lb hgr
            obtain ⟨⟨ak, ao⟩, hA⟩ : ∃ a, wantS (bs s) g.name ⟨k + 2, none⟩ = a := ⟨_, rfl⟩
            refine (want_any r s (sb g.name) ⟨k + 2, none⟩ _ w6 HP6.out.rd hs (by rw [sb_size]; omega)).mono ?_
            rintro e w7 ⟨rfl, hR7, hk7⟩
            rw [show wantS (bs s) (bs (sb g.name)) ⟨k + 2, none⟩ = ⟨ak, ao⟩ from hA] at hR7
            have HP7 := Lib.hid (HP6.out.reader hR7 hk7)
            have HK7 := Lib.hid (HK6.out.trans (hk7.mono (fun i _ e => by have := HP.out.le; omega)))
            have HA := Lib.hid hA
            clear hk7 hA
            obtain ⟨c0, c1, c3, f1, f3, hl⟩ := hR7.cells
            cases ao with
            | some x =>
              obtain ⟨bb, c2⟩ := hR7.some
              clear hR7
              go_wp2_with fail
              clear c0 c1 c2 c3 f1 f3 hl
              obtain ⟨⟨zk, zo⟩, hZ⟩ : ∃ z, wantS (bs s) [62] ⟨ak, some x⟩ = z := ⟨_, rfl⟩
              refine (want_any r s ⟨#[62]⟩ ⟨ak, some x⟩ _ w7 HP7.out.rd hs (by decide)).mono ?_
              rintro e w8 ⟨rfl, hR, hk⟩
              rw [show wantS (bs s) (bs ⟨#[62]⟩) ⟨ak, some x⟩ = ⟨zk, zo⟩ from hZ] at hR
              have HP8 := Lib.hid (HP7.out.reader hR hk)
              have HK8 := Lib.hid (HK7.out.trans (hk.mono (fun i _ e => by have := HP.out.le; omega)))
              have HZ := Lib.hid hZ
              clear hR hk hZ
              go_wp2_with fail
              refine (end_any base r s ⟨zk, zo⟩ _ (g :: G) w8 HP8.out (by simp; omega) (by simp) (fun g' hg' => Nat.le_trans (hsm g' hg') (by decide))).mono ?_
              rintro e w9 ⟨rfl, pv9, G9, hP9, hm9, hk9⟩
              have HP9 := Lib.hid hP9
              have HM9 := Lib.hid hm9
              have HK9 := Lib.hid (HK8.out.trans hk9)
              clear hP9 hm9 hk9
              go_wp2_with fail
              go_end0
              have hXe : X = (⟨zk, zo⟩, endS zo (g.os :: G.map OG.os)) := by
                rw [← HX.out]; unfold withinS; rw [HDec.out]; dsimp only
                rw [if_neg (by rw [beq_eq_false_iff_ne] at hnz; omega), if_neg (by rintro ⟨_, h⟩; rw [bs_length] at h; exact hlast h), if_pos H47.out]
                rw [show wantS (bs s) g.os.name ⟨k + 2, none⟩ = ⟨ak, some x⟩ from HA.out]
                show (wantS (bs s) [62] ⟨ak, some x⟩, endS (wantS (bs s) [62] ⟨ak, some x⟩).bad (g.os :: G.map OG.os)) = _
                rw [HZ.out]
              rw [hXe]
              exact ⟨rfl, _, _, HP9.out, HM9.out, HK9.out⟩
            | none =>
              have c2 := hR7.none
              clear hR7
              go_wp2_with fail
              clear c0 c1 c2 c3 f1 f3 hl
              refine (blanks_any r s ⟨ak, none⟩ _ w7 HP7.out.rd hs).mono ?_
              rintro e w8 ⟨rfl, hR, hk⟩
              have HP8 := Lib.hid (HP7.out.reader hR hk)
              have HK8 := Lib.hid (HK7.out.trans (hk.mono (fun i _ e => by have := HP.out.le; omega)))
              clear hR hk
              go_wp2_with fail
              obtain ⟨⟨zk, zo⟩, hZ⟩ : ∃ z, wantS (bs s) [62] (blanksS (bs s) ⟨ak, none⟩) = z := ⟨_, rfl⟩
              refine (want_any r s ⟨#[62]⟩ (blanksS (bs s) ⟨ak, none⟩) _ w8 HP8.out.rd hs (by decide)).mono ?_
              rintro e w9 ⟨rfl, hR, hk⟩
              rw [show wantS (bs s) (bs ⟨#[62]⟩) (blanksS (bs s) ⟨ak, none⟩) = ⟨zk, zo⟩ from hZ] at hR
              have HP9 := Lib.hid (HP8.out.reader hR hk)
              have HK9 := Lib.hid (HK8.out.trans (hk.mono (fun i _ e => by have := HP.out.le; omega)))
              have HZ := Lib.hid hZ
              clear hR hk hZ
              go_wp2_with fail
              refine (end_any base r s ⟨zk, zo⟩ _ (g :: G) w9 HP9.out (by simp; omega) (by simp) (fun g' hg' => Nat.le_trans (hsm g' hg') (by decide))).mono ?_
              rintro e w10 ⟨rfl, pv9, G9, hP9, hm9, hk9⟩
              have HP9 := Lib.hid hP9
              have HM9 := Lib.hid hm9
              have HK9 := Lib.hid (HK9.out.trans hk9)
              clear hP9 hm9 hk9
              go_wp2_with fail
              go_end0
              have hXe : X = (⟨zk, zo⟩, endS zo (g.os :: G.map OG.os)) := by
                rw [← HX.out]; unfold withinS; rw [HDec.out]; dsimp only
                rw [if_neg (by rw [beq_eq_false_iff_ne] at hnz; omega), if_neg (by rintro ⟨_, h⟩; rw [bs_length] at h; exact hlast h), if_pos H47.out]
                rw [show wantS (bs s) g.os.name ⟨k + 2, none⟩ = ⟨ak, none⟩ from HA.out]
                show (wantS (bs s) [62] (blanksS (bs s) ⟨ak, none⟩), endS (wantS (bs s) [62] (blanksS (bs s) ⟨ak, none⟩)).bad (g.os :: G.map OG.os)) = _
                rw [HZ.out]
              rw [hXe]
              exact ⟨rfl, _, _, HP9.out, HM9.out, HK9.out⟩
          | false =>
            have H47 := Lib.hid h47
            clear h47
            cases hsd : g.solid with
            | true =>
              have Hsd := Lib.hid hsd
              rw [hsd] at b5
              clear hsd
              refine (ahead_is (p := ⟨#[60, 47]⟩) HP4.out.rd hs H47.out).mono ?_
              rintro e w5 ⟨rfl, hR, hk⟩
              have HP5 := Lib.hid (HP4.out.reader hR hk)
              have HK5 := Lib.hid (HK4.out.trans (hk.mono (fun i _ e => by have := HP.out.le; omega)))
              clear hR hk
              clear c0 c1 c2 c3 f1 hl b0 b2 b5 f5 lb hgr
              obtain ⟨c0, c1, c2, c3, f1, hl, b0, b2, b5, f5, lb, hgr⟩ := HP5.out.top
              rw [HEk.out] at b2
              rw [Hsd.out] at b5
              go_wp2_with fail
              refine (ahead_is (p := ⟨#[60]⟩) HP5.out.rd hs H60.out).mono ?_
              rintro e w6 ⟨rfl, hR, hk⟩
              have HP6 := Lib.hid (HP5.out.reader hR hk)
              have HK6 := Lib.hid (HK5.out.trans (hk.mono (fun i _ e => by have := HP.out.le; omega)))
              clear hR hk
              clear c0 c1 c2 c3 f1 hl b0 b2 b5 f5 lb hgr
              obtain ⟨c0, c1, c2, c3, f1, hl, b0, b2, b5, f5, lb, hgr⟩ := HP6.out.top
              rw [HEk.out] at b2
              rw [Hsd.out] at b5
              go_wp2_with fail
              refine (fail_any r s ⟨k, none⟩ _ 55 _ w6 HP6.out.rd).mono ?_
              rintro e wf ⟨rfl, hR, hk⟩
              have HPf := Lib.hid (HP6.out.reader hR hk)
              have HKf := Lib.hid (HK6.out.trans (hk.mono (fun i _ e => by have := HP.out.le; omega)))
              clear hR hk
              clear c0 c1 c2 c3 f1 hl b0 b2 b5 f5 lb hgr
              go_wp2_with fail
              go_end0
              have hXe : X = (⟨k, some (55, k)⟩, g.os :: G.map OG.os) := by
                rw [← HX.out]; unfold withinS; rw [HDec.out]; dsimp only
                rw [if_neg (by rw [beq_eq_false_iff_ne] at hnz; omega), if_neg (by rintro ⟨_, h⟩; rw [bs_length] at h; exact hlast h), if_neg (by rw [H47.out]; decide), if_pos H60.out, if_pos (show g.os.solid = true from Hsd.out)]
              rw [hXe]
              exact ⟨rfl, _, _, HPf.out, rfl, HKf.out⟩
            | false =>
              have Hsd := Lib.hid hsd
              rw [hsd] at b5
              clear hsd
              refine (ahead_is (p := ⟨#[60, 47]⟩) HP4.out.rd hs H47.out).mono ?_
              rintro e w5 ⟨rfl, hR, hk⟩
              have HP5 := Lib.hid (HP4.out.reader hR hk)
              have HK5 := Lib.hid (HK4.out.trans (hk.mono (fun i _ e => by have := HP.out.le; omega)))
              clear hR hk
              clear c0 c1 c2 c3 f1 hl b0 b2 b5 f5 lb hgr
              obtain ⟨c0, c1, c2, c3, f1, hl, b0, b2, b5, f5, lb, hgr⟩ := HP5.out.top
              rw [HEk.out] at b2
              rw [Hsd.out] at b5
              go_wp2_with fail
              refine (ahead_is (p := ⟨#[60]⟩) HP5.out.rd hs H60.out).mono ?_
              rintro e w6 ⟨rfl, hR, hk⟩
              have HP6 := Lib.hid (HP5.out.reader hR hk)
              have HK6 := Lib.hid (HK5.out.trans (hk.mono (fun i _ e => by have := HP.out.le; omega)))
              clear hR hk
              clear c0 c1 c2 c3 f1 hl b0 b2 b5 f5 lb hgr
              obtain ⟨c0, c1, c2, c3, f1, hl, b0, b2, b5, f5, lb, hgr⟩ := HP6.out.top
              rw [HEk.out] at b2
              rw [Hsd.out] at b5
              go_wp2_with fail
              refine (ahead_is (p := ⟨#[60]⟩) HP6.out.rd hs H60.out).mono ?_
              rintro e w7 ⟨rfl, hR, hk⟩
              have HP7 := Lib.hid (HP6.out.reader hR hk)
              have HK7 := Lib.hid (HK6.out.trans (hk.mono (fun i _ e => by have := HP.out.le; omega)))
              clear hR hk
              clear c0 c1 c2 c3 f1 hl b0 b2 b5 f5 lb hgr
              obtain ⟨c0, c1, c2, c3, f1, hl, b0, b2, b5, f5, lb, hgr⟩ := HP7.out.top
              rw [HEk.out] at b2
              go_wp2_with fail
              obtain ⟨⟨ys, yo, yb⟩, hY⟩ : ∃ y, beginS (bs s) (g :: G).length ⟨k, none⟩ = y := ⟨_, rfl⟩
              have hbeg := begin_any base r s k _ (g :: G) w7 HP7.out hs (by simp; omega)
              rw [hY] at hbeg
              dsimp only at hbeg
              have hXe : X = (ys, if yb then pushed yo (g.os :: G.map OG.os) else endS ys.bad (pushed yo (g.os :: G.map OG.os))) := by
                rw [← HX.out]; unfold withinS; rw [HDec.out]; dsimp only
                rw [if_neg (by rw [beq_eq_false_iff_ne] at hnz; omega), if_neg (by rintro ⟨_, h⟩; rw [bs_length] at h; exact hlast h), if_neg (by rw [H47.out]; decide), if_pos H60.out, if_neg (by rw [show g.os.solid = false from Hsd.out]; decide)]
                rw [List.length_map, show G.length + 1 = (g :: G).length from rfl, hY]
              have HXe := Lib.hid hXe
              clear hXe hY
              refine hbeg.mono ?_
              rintro e w8 ⟨rfl, pv8, G8, hP8, hm8, hk8⟩
              have HP8 := Lib.hid hP8
              have HM8 := Lib.hid hm8
              have HK8 := Lib.hid (HK7.out.trans hk8)
              have hlen8 : (G8.map OG.os).length ≤ 22 := by
                rw [hm8]; cases yo <;> simp [pushed] <;> omega
              have hone8 : 1 ≤ (G8.map OG.os).length := by
                rw [hm8]; cases yo <;> simp [pushed]
              rw [List.length_map] at hlen8 hone8
              have hkid8 : Hid (∀ g' ∈ G8, g'.kids.length ≤ 1000000) := by
                show ∀ g' ∈ G8, g'.kids.length ≤ 1000000
                intro g' hg'
                have hmem : g'.os ∈ G8.map OG.os := List.mem_map.2 ⟨g', hg', rfl⟩
                rw [hm8] at hmem
                have hbase' : ∀ o ∈ g.os :: G.map OG.os, o.kids.length ≤ 1000000 := by
                  intro o ho
                  rw [← List.map_cons] at ho
                  obtain ⟨g2, hg2, rfl⟩ := List.mem_map.1 ho
                  exact Nat.le_trans (hsm g2 hg2) (by decide)
                cases yo with
                | none => exact hbase' _ hmem
                | some nm =>
                  rcases List.mem_cons.1 hmem with e | e
                  · rw [show g'.kids = g'.os.kids from rfl, e]; exact Nat.zero_le _
                  · exact hbase' _ e
              clear hbeg hm8 hk8
              clear c0 c1 c2 c3 f1 hl b0 b2 b5 f5 lb hgr
              obtain ⟨A8, cp8, rfl, _⟩ := own_slice hP8.pile
              cases yb with
              | true =>
                clear hP8
                go_wp2_with fail
                go_end0
                rw [HXe.out]
                exact ⟨rfl, _, _, HP8.out, HM8.out, HK8.out⟩
              | false =>
                obtain ⟨yk, ybad⟩ := ys
                obtain ⟨c0, c1, c3, f1, f3, hl⟩ := hP8.rd.cells
                cases ybad with
                | some x =>
                  obtain ⟨bb, c2⟩ := hP8.rd.some
                  clear hP8
                  go_wp2_with fail
                  go_end0
                  rw [HXe.out]
                  refine ⟨rfl, _, _, HP8.out, ?_, HK8.out⟩
                  rw [HM8.out]; rfl
                | none =>
                  have c2 := hP8.rd.none
                  clear hP8
                  go_wp2_with fail
                  refine (end_any base r s ⟨yk, none⟩ _ G8 w8 HP8.out hlen8 hone8 hkid8.out).mono ?_
                  rintro e w9 ⟨rfl, pv9, G9, hP9, hm9, hk9⟩
                  have HP9 := Lib.hid hP9
                  have HM9 := Lib.hid hm9
                  have HK9 := Lib.hid (HK8.out.trans hk9)
                  clear hP9 hm9 hk9 c0 c1 c2 c3 f1 f3 hl
                  go_wp2_with fail
                  go_end0
                  rw [HXe.out]
                  refine ⟨rfl, _, _, HP9.out, ?_, HK9.out⟩
                  rw [HM9.out, HM8.out]; rfl
      | false =>
        have H60 := Lib.hid h60
        clear h60
        go_wp2_with fail
        go_quiet ((go_at_call 26; exact ahead_q (p := ⟨#[60]⟩) HP2.out.rd hs H60.out _))
        have HP4 := Lib.hid (HP2.out.keepAll ((Keeps.refl (fun _ => False) w2).drewN nq))
        have HG4 := Lib.hid (HG2.out.keep ((Keeps.refl (fun _ => False) w2).drewN nq) (fun _ _ h => h))
        have HK4 := Lib.hid (HK2.out.drewN nq)
        generalize w2.drewN nq = w4 at HP4 HG4 HK4 ⊢
        clear c0 c1 c2 c3 f1 hl b0 b2 b5 f5 lb hgr
        obtain ⟨c0, c1, c2, c3, f1, hl, b0, b2, b5, f5, lb, hgr⟩ := HP4.out.top
        rw [HEk.out] at b2
        go_wp2_with fail
        have H47 := Lib.hid (show pre [60, 47] ((bs s).drop k) = false from pre_two H60.out)
        by_cases hk0 : 0 < g.kids.length
        · have hk0' : (0 : Int) < (g.kids.length : Int) := by omega
          cases sv with
          | true =>
            refine (ahead_is (p := ⟨#[60, 47]⟩) HP4.out.rd hs H47.out).mono ?_
            rintro e w5 ⟨rfl, hR, hk⟩
            have HP5 := Lib.hid (HP4.out.reader hR hk)
            have HK5 := Lib.hid (HK4.out.trans (hk.mono (fun i _ e => by have := HP.out.le; omega)))
            clear hR hk
            clear c0 c1 c2 c3 f1 hl b0 b2 b5 f5 lb hgr
            obtain ⟨c0, c1, c2, c3, f1, hl, b0, b2, b5, f5, lb, hgr⟩ := HP5.out.top
            rw [HEk.out] at b2
            go_wp2_with fail
            refine (ahead_is (p := ⟨#[60]⟩) HP5.out.rd hs H60.out).mono ?_
            rintro e w6 ⟨rfl, hR, hk⟩
            have HP6 := Lib.hid (HP5.out.reader hR hk)
            have HK6 := Lib.hid (HK5.out.trans (hk.mono (fun i _ e => by have := HP.out.le; omega)))
            clear hR hk
            clear c0 c1 c2 c3 f1 hl b0 b2 b5 f5 lb hgr
            obtain ⟨c0, c1, c2, c3, f1, hl, b0, b2, b5, f5, lb, hgr⟩ := HP6.out.top
            rw [HEk.out] at b2
            go_wp2_with fail
            refine (ahead_is (p := ⟨#[60]⟩) HP6.out.rd hs H60.out).mono ?_
            rintro e w7 ⟨rfl, hR, hk⟩
            have HP7 := Lib.hid (HP6.out.reader hR hk)
            have HK7 := Lib.hid (HK6.out.trans (hk.mono (fun i _ e => by have := HP.out.le; omega)))
            clear hR hk
            clear c0 c1 c2 c3 f1 hl b0 b2 b5 f5 lb hgr
            obtain ⟨c0, c1, c2, c3, f1, hl, b0, b2, b5, f5, lb, hgr⟩ := HP7.out.top
            rw [HEk.out] at b2
            go_wp2_with fail
            refine (fail_any r s ⟨k, none⟩ _ 55 _ w7 HP7.out.rd).mono ?_
            rintro e wf ⟨rfl, hR, hk⟩
            have HPf := Lib.hid (HP7.out.reader hR hk)
            have HKf := Lib.hid (HK7.out.trans (hk.mono (fun i _ e => by have := HP.out.le; omega)))
            clear hR hk
            clear c0 c1 c2 c3 f1 hl b0 b2 b5 f5 lb hgr
            go_wp2_with fail
            go_end0
            have hXe : X = (⟨k, some (55, k)⟩, g.os :: G.map OG.os) := by
              rw [← HX.out]; unfold withinS; rw [HDec.out]; dsimp only
              rw [if_neg (by rw [beq_eq_false_iff_ne] at hnz; omega), if_neg (by rintro ⟨h, _⟩; rw [H60.out] at h; cases h), if_neg (by rw [pre_two H60.out]; decide), if_neg (by rw [H60.out]; decide), if_pos ⟨hk0, HSv.out⟩]
            rw [hXe]
            exact ⟨rfl, _, _, HPf.out, rfl, HKf.out⟩
          | false =>
            first
              | exact absurd hsv' (by decide)
              | skip
            all_goals
              have H6 : Hid (¬ (0 < g.os.kids.length ∧ solidR c = true)) := by
                show ¬ _
                rintro ⟨_, h⟩; rw [HSv.out] at h; cases h
              refine (ahead_is (p := ⟨#[60, 47]⟩) HP4.out.rd hs H47.out).mono ?_
              rintro e w5 ⟨rfl, hR, hk⟩
              have HP5 := Lib.hid (HP4.out.reader hR hk)
              have HK5 := Lib.hid (HK4.out.trans (hk.mono (fun i _ e => by have := HP.out.le; omega)))
              clear hR hk
              clear c0 c1 c2 c3 f1 hl b0 b2 b5 f5 lb hgr
              obtain ⟨c0, c1, c2, c3, f1, hl, b0, b2, b5, f5, lb, hgr⟩ := HP5.out.top
              rw [HEk.out] at b2
              go_wp2_with fail
              refine (ahead_is (p := ⟨#[60]⟩) HP5.out.rd hs H60.out).mono ?_
              rintro e w6 ⟨rfl, hR, hk⟩
              have HP6 := Lib.hid (HP5.out.reader hR hk)
              have HK6 := Lib.hid (HK5.out.trans (hk.mono (fun i _ e => by have := HP.out.le; omega)))
              clear hR hk
              clear c0 c1 c2 c3 f1 hl b0 b2 b5 f5 lb hgr
              obtain ⟨c0, c1, c2, c3, f1, hl, b0, b2, b5, f5, lb, hgr⟩ := HP6.out.top
              rw [HEk.out] at b2
              go_wp2_with fail
              refine (ahead_is (p := ⟨#[60]⟩) HP6.out.rd hs H60.out).mono ?_
              rintro e w7 ⟨rfl, hR, hk⟩
              have HP7 := Lib.hid (HP6.out.reader hR hk)
              have HK7 := Lib.hid (HK6.out.trans (hk.mono (fun i _ e => by have := HP.out.le; omega)))
              clear hR hk
              clear c0 c1 c2 c3 f1 hl b0 b2 b5 f5 lb hgr
              obtain ⟨c0, c1, c2, c3, f1, hl, b0, b2, b5, f5, lb, hgr⟩ := HP7.out.top
              rw [HEk.out] at b2
              go_wp2_with fail
              cases h38 : pre [38] ((bs s).drop k) with
              | true =>
                have H38 := Lib.hid h38
                clear h38
                refine (ahead_is (p := ⟨#[38]⟩) HP7.out.rd hs H38.out).mono ?_
                rintro e w8 ⟨rfl, hR, hk⟩
                have HP8 := Lib.hid (HP7.out.reader hR hk)
                have HK8 := Lib.hid (HK7.out.trans (hk.mono (fun i _ e => by have := HP.out.le; omega)))
                clear hR hk
                clear c0 c1 c2 c3 f1 hl b0 b2 b5 f5 lb hgr
                obtain ⟨c0, c1, c2, c3, f1, hl, b0, b2, b5, f5, lb, hgr⟩ := HP8.out.top
                rw [HEk.out] at b2
                go_wp2_with fail
                have HP9 := Lib.hid (HP8.out.solid true)
                have HK9 := Lib.hid (HK8.out.set (p := ⟨g.blk, 5, none⟩) (fun _ => .inr (HP8.out.open_ g (by simp)).2.1) (.bool true))
                have HG9 := Lib.hid (HG.out.keep HK9.out (fun i hi h => by have := HP.out.le; omega))
                generalize w8.setCell ⟨g.blk, 5, none⟩ (.bool true) = w9 at HP9 HK9 HG9 ⊢
                clear c0 c1 c2 c3 f1 hl b0 b2 b5 f5 lb hgr
                have ho9 := HP9.out.open_ (g.told g.text g.a g.u true) (by simp)
                have hrf := reference_any w9 base r g.blk s ⟨k, none⟩ rfl _ HP9.out.rd hs HG9.out (by have := HP.out.le; omega) (by have : base ≤ g.blk := ho9.2.1; omega) _ _ _ _ _ _ g.text ho9.1 ho9.2.2.1 ho9.2.2.2.1 (by omega) HP9.out.size hb3
                refine hrf.mono ?_
                rintro e w10 ⟨rfl, hpost⟩
                obtain ⟨q, hq⟩ : ∃ q, refR ((bs s).drop k) = q := ⟨_, rfl⟩
                dsimp only at hpost
                rw [hq] at hpost
                have Hq := Lib.hid hq
                clear hrf ho9 hq
                cases q with
                | is o m =>
                  obtain ⟨u', hR10, hB10, hO10, hK10, hN10⟩ := hpost
                  have hP10 := HP9.out.text (t := g.text ++ o) hR10 hK10 hB10 (.inr rfl) (by rw [List.length_append, u8s_append]; exact hO10) (fun h => absurd (List.append_eq_nil_iff.1 h).2 (refR_ne Hq.out)) hN10
                  have HP10 := Lib.hid hP10
                  have HK10 := Lib.hid (HK9.out.trans' hK10 (fun i hi h => by
                    rcases h with rfl | rfl | h
                    · exact .inl rfl
                    · exact .inr (HP9.out.open_ (g.told g.text g.a g.u true) (by simp)).2.1
                    · exact .inr (own_lt (HP9.out.open_ (g.told g.text g.a g.u true) (by simp)).2.2.2.1 h).2))
                  clear hR10 hB10 hO10 hK10 hN10 hP10
                  go_wp2_with fail
                  go_end0
                  have hXe : X = (⟨k + m, none⟩, { g.os with text := g.os.text ++ o, solid := true } :: G.map OG.os) := by
                    rw [← HX.out]; unfold withinS; rw [HDec.out]; dsimp only
                    rw [if_neg (by rw [beq_eq_false_iff_ne] at hnz; omega), if_neg (by rintro ⟨h, _⟩; rw [H60.out] at h; cases h), if_neg (by rw [H47.out]; decide), if_neg (by rw [H60.out]; decide), if_neg H6.out, if_pos H38.out, Hq.out]
                  rw [hXe]
                  exact ⟨rfl, _, _, HP10.out, rfl, HK10.out⟩
                | bad sh =>
                  obtain ⟨hR10, hK10⟩ := hpost
                  have HP10 := Lib.hid (HP9.out.reader hR10 hK10)
                  have HK10 := Lib.hid (HK9.out.trans (hK10.mono (fun i _ e => by have := HP.out.le; omega)))
                  clear hR10 hK10
                  go_wp2_with fail
                  go_end0
                  have hXe : X = (⟨k, some (55, if sh then s.size else k)⟩, { g.os with solid := true } :: G.map OG.os) := by
                    rw [← HX.out]; unfold withinS; rw [HDec.out]; dsimp only
                    rw [if_neg (by rw [beq_eq_false_iff_ne] at hnz; omega), if_neg (by rintro ⟨h, _⟩; rw [H60.out] at h; cases h), if_neg (by rw [H47.out]; decide), if_neg (by rw [H60.out]; decide), if_neg H6.out, if_pos H38.out, Hq.out, bs_length]
                  rw [hXe]
                  exact ⟨rfl, _, _, HP10.out, rfl, HK10.out⟩
              | false =>
                have H38 := Lib.hid h38
                clear h38
                by_cases hce : c = 65533
                · have hceB : ((c : Int) == 65533) = true := by rw [beq_iff_eq]; omega
                  by_cases hn1 : n = 1
                  · have hn1B : ((n : Int) == 1) = true := by rw [beq_iff_eq]; omega
                    have hboth := Lib.hid (And.intro hce hn1)
                    clear hce hn1
                    refine (ahead_is (p := ⟨#[38]⟩) HP7.out.rd hs H38.out).mono ?_
                    rintro e w8 ⟨rfl, hR, hk⟩
                    have HP8 := Lib.hid (HP7.out.reader hR hk)
                    have HK8 := Lib.hid (HK7.out.trans (hk.mono (fun i _ e => by have := HP.out.le; omega)))
                    clear hR hk
                    clear c0 c1 c2 c3 f1 hl b0 b2 b5 f5 lb hgr
                    obtain ⟨c0, c1, c2, c3, f1, hl, b0, b2, b5, f5, lb, hgr⟩ := HP8.out.top
                    rw [HEk.out] at b2
                    go_wp2_with fail
                    refine (fail_any r s ⟨k, none⟩ _ 55 _ w8 HP8.out.rd).mono ?_
                    rintro e wf ⟨rfl, hR, hk⟩
                    have HPf := Lib.hid (HP8.out.reader hR hk)
                    have HKf := Lib.hid (HK8.out.trans (hk.mono (fun i _ e => by have := HP.out.le; omega)))
                    clear hR hk
                    clear c0 c1 c2 c3 f1 hl b0 b2 b5 f5 lb hgr
                    go_wp2_with fail
                    go_end0
                    have hXe : X = (⟨k, some (55, k)⟩, g.os :: G.map OG.os) := by
                      rw [← HX.out]; unfold withinS; rw [HDec.out]; dsimp only
                      rw [if_neg (by rw [beq_eq_false_iff_ne] at hnz; omega), if_neg (by rintro ⟨h, _⟩; rw [H60.out] at h; cases h), if_neg (by rw [H47.out]; decide), if_neg (by rw [H60.out]; decide), if_neg H6.out, if_neg (by rw [H38.out]; decide), if_pos (.inl hboth.out)]
                    rw [hXe]
                    exact ⟨rfl, _, _, HPf.out, rfl, HKf.out⟩
                  · have hn1B : ((n : Int) == 1) = false := by rw [beq_eq_false_iff_ne]; omega
                    have hbad : ¬ (c = 65533 ∧ n = 1) := fun h => hn1 h.2
                    clear hce
                    cases hkn : knowsB c with
                    | false =>
                      refine (ahead_is (p := ⟨#[38]⟩) HP7.out.rd hs H38.out).mono ?_
                      rintro e w8 ⟨rfl, hR, hk⟩
                      have HP8 := Lib.hid (HP7.out.reader hR hk)
                      have HK8 := Lib.hid (HK7.out.trans (hk.mono (fun i _ e => by have := HP.out.le; omega)))
                      clear hR hk
                      clear c0 c1 c2 c3 f1 hl b0 b2 b5 f5 lb hgr
                      obtain ⟨c0, c1, c2, c3, f1, hl, b0, b2, b5, f5, lb, hgr⟩ := HP8.out.top
                      rw [HEk.out] at b2
                      go_wp2_with fail
                      refine (knows_any c w8).mono ?_
                      rintro e w9 ⟨rfl, rfl⟩
                      rw [hkn]
                      go_wp2_with fail
                      refine (fail_any r s ⟨k, none⟩ _ 55 _ w8 HP8.out.rd).mono ?_
                      rintro e wf ⟨rfl, hR, hk⟩
                      have HPf := Lib.hid (HP8.out.reader hR hk)
                      have HKf := Lib.hid (HK8.out.trans (hk.mono (fun i _ e => by have := HP.out.le; omega)))
                      clear hR hk
                      clear c0 c1 c2 c3 f1 hl b0 b2 b5 f5 lb hgr
                      go_wp2_with fail
                      go_end0
                      have hXe : X = (⟨k, some (55, k)⟩, g.os :: G.map OG.os) := by
                        rw [← HX.out]; unfold withinS; rw [HDec.out]; dsimp only
                        rw [if_neg (by rw [beq_eq_false_iff_ne] at hnz; omega), if_neg (by rintro ⟨h, _⟩; rw [H60.out] at h; cases h), if_neg (by rw [H47.out]; decide), if_neg (by rw [H60.out]; decide), if_neg H6.out, if_neg (by rw [H38.out]; decide), if_pos (.inr hkn)]
                      rw [hXe]
                      exact ⟨rfl, _, _, HPf.out, rfl, HKf.out⟩
                    | true =>
                      have HNb : Hid (¬ ((c = 65533 ∧ n = 1) ∨ knowsB c = false)) := by
                        show ¬ _
                        rintro (h | h)
                        · exact hbad h
                        · rw [hkn] at h; cases h
                      cases hsd : g.solid with
                      | true =>
                        have Hsd := Lib.hid hsd
                        rw [hsd] at b5
                        clear hsd
                        refine (ahead_is (p := ⟨#[38]⟩) HP7.out.rd hs H38.out).mono ?_
                        rintro e w8 ⟨rfl, hR, hk⟩
                        have HP8 := Lib.hid (HP7.out.reader hR hk)
                        have HK8 := Lib.hid (HK7.out.trans (hk.mono (fun i _ e => by have := HP.out.le; omega)))
                        clear hR hk
                        clear c0 c1 c2 c3 f1 hl b0 b2 b5 f5 lb hgr
                        obtain ⟨c0, c1, c2, c3, f1, hl, b0, b2, b5, f5, lb, hgr⟩ := HP8.out.top
                        rw [HEk.out] at b2
                        rw [Hsd.out] at b5
                        go_wp2_with fail
                        refine (knows_any c w8).mono ?_
                        rintro e w9 ⟨rfl, rfl⟩
                        rw [hkn]
                        go_wp2_with fail
                        have HP9 := Lib.hid (HP8.out.solid true)
                        have HK9 := Lib.hid (HK8.out.set (p := ⟨g.blk, 5, none⟩) (fun _ => .inr (HP8.out.open_ g (by simp)).2.1) (.bool true))
                        generalize w8.setCell ⟨g.blk, 5, none⟩ (.bool true) = w9 at HP9 HK9 ⊢
                        clear c0 c1 c2 c3 f1 hl b0 b2 b5 f5 lb hgr
                        have ho9 := HP9.out.open_ (g.told g.text g.a g.u true) (by simp)
                        refine (writeRune_at g.blk _ _ _ _ _ _ g.text base c w9 ho9.1 ho9.2.2.1 ho9.2.2.2.1 (by omega) (by omega) (by omega) HP9.out.size).mono ?_
                        rintro e w10 ⟨nn, u', rfl, hB10, hO10, hK10, hN10⟩
                        have hR10 := wrote_rd HP9.out.rd ho9.1 ho9.2.2.2.1 hK10
                        have hP10 := HP9.out.text (t := g.text ++ encR c) hR10 (hK10.mono (fun i _ h => .inr h)) hB10 (.inr rfl) (by rw [List.length_append, u8s_append, u8s_encR, show (encR c).length = (Lib.runeCells c).length by rw [← u8s_encR, u8s_length]]; exact hO10) (fun h => absurd (List.append_eq_nil_iff.1 h).2 (encR_ne c)) hN10
                        have HP10 := Lib.hid hP10
                        have HK10 := Lib.hid (HK9.out.trans' hK10 (fun i hi h => by
                          rcases h with rfl | h
                          · exact .inr ho9.2.1
                          · exact .inr (own_lt ho9.2.2.2.1 h).2))
                        clear hR10 hB10 hO10 hK10 hN10 ho9
                        obtain ⟨c0, c1, c3, f1, f3, hl⟩ := hP10.rd.cells
                        clear hP10
                        have sn : IntKind.i64.wrap ((k : Int) + n) = (k : Int) + n := by rw [IntWalk.i64_in _ (by omega)]
                        go_wp2_with fail
                        have hR11 := HP10.out.rd.step (k + n) (by omega) (v := .int .i64 ((k : Int) + n)) (by go_num)
                        have HP11 := Lib.hid (HP10.out.reader hR11 ((Keeps.refl (· = r) w10).set1 1 _))
                        have HK11 := Lib.hid (HK10.out.trans (((Keeps.refl (· = r) w10).set1 1 (.int .i64 ((k : Int) + n))).mono (D' := fun k => k = r ∨ base ≤ k) (fun i _ e => by have := HP.out.le; omega)))
                        go_end0
                        have hXe : X = (⟨k + n, none⟩, { g.os with text := g.os.text ++ encR c, solid := g.os.solid || solidR c } :: G.map OG.os) := by
                          rw [← HX.out]; unfold withinS; rw [HDec.out]; dsimp only
                          rw [if_neg (by rw [beq_eq_false_iff_ne] at hnz; omega), if_neg (by rintro ⟨h, _⟩; rw [H60.out] at h; cases h), if_neg (by rw [H47.out]; decide), if_neg (by rw [H60.out]; decide), if_neg H6.out, if_neg (by rw [H38.out]; decide), if_neg HNb.out]
                        rw [hXe]
                        refine ⟨rfl, _, _, HP11.out, ?_, HK11.out⟩
                        rw [show g.os.solid = g.solid from rfl, Hsd.out, Bool.true_or]
                        rfl
                      | false =>
                        have Hsd := Lib.hid hsd
                        rw [hsd] at b5
                        clear hsd
                        refine (ahead_is (p := ⟨#[38]⟩) HP7.out.rd hs H38.out).mono ?_
                        rintro e w8 ⟨rfl, hR, hk⟩
                        have HP8 := Lib.hid (HP7.out.reader hR hk)
                        have HK8 := Lib.hid (HK7.out.trans (hk.mono (fun i _ e => by have := HP.out.le; omega)))
                        clear hR hk
                        clear c0 c1 c2 c3 f1 hl b0 b2 b5 f5 lb hgr
                        obtain ⟨c0, c1, c2, c3, f1, hl, b0, b2, b5, f5, lb, hgr⟩ := HP8.out.top
                        rw [HEk.out] at b2
                        rw [Hsd.out] at b5
                        go_wp2_with fail
                        refine (knows_any c w8).mono ?_
                        rintro e w9 ⟨rfl, rfl⟩
                        rw [hkn]
                        go_wp2_with fail
                        have HP9 := Lib.hid (HP8.out.solid false)
                        have HK9 := Lib.hid (HK8.out.set (p := ⟨g.blk, 5, none⟩) (fun _ => .inr (HP8.out.open_ g (by simp)).2.1) (.bool false))
                        generalize w8.setCell ⟨g.blk, 5, none⟩ (.bool false) = w9 at HP9 HK9 ⊢
                        clear c0 c1 c2 c3 f1 hl b0 b2 b5 f5 lb hgr
                        have ho9 := HP9.out.open_ (g.told g.text g.a g.u false) (by simp)
                        refine (writeRune_at g.blk _ _ _ _ _ _ g.text base c w9 ho9.1 ho9.2.2.1 ho9.2.2.2.1 (by omega) (by omega) (by omega) HP9.out.size).mono ?_
                        rintro e w10 ⟨nn, u', rfl, hB10, hO10, hK10, hN10⟩
                        have hR10 := wrote_rd HP9.out.rd ho9.1 ho9.2.2.2.1 hK10
                        have hP10 := HP9.out.text (t := g.text ++ encR c) hR10 (hK10.mono (fun i _ h => .inr h)) hB10 (.inr rfl) (by rw [List.length_append, u8s_append, u8s_encR, show (encR c).length = (Lib.runeCells c).length by rw [← u8s_encR, u8s_length]]; exact hO10) (fun h => absurd (List.append_eq_nil_iff.1 h).2 (encR_ne c)) hN10
                        have HP10 := Lib.hid hP10
                        have HK10 := Lib.hid (HK9.out.trans' hK10 (fun i hi h => by
                          rcases h with rfl | h
                          · exact .inr ho9.2.1
                          · exact .inr (own_lt ho9.2.2.2.1 h).2))
                        clear hR10 hB10 hO10 hK10 hN10 ho9
                        obtain ⟨c0, c1, c3, f1, f3, hl⟩ := hP10.rd.cells
                        clear hP10
                        have sn : IntKind.i64.wrap ((k : Int) + n) = (k : Int) + n := by rw [IntWalk.i64_in _ (by omega)]
                        go_wp2_with fail
                        have hR11 := HP10.out.rd.step (k + n) (by omega) (v := .int .i64 ((k : Int) + n)) (by go_num)
                        have HP11 := Lib.hid (HP10.out.reader hR11 ((Keeps.refl (· = r) w10).set1 1 _))
                        have HK11 := Lib.hid (HK10.out.trans (((Keeps.refl (· = r) w10).set1 1 (.int .i64 ((k : Int) + n))).mono (D' := fun k => k = r ∨ base ≤ k) (fun i _ e => by have := HP.out.le; omega)))
                        go_end0
                        have hXe : X = (⟨k + n, none⟩, { g.os with text := g.os.text ++ encR c, solid := g.os.solid || solidR c } :: G.map OG.os) := by
                          rw [← HX.out]; unfold withinS; rw [HDec.out]; dsimp only
                          rw [if_neg (by rw [beq_eq_false_iff_ne] at hnz; omega), if_neg (by rintro ⟨h, _⟩; rw [H60.out] at h; cases h), if_neg (by rw [H47.out]; decide), if_neg (by rw [H60.out]; decide), if_neg H6.out, if_neg (by rw [H38.out]; decide), if_neg HNb.out]
                        rw [hXe]
                        refine ⟨rfl, _, _, HP11.out, ?_, HK11.out⟩
                        rw [show g.os.solid = g.solid from rfl, Hsd.out, HSv.out]
                        rfl
                · have hceB : ((c : Int) == 65533) = false := by rw [beq_eq_false_iff_ne]; omega
                  have hbad : ¬ (c = 65533 ∧ n = 1) := fun h => hce h.1
                  cases hkn : knowsB c with
                  | false =>
                    refine (ahead_is (p := ⟨#[38]⟩) HP7.out.rd hs H38.out).mono ?_
                    rintro e w8 ⟨rfl, hR, hk⟩
                    have HP8 := Lib.hid (HP7.out.reader hR hk)
                    have HK8 := Lib.hid (HK7.out.trans (hk.mono (fun i _ e => by have := HP.out.le; omega)))
                    clear hR hk
                    clear c0 c1 c2 c3 f1 hl b0 b2 b5 f5 lb hgr
                    obtain ⟨c0, c1, c2, c3, f1, hl, b0, b2, b5, f5, lb, hgr⟩ := HP8.out.top
                    rw [HEk.out] at b2
                    go_wp2_with fail
                    refine (knows_any c w8).mono ?_
                    rintro e w9 ⟨rfl, rfl⟩
                    rw [hkn]
                    go_wp2_with fail
                    refine (fail_any r s ⟨k, none⟩ _ 55 _ w8 HP8.out.rd).mono ?_
                    rintro e wf ⟨rfl, hR, hk⟩
                    have HPf := Lib.hid (HP8.out.reader hR hk)
                    have HKf := Lib.hid (HK8.out.trans (hk.mono (fun i _ e => by have := HP.out.le; omega)))
                    clear hR hk
                    clear c0 c1 c2 c3 f1 hl b0 b2 b5 f5 lb hgr
                    go_wp2_with fail
                    go_end0
                    have hXe : X = (⟨k, some (55, k)⟩, g.os :: G.map OG.os) := by
                      rw [← HX.out]; unfold withinS; rw [HDec.out]; dsimp only
                      rw [if_neg (by rw [beq_eq_false_iff_ne] at hnz; omega), if_neg (by rintro ⟨h, _⟩; rw [H60.out] at h; cases h), if_neg (by rw [H47.out]; decide), if_neg (by rw [H60.out]; decide), if_neg H6.out, if_neg (by rw [H38.out]; decide), if_pos (.inr hkn)]
                    rw [hXe]
                    exact ⟨rfl, _, _, HPf.out, rfl, HKf.out⟩
                  | true =>
                    have HNb : Hid (¬ ((c = 65533 ∧ n = 1) ∨ knowsB c = false)) := by
                      show ¬ _
                      rintro (h | h)
                      · exact hbad h
                      · rw [hkn] at h; cases h
                    cases hsd : g.solid with
                    | true =>
                      have Hsd := Lib.hid hsd
                      rw [hsd] at b5
                      clear hsd
                      refine (ahead_is (p := ⟨#[38]⟩) HP7.out.rd hs H38.out).mono ?_
                      rintro e w8 ⟨rfl, hR, hk⟩
                      have HP8 := Lib.hid (HP7.out.reader hR hk)
                      have HK8 := Lib.hid (HK7.out.trans (hk.mono (fun i _ e => by have := HP.out.le; omega)))
                      clear hR hk
                      clear c0 c1 c2 c3 f1 hl b0 b2 b5 f5 lb hgr
                      obtain ⟨c0, c1, c2, c3, f1, hl, b0, b2, b5, f5, lb, hgr⟩ := HP8.out.top
                      rw [HEk.out] at b2
                      rw [Hsd.out] at b5
                      go_wp2_with fail
                      refine (knows_any c w8).mono ?_
                      rintro e w9 ⟨rfl, rfl⟩
                      rw [hkn]
                      go_wp2_with fail
                      have HP9 := Lib.hid (HP8.out.solid true)
                      have HK9 := Lib.hid (HK8.out.set (p := ⟨g.blk, 5, none⟩) (fun _ => .inr (HP8.out.open_ g (by simp)).2.1) (.bool true))
                      generalize w8.setCell ⟨g.blk, 5, none⟩ (.bool true) = w9 at HP9 HK9 ⊢
                      clear c0 c1 c2 c3 f1 hl b0 b2 b5 f5 lb hgr
                      have ho9 := HP9.out.open_ (g.told g.text g.a g.u true) (by simp)
                      refine (writeRune_at g.blk _ _ _ _ _ _ g.text base c w9 ho9.1 ho9.2.2.1 ho9.2.2.2.1 (by omega) (by omega) (by omega) HP9.out.size).mono ?_
                      rintro e w10 ⟨nn, u', rfl, hB10, hO10, hK10, hN10⟩
                      have hR10 := wrote_rd HP9.out.rd ho9.1 ho9.2.2.2.1 hK10
                      have hP10 := HP9.out.text (t := g.text ++ encR c) hR10 (hK10.mono (fun i _ h => .inr h)) hB10 (.inr rfl) (by rw [List.length_append, u8s_append, u8s_encR, show (encR c).length = (Lib.runeCells c).length by rw [← u8s_encR, u8s_length]]; exact hO10) (fun h => absurd (List.append_eq_nil_iff.1 h).2 (encR_ne c)) hN10
                      have HP10 := Lib.hid hP10
                      have HK10 := Lib.hid (HK9.out.trans' hK10 (fun i hi h => by
                        rcases h with rfl | h
                        · exact .inr ho9.2.1
                        · exact .inr (own_lt ho9.2.2.2.1 h).2))
                      clear hR10 hB10 hO10 hK10 hN10 ho9
                      obtain ⟨c0, c1, c3, f1, f3, hl⟩ := hP10.rd.cells
                      clear hP10
                      have sn : IntKind.i64.wrap ((k : Int) + n) = (k : Int) + n := by rw [IntWalk.i64_in _ (by omega)]
                      go_wp2_with fail
                      have hR11 := HP10.out.rd.step (k + n) (by omega) (v := .int .i64 ((k : Int) + n)) (by go_num)
                      have HP11 := Lib.hid (HP10.out.reader hR11 ((Keeps.refl (· = r) w10).set1 1 _))
                      have HK11 := Lib.hid (HK10.out.trans (((Keeps.refl (· = r) w10).set1 1 (.int .i64 ((k : Int) + n))).mono (D' := fun k => k = r ∨ base ≤ k) (fun i _ e => by have := HP.out.le; omega)))
                      go_end0
                      have hXe : X = (⟨k + n, none⟩, { g.os with text := g.os.text ++ encR c, solid := g.os.solid || solidR c } :: G.map OG.os) := by
                        rw [← HX.out]; unfold withinS; rw [HDec.out]; dsimp only
                        rw [if_neg (by rw [beq_eq_false_iff_ne] at hnz; omega), if_neg (by rintro ⟨h, _⟩; rw [H60.out] at h; cases h), if_neg (by rw [H47.out]; decide), if_neg (by rw [H60.out]; decide), if_neg H6.out, if_neg (by rw [H38.out]; decide), if_neg HNb.out]
                      rw [hXe]
                      refine ⟨rfl, _, _, HP11.out, ?_, HK11.out⟩
                      rw [show g.os.solid = g.solid from rfl, Hsd.out, Bool.true_or]
                      rfl
                    | false =>
                      have Hsd := Lib.hid hsd
                      rw [hsd] at b5
                      clear hsd
                      refine (ahead_is (p := ⟨#[38]⟩) HP7.out.rd hs H38.out).mono ?_
                      rintro e w8 ⟨rfl, hR, hk⟩
                      have HP8 := Lib.hid (HP7.out.reader hR hk)
                      have HK8 := Lib.hid (HK7.out.trans (hk.mono (fun i _ e => by have := HP.out.le; omega)))
                      clear hR hk
                      clear c0 c1 c2 c3 f1 hl b0 b2 b5 f5 lb hgr
                      obtain ⟨c0, c1, c2, c3, f1, hl, b0, b2, b5, f5, lb, hgr⟩ := HP8.out.top
                      rw [HEk.out] at b2
                      rw [Hsd.out] at b5
                      go_wp2_with fail
                      refine (knows_any c w8).mono ?_
                      rintro e w9 ⟨rfl, rfl⟩
                      rw [hkn]
                      go_wp2_with fail
                      have HP9 := Lib.hid (HP8.out.solid false)
                      have HK9 := Lib.hid (HK8.out.set (p := ⟨g.blk, 5, none⟩) (fun _ => .inr (HP8.out.open_ g (by simp)).2.1) (.bool false))
                      generalize w8.setCell ⟨g.blk, 5, none⟩ (.bool false) = w9 at HP9 HK9 ⊢
                      clear c0 c1 c2 c3 f1 hl b0 b2 b5 f5 lb hgr
                      have ho9 := HP9.out.open_ (g.told g.text g.a g.u false) (by simp)
                      refine (writeRune_at g.blk _ _ _ _ _ _ g.text base c w9 ho9.1 ho9.2.2.1 ho9.2.2.2.1 (by omega) (by omega) (by omega) HP9.out.size).mono ?_
                      rintro e w10 ⟨nn, u', rfl, hB10, hO10, hK10, hN10⟩
                      have hR10 := wrote_rd HP9.out.rd ho9.1 ho9.2.2.2.1 hK10
                      have hP10 := HP9.out.text (t := g.text ++ encR c) hR10 (hK10.mono (fun i _ h => .inr h)) hB10 (.inr rfl) (by rw [List.length_append, u8s_append, u8s_encR, show (encR c).length = (Lib.runeCells c).length by rw [← u8s_encR, u8s_length]]; exact hO10) (fun h => absurd (List.append_eq_nil_iff.1 h).2 (encR_ne c)) hN10
                      have HP10 := Lib.hid hP10
                      have HK10 := Lib.hid (HK9.out.trans' hK10 (fun i hi h => by
                        rcases h with rfl | h
                        · exact .inr ho9.2.1
                        · exact .inr (own_lt ho9.2.2.2.1 h).2))
                      clear hR10 hB10 hO10 hK10 hN10 ho9
                      obtain ⟨c0, c1, c3, f1, f3, hl⟩ := hP10.rd.cells
                      clear hP10
                      have sn : IntKind.i64.wrap ((k : Int) + n) = (k : Int) + n := by rw [IntWalk.i64_in _ (by omega)]
                      go_wp2_with fail
                      have hR11 := HP10.out.rd.step (k + n) (by omega) (v := .int .i64 ((k : Int) + n)) (by go_num)
                      have HP11 := Lib.hid (HP10.out.reader hR11 ((Keeps.refl (· = r) w10).set1 1 _))
                      have HK11 := Lib.hid (HK10.out.trans (((Keeps.refl (· = r) w10).set1 1 (.int .i64 ((k : Int) + n))).mono (D' := fun k => k = r ∨ base ≤ k) (fun i _ e => by have := HP.out.le; omega)))
                      go_end0
                      have hXe : X = (⟨k + n, none⟩, { g.os with text := g.os.text ++ encR c, solid := g.os.solid || solidR c } :: G.map OG.os) := by
                        rw [← HX.out]; unfold withinS; rw [HDec.out]; dsimp only
                        rw [if_neg (by rw [beq_eq_false_iff_ne] at hnz; omega), if_neg (by rintro ⟨h, _⟩; rw [H60.out] at h; cases h), if_neg (by rw [H47.out]; decide), if_neg (by rw [H60.out]; decide), if_neg H6.out, if_neg (by rw [H38.out]; decide), if_neg HNb.out]
                      rw [hXe]
                      refine ⟨rfl, _, _, HP11.out, ?_, HK11.out⟩
                      rw [show g.os.solid = g.solid from rfl, Hsd.out, HSv.out]
                      rfl

        · have hk0' : ¬ ((0 : Int) < (g.kids.length : Int)) := by omega
          have H6 : Hid (¬ (0 < g.os.kids.length ∧ solidR c = true)) := by
            show ¬ _
            rintro ⟨h, _⟩; exact hk0 h
          refine (ahead_is (p := ⟨#[60, 47]⟩) HP4.out.rd hs H47.out).mono ?_
          rintro e w5 ⟨rfl, hR, hk⟩
          have HP5 := Lib.hid (HP4.out.reader hR hk)
          have HK5 := Lib.hid (HK4.out.trans (hk.mono (fun i _ e => by have := HP.out.le; omega)))
          clear hR hk
          clear c0 c1 c2 c3 f1 hl b0 b2 b5 f5 lb hgr
          obtain ⟨c0, c1, c2, c3, f1, hl, b0, b2, b5, f5, lb, hgr⟩ := HP5.out.top
          rw [HEk.out] at b2
          go_wp2_with fail
          refine (ahead_is (p := ⟨#[60]⟩) HP5.out.rd hs H60.out).mono ?_
          rintro e w6 ⟨rfl, hR, hk⟩
          have HP6 := Lib.hid (HP5.out.reader hR hk)
          have HK6 := Lib.hid (HK5.out.trans (hk.mono (fun i _ e => by have := HP.out.le; omega)))
          clear hR hk
          clear c0 c1 c2 c3 f1 hl b0 b2 b5 f5 lb hgr
          obtain ⟨c0, c1, c2, c3, f1, hl, b0, b2, b5, f5, lb, hgr⟩ := HP6.out.top
          rw [HEk.out] at b2
          go_wp2_with fail
          refine (ahead_is (p := ⟨#[60]⟩) HP6.out.rd hs H60.out).mono ?_
          rintro e w7 ⟨rfl, hR, hk⟩
          have HP7 := Lib.hid (HP6.out.reader hR hk)
          have HK7 := Lib.hid (HK6.out.trans (hk.mono (fun i _ e => by have := HP.out.le; omega)))
          clear hR hk
          clear c0 c1 c2 c3 f1 hl b0 b2 b5 f5 lb hgr
          obtain ⟨c0, c1, c2, c3, f1, hl, b0, b2, b5, f5, lb, hgr⟩ := HP7.out.top
          rw [HEk.out] at b2
          go_wp2_with fail
          cases h38 : pre [38] ((bs s).drop k) with
          | true =>
            have H38 := Lib.hid h38
            clear h38
            refine (ahead_is (p := ⟨#[38]⟩) HP7.out.rd hs H38.out).mono ?_
            rintro e w8 ⟨rfl, hR, hk⟩
            have HP8 := Lib.hid (HP7.out.reader hR hk)
            have HK8 := Lib.hid (HK7.out.trans (hk.mono (fun i _ e => by have := HP.out.le; omega)))
            clear hR hk
            clear c0 c1 c2 c3 f1 hl b0 b2 b5 f5 lb hgr
            obtain ⟨c0, c1, c2, c3, f1, hl, b0, b2, b5, f5, lb, hgr⟩ := HP8.out.top
            rw [HEk.out] at b2
            go_wp2_with fail
            have HP9 := Lib.hid (HP8.out.solid true)
            have HK9 := Lib.hid (HK8.out.set (p := ⟨g.blk, 5, none⟩) (fun _ => .inr (HP8.out.open_ g (by simp)).2.1) (.bool true))
            have HG9 := Lib.hid (HG.out.keep HK9.out (fun i hi h => by have := HP.out.le; omega))
            generalize w8.setCell ⟨g.blk, 5, none⟩ (.bool true) = w9 at HP9 HK9 HG9 ⊢
            clear c0 c1 c2 c3 f1 hl b0 b2 b5 f5 lb hgr
            have ho9 := HP9.out.open_ (g.told g.text g.a g.u true) (by simp)
            have hrf := reference_any w9 base r g.blk s ⟨k, none⟩ rfl _ HP9.out.rd hs HG9.out (by have := HP.out.le; omega) (by have : base ≤ g.blk := ho9.2.1; omega) _ _ _ _ _ _ g.text ho9.1 ho9.2.2.1 ho9.2.2.2.1 (by omega) HP9.out.size hb3
            refine hrf.mono ?_
            rintro e w10 ⟨rfl, hpost⟩
            obtain ⟨q, hq⟩ : ∃ q, refR ((bs s).drop k) = q := ⟨_, rfl⟩
            dsimp only at hpost
            rw [hq] at hpost
            have Hq := Lib.hid hq
            clear hrf ho9 hq
            cases q with
            | is o m =>
              obtain ⟨u', hR10, hB10, hO10, hK10, hN10⟩ := hpost
              have hP10 := HP9.out.text (t := g.text ++ o) hR10 hK10 hB10 (.inr rfl) (by rw [List.length_append, u8s_append]; exact hO10) (fun h => absurd (List.append_eq_nil_iff.1 h).2 (refR_ne Hq.out)) hN10
              have HP10 := Lib.hid hP10
              have HK10 := Lib.hid (HK9.out.trans' hK10 (fun i hi h => by
                rcases h with rfl | rfl | h
                · exact .inl rfl
                · exact .inr (HP9.out.open_ (g.told g.text g.a g.u true) (by simp)).2.1
                · exact .inr (own_lt (HP9.out.open_ (g.told g.text g.a g.u true) (by simp)).2.2.2.1 h).2))
              clear hR10 hB10 hO10 hK10 hN10 hP10
              go_wp2_with fail
              go_end0
              have hXe : X = (⟨k + m, none⟩, { g.os with text := g.os.text ++ o, solid := true } :: G.map OG.os) := by
                rw [← HX.out]; unfold withinS; rw [HDec.out]; dsimp only
                rw [if_neg (by rw [beq_eq_false_iff_ne] at hnz; omega), if_neg (by rintro ⟨h, _⟩; rw [H60.out] at h; cases h), if_neg (by rw [H47.out]; decide), if_neg (by rw [H60.out]; decide), if_neg H6.out, if_pos H38.out, Hq.out]
              rw [hXe]
              exact ⟨rfl, _, _, HP10.out, rfl, HK10.out⟩
            | bad sh =>
              obtain ⟨hR10, hK10⟩ := hpost
              have HP10 := Lib.hid (HP9.out.reader hR10 hK10)
              have HK10 := Lib.hid (HK9.out.trans (hK10.mono (fun i _ e => by have := HP.out.le; omega)))
              clear hR10 hK10
              go_wp2_with fail
              go_end0
              have hXe : X = (⟨k, some (55, if sh then s.size else k)⟩, { g.os with solid := true } :: G.map OG.os) := by
                rw [← HX.out]; unfold withinS; rw [HDec.out]; dsimp only
                rw [if_neg (by rw [beq_eq_false_iff_ne] at hnz; omega), if_neg (by rintro ⟨h, _⟩; rw [H60.out] at h; cases h), if_neg (by rw [H47.out]; decide), if_neg (by rw [H60.out]; decide), if_neg H6.out, if_pos H38.out, Hq.out, bs_length]
              rw [hXe]
              exact ⟨rfl, _, _, HP10.out, rfl, HK10.out⟩
          | false =>
            have H38 := Lib.hid h38
            clear h38
            by_cases hce : c = 65533
            · have hceB : ((c : Int) == 65533) = true := by rw [beq_iff_eq]; omega
              by_cases hn1 : n = 1
              · have hn1B : ((n : Int) == 1) = true := by rw [beq_iff_eq]; omega
                have hboth := Lib.hid (And.intro hce hn1)
                clear hce hn1
                refine (ahead_is (p := ⟨#[38]⟩) HP7.out.rd hs H38.out).mono ?_
                rintro e w8 ⟨rfl, hR, hk⟩
                have HP8 := Lib.hid (HP7.out.reader hR hk)
                have HK8 := Lib.hid (HK7.out.trans (hk.mono (fun i _ e => by have := HP.out.le; omega)))
                clear hR hk
                clear c0 c1 c2 c3 f1 hl b0 b2 b5 f5 lb hgr
                obtain ⟨c0, c1, c2, c3, f1, hl, b0, b2, b5, f5, lb, hgr⟩ := HP8.out.top
                rw [HEk.out] at b2
                go_wp2_with fail
                refine (fail_any r s ⟨k, none⟩ _ 55 _ w8 HP8.out.rd).mono ?_
                rintro e wf ⟨rfl, hR, hk⟩
                have HPf := Lib.hid (HP8.out.reader hR hk)
                have HKf := Lib.hid (HK8.out.trans (hk.mono (fun i _ e => by have := HP.out.le; omega)))
                clear hR hk
                clear c0 c1 c2 c3 f1 hl b0 b2 b5 f5 lb hgr
                go_wp2_with fail
                go_end0
                have hXe : X = (⟨k, some (55, k)⟩, g.os :: G.map OG.os) := by
                  rw [← HX.out]; unfold withinS; rw [HDec.out]; dsimp only
                  rw [if_neg (by rw [beq_eq_false_iff_ne] at hnz; omega), if_neg (by rintro ⟨h, _⟩; rw [H60.out] at h; cases h), if_neg (by rw [H47.out]; decide), if_neg (by rw [H60.out]; decide), if_neg H6.out, if_neg (by rw [H38.out]; decide), if_pos (.inl hboth.out)]
                rw [hXe]
                exact ⟨rfl, _, _, HPf.out, rfl, HKf.out⟩
              · have hn1B : ((n : Int) == 1) = false := by rw [beq_eq_false_iff_ne]; omega
                have hbad : ¬ (c = 65533 ∧ n = 1) := fun h => hn1 h.2
                clear hce
                cases hkn : knowsB c with
                | false =>
                  refine (ahead_is (p := ⟨#[38]⟩) HP7.out.rd hs H38.out).mono ?_
                  rintro e w8 ⟨rfl, hR, hk⟩
                  have HP8 := Lib.hid (HP7.out.reader hR hk)
                  have HK8 := Lib.hid (HK7.out.trans (hk.mono (fun i _ e => by have := HP.out.le; omega)))
                  clear hR hk
                  clear c0 c1 c2 c3 f1 hl b0 b2 b5 f5 lb hgr
                  obtain ⟨c0, c1, c2, c3, f1, hl, b0, b2, b5, f5, lb, hgr⟩ := HP8.out.top
                  rw [HEk.out] at b2
                  go_wp2_with fail
                  refine (knows_any c w8).mono ?_
                  rintro e w9 ⟨rfl, rfl⟩
                  rw [hkn]
                  go_wp2_with fail
                  refine (fail_any r s ⟨k, none⟩ _ 55 _ w8 HP8.out.rd).mono ?_
                  rintro e wf ⟨rfl, hR, hk⟩
                  have HPf := Lib.hid (HP8.out.reader hR hk)
                  have HKf := Lib.hid (HK8.out.trans (hk.mono (fun i _ e => by have := HP.out.le; omega)))
                  clear hR hk
                  clear c0 c1 c2 c3 f1 hl b0 b2 b5 f5 lb hgr
                  go_wp2_with fail
                  go_end0
                  have hXe : X = (⟨k, some (55, k)⟩, g.os :: G.map OG.os) := by
                    rw [← HX.out]; unfold withinS; rw [HDec.out]; dsimp only
                    rw [if_neg (by rw [beq_eq_false_iff_ne] at hnz; omega), if_neg (by rintro ⟨h, _⟩; rw [H60.out] at h; cases h), if_neg (by rw [H47.out]; decide), if_neg (by rw [H60.out]; decide), if_neg H6.out, if_neg (by rw [H38.out]; decide), if_pos (.inr hkn)]
                  rw [hXe]
                  exact ⟨rfl, _, _, HPf.out, rfl, HKf.out⟩
                | true =>
                  have HNb : Hid (¬ ((c = 65533 ∧ n = 1) ∨ knowsB c = false)) := by
                    show ¬ _
                    rintro (h | h)
                    · exact hbad h
                    · rw [hkn] at h; cases h
                  cases hsd : g.solid with
                  | true =>
                    have Hsd := Lib.hid hsd
                    rw [hsd] at b5
                    clear hsd
                    refine (ahead_is (p := ⟨#[38]⟩) HP7.out.rd hs H38.out).mono ?_
                    rintro e w8 ⟨rfl, hR, hk⟩
                    have HP8 := Lib.hid (HP7.out.reader hR hk)
                    have HK8 := Lib.hid (HK7.out.trans (hk.mono (fun i _ e => by have := HP.out.le; omega)))
                    clear hR hk
                    clear c0 c1 c2 c3 f1 hl b0 b2 b5 f5 lb hgr
                    obtain ⟨c0, c1, c2, c3, f1, hl, b0, b2, b5, f5, lb, hgr⟩ := HP8.out.top
                    rw [HEk.out] at b2
                    rw [Hsd.out] at b5
                    go_wp2_with fail
                    refine (knows_any c w8).mono ?_
                    rintro e w9 ⟨rfl, rfl⟩
                    rw [hkn]
                    go_wp2_with fail
                    have HP9 := Lib.hid (HP8.out.solid true)
                    have HK9 := Lib.hid (HK8.out.set (p := ⟨g.blk, 5, none⟩) (fun _ => .inr (HP8.out.open_ g (by simp)).2.1) (.bool true))
                    generalize w8.setCell ⟨g.blk, 5, none⟩ (.bool true) = w9 at HP9 HK9 ⊢
                    clear c0 c1 c2 c3 f1 hl b0 b2 b5 f5 lb hgr
                    have ho9 := HP9.out.open_ (g.told g.text g.a g.u true) (by simp)
                    refine (writeRune_at g.blk _ _ _ _ _ _ g.text base c w9 ho9.1 ho9.2.2.1 ho9.2.2.2.1 (by omega) (by omega) (by omega) HP9.out.size).mono ?_
                    rintro e w10 ⟨nn, u', rfl, hB10, hO10, hK10, hN10⟩
                    have hR10 := wrote_rd HP9.out.rd ho9.1 ho9.2.2.2.1 hK10
                    have hP10 := HP9.out.text (t := g.text ++ encR c) hR10 (hK10.mono (fun i _ h => .inr h)) hB10 (.inr rfl) (by rw [List.length_append, u8s_append, u8s_encR, show (encR c).length = (Lib.runeCells c).length by rw [← u8s_encR, u8s_length]]; exact hO10) (fun h => absurd (List.append_eq_nil_iff.1 h).2 (encR_ne c)) hN10
                    have HP10 := Lib.hid hP10
                    have HK10 := Lib.hid (HK9.out.trans' hK10 (fun i hi h => by
                      rcases h with rfl | h
                      · exact .inr ho9.2.1
                      · exact .inr (own_lt ho9.2.2.2.1 h).2))
                    clear hR10 hB10 hO10 hK10 hN10 ho9
                    obtain ⟨c0, c1, c3, f1, f3, hl⟩ := hP10.rd.cells
                    clear hP10
                    have sn : IntKind.i64.wrap ((k : Int) + n) = (k : Int) + n := by rw [IntWalk.i64_in _ (by omega)]
                    go_wp2_with fail
                    have hR11 := HP10.out.rd.step (k + n) (by omega) (v := .int .i64 ((k : Int) + n)) (by go_num)
                    have HP11 := Lib.hid (HP10.out.reader hR11 ((Keeps.refl (· = r) w10).set1 1 _))
                    have HK11 := Lib.hid (HK10.out.trans (((Keeps.refl (· = r) w10).set1 1 (.int .i64 ((k : Int) + n))).mono (D' := fun k => k = r ∨ base ≤ k) (fun i _ e => by have := HP.out.le; omega)))
                    go_end0
                    have hXe : X = (⟨k + n, none⟩, { g.os with text := g.os.text ++ encR c, solid := g.os.solid || solidR c } :: G.map OG.os) := by
                      rw [← HX.out]; unfold withinS; rw [HDec.out]; dsimp only
                      rw [if_neg (by rw [beq_eq_false_iff_ne] at hnz; omega), if_neg (by rintro ⟨h, _⟩; rw [H60.out] at h; cases h), if_neg (by rw [H47.out]; decide), if_neg (by rw [H60.out]; decide), if_neg H6.out, if_neg (by rw [H38.out]; decide), if_neg HNb.out]
                    rw [hXe]
                    refine ⟨rfl, _, _, HP11.out, ?_, HK11.out⟩
                    rw [show g.os.solid = g.solid from rfl, Hsd.out, Bool.true_or]
                    rfl
                  | false =>
                    have Hsd := Lib.hid hsd
                    rw [hsd] at b5
                    clear hsd
                    cases sv with
                    | true =>
                      refine (ahead_is (p := ⟨#[38]⟩) HP7.out.rd hs H38.out).mono ?_
                      rintro e w8 ⟨rfl, hR, hk⟩
                      have HP8 := Lib.hid (HP7.out.reader hR hk)
                      have HK8 := Lib.hid (HK7.out.trans (hk.mono (fun i _ e => by have := HP.out.le; omega)))
                      clear hR hk
                      clear c0 c1 c2 c3 f1 hl b0 b2 b5 f5 lb hgr
                      obtain ⟨c0, c1, c2, c3, f1, hl, b0, b2, b5, f5, lb, hgr⟩ := HP8.out.top
                      rw [HEk.out] at b2
                      rw [Hsd.out] at b5
                      go_wp2_with fail
                      refine (knows_any c w8).mono ?_
                      rintro e w9 ⟨rfl, rfl⟩
                      rw [hkn]
                      go_wp2_with fail
                      have HP9 := Lib.hid (HP8.out.solid true)
                      have HK9 := Lib.hid (HK8.out.set (p := ⟨g.blk, 5, none⟩) (fun _ => .inr (HP8.out.open_ g (by simp)).2.1) (.bool true))
                      generalize w8.setCell ⟨g.blk, 5, none⟩ (.bool true) = w9 at HP9 HK9 ⊢
                      clear c0 c1 c2 c3 f1 hl b0 b2 b5 f5 lb hgr
                      have ho9 := HP9.out.open_ (g.told g.text g.a g.u true) (by simp)
                      refine (writeRune_at g.blk _ _ _ _ _ _ g.text base c w9 ho9.1 ho9.2.2.1 ho9.2.2.2.1 (by omega) (by omega) (by omega) HP9.out.size).mono ?_
                      rintro e w10 ⟨nn, u', rfl, hB10, hO10, hK10, hN10⟩
                      have hR10 := wrote_rd HP9.out.rd ho9.1 ho9.2.2.2.1 hK10
                      have hP10 := HP9.out.text (t := g.text ++ encR c) hR10 (hK10.mono (fun i _ h => .inr h)) hB10 (.inr rfl) (by rw [List.length_append, u8s_append, u8s_encR, show (encR c).length = (Lib.runeCells c).length by rw [← u8s_encR, u8s_length]]; exact hO10) (fun h => absurd (List.append_eq_nil_iff.1 h).2 (encR_ne c)) hN10
                      have HP10 := Lib.hid hP10
                      have HK10 := Lib.hid (HK9.out.trans' hK10 (fun i hi h => by
                        rcases h with rfl | h
                        · exact .inr ho9.2.1
                        · exact .inr (own_lt ho9.2.2.2.1 h).2))
                      clear hR10 hB10 hO10 hK10 hN10 ho9
                      obtain ⟨c0, c1, c3, f1, f3, hl⟩ := hP10.rd.cells
                      clear hP10
                      have sn : IntKind.i64.wrap ((k : Int) + n) = (k : Int) + n := by rw [IntWalk.i64_in _ (by omega)]
                      go_wp2_with fail
                      have hR11 := HP10.out.rd.step (k + n) (by omega) (v := .int .i64 ((k : Int) + n)) (by go_num)
                      have HP11 := Lib.hid (HP10.out.reader hR11 ((Keeps.refl (· = r) w10).set1 1 _))
                      have HK11 := Lib.hid (HK10.out.trans (((Keeps.refl (· = r) w10).set1 1 (.int .i64 ((k : Int) + n))).mono (D' := fun k => k = r ∨ base ≤ k) (fun i _ e => by have := HP.out.le; omega)))
                      go_end0
                      have hXe : X = (⟨k + n, none⟩, { g.os with text := g.os.text ++ encR c, solid := g.os.solid || solidR c } :: G.map OG.os) := by
                        rw [← HX.out]; unfold withinS; rw [HDec.out]; dsimp only
                        rw [if_neg (by rw [beq_eq_false_iff_ne] at hnz; omega), if_neg (by rintro ⟨h, _⟩; rw [H60.out] at h; cases h), if_neg (by rw [H47.out]; decide), if_neg (by rw [H60.out]; decide), if_neg H6.out, if_neg (by rw [H38.out]; decide), if_neg HNb.out]
                      rw [hXe]
                      refine ⟨rfl, _, _, HP11.out, ?_, HK11.out⟩
                      rw [show g.os.solid = g.solid from rfl, Hsd.out, HSv.out]
                      rfl
                    | false =>
                      first
                        | exact absurd hsv' (by decide)
                        | skip
                      all_goals
                        refine (ahead_is (p := ⟨#[38]⟩) HP7.out.rd hs H38.out).mono ?_
                        rintro e w8 ⟨rfl, hR, hk⟩
                        have HP8 := Lib.hid (HP7.out.reader hR hk)
                        have HK8 := Lib.hid (HK7.out.trans (hk.mono (fun i _ e => by have := HP.out.le; omega)))
                        clear hR hk
                        clear c0 c1 c2 c3 f1 hl b0 b2 b5 f5 lb hgr
                        obtain ⟨c0, c1, c2, c3, f1, hl, b0, b2, b5, f5, lb, hgr⟩ := HP8.out.top
                        rw [HEk.out] at b2
                        rw [Hsd.out] at b5
                        go_wp2_with fail
                        refine (knows_any c w8).mono ?_
                        rintro e w9 ⟨rfl, rfl⟩
                        rw [hkn]
                        go_wp2_with fail
                        have HP9 := Lib.hid (HP8.out.solid false)
                        have HK9 := Lib.hid (HK8.out.set (p := ⟨g.blk, 5, none⟩) (fun _ => .inr (HP8.out.open_ g (by simp)).2.1) (.bool false))
                        generalize w8.setCell ⟨g.blk, 5, none⟩ (.bool false) = w9 at HP9 HK9 ⊢
                        clear c0 c1 c2 c3 f1 hl b0 b2 b5 f5 lb hgr
                        have ho9 := HP9.out.open_ (g.told g.text g.a g.u false) (by simp)
                        refine (writeRune_at g.blk _ _ _ _ _ _ g.text base c w9 ho9.1 ho9.2.2.1 ho9.2.2.2.1 (by omega) (by omega) (by omega) HP9.out.size).mono ?_
                        rintro e w10 ⟨nn, u', rfl, hB10, hO10, hK10, hN10⟩
                        have hR10 := wrote_rd HP9.out.rd ho9.1 ho9.2.2.2.1 hK10
                        have hP10 := HP9.out.text (t := g.text ++ encR c) hR10 (hK10.mono (fun i _ h => .inr h)) hB10 (.inr rfl) (by rw [List.length_append, u8s_append, u8s_encR, show (encR c).length = (Lib.runeCells c).length by rw [← u8s_encR, u8s_length]]; exact hO10) (fun h => absurd (List.append_eq_nil_iff.1 h).2 (encR_ne c)) hN10
                        have HP10 := Lib.hid hP10
                        have HK10 := Lib.hid (HK9.out.trans' hK10 (fun i hi h => by
                          rcases h with rfl | h
                          · exact .inr ho9.2.1
                          · exact .inr (own_lt ho9.2.2.2.1 h).2))
                        clear hR10 hB10 hO10 hK10 hN10 ho9
                        obtain ⟨c0, c1, c3, f1, f3, hl⟩ := hP10.rd.cells
                        clear hP10
                        have sn : IntKind.i64.wrap ((k : Int) + n) = (k : Int) + n := by rw [IntWalk.i64_in _ (by omega)]
                        go_wp2_with fail
                        have hR11 := HP10.out.rd.step (k + n) (by omega) (v := .int .i64 ((k : Int) + n)) (by go_num)
                        have HP11 := Lib.hid (HP10.out.reader hR11 ((Keeps.refl (· = r) w10).set1 1 _))
                        have HK11 := Lib.hid (HK10.out.trans (((Keeps.refl (· = r) w10).set1 1 (.int .i64 ((k : Int) + n))).mono (D' := fun k => k = r ∨ base ≤ k) (fun i _ e => by have := HP.out.le; omega)))
                        go_end0
                        have hXe : X = (⟨k + n, none⟩, { g.os with text := g.os.text ++ encR c, solid := g.os.solid || solidR c } :: G.map OG.os) := by
                          rw [← HX.out]; unfold withinS; rw [HDec.out]; dsimp only
                          rw [if_neg (by rw [beq_eq_false_iff_ne] at hnz; omega), if_neg (by rintro ⟨h, _⟩; rw [H60.out] at h; cases h), if_neg (by rw [H47.out]; decide), if_neg (by rw [H60.out]; decide), if_neg H6.out, if_neg (by rw [H38.out]; decide), if_neg HNb.out]
                        rw [hXe]
                        refine ⟨rfl, _, _, HP11.out, ?_, HK11.out⟩
                        rw [show g.os.solid = g.solid from rfl, Hsd.out, HSv.out]
                        rfl
            · have hceB : ((c : Int) == 65533) = false := by rw [beq_eq_false_iff_ne]; omega
              have hbad : ¬ (c = 65533 ∧ n = 1) := fun h => hce h.1
              cases hkn : knowsB c with
              | false =>
                refine (ahead_is (p := ⟨#[38]⟩) HP7.out.rd hs H38.out).mono ?_
                rintro e w8 ⟨rfl, hR, hk⟩
                have HP8 := Lib.hid (HP7.out.reader hR hk)
                have HK8 := Lib.hid (HK7.out.trans (hk.mono (fun i _ e => by have := HP.out.le; omega)))
                clear hR hk
                clear c0 c1 c2 c3 f1 hl b0 b2 b5 f5 lb hgr
                obtain ⟨c0, c1, c2, c3, f1, hl, b0, b2, b5, f5, lb, hgr⟩ := HP8.out.top
                rw [HEk.out] at b2
                go_wp2_with fail
                refine (knows_any c w8).mono ?_
                rintro e w9 ⟨rfl, rfl⟩
                rw [hkn]
                go_wp2_with fail
                refine (fail_any r s ⟨k, none⟩ _ 55 _ w8 HP8.out.rd).mono ?_
                rintro e wf ⟨rfl, hR, hk⟩
                have HPf := Lib.hid (HP8.out.reader hR hk)
                have HKf := Lib.hid (HK8.out.trans (hk.mono (fun i _ e => by have := HP.out.le; omega)))
                clear hR hk
                clear c0 c1 c2 c3 f1 hl b0 b2 b5 f5 lb hgr
                go_wp2_with fail
                go_end0
                have hXe : X = (⟨k, some (55, k)⟩, g.os :: G.map OG.os) := by
                  rw [← HX.out]; unfold withinS; rw [HDec.out]; dsimp only
                  rw [if_neg (by rw [beq_eq_false_iff_ne] at hnz; omega), if_neg (by rintro ⟨h, _⟩; rw [H60.out] at h; cases h), if_neg (by rw [H47.out]; decide), if_neg (by rw [H60.out]; decide), if_neg H6.out, if_neg (by rw [H38.out]; decide), if_pos (.inr hkn)]
                rw [hXe]
                exact ⟨rfl, _, _, HPf.out, rfl, HKf.out⟩
              | true =>
                have HNb : Hid (¬ ((c = 65533 ∧ n = 1) ∨ knowsB c = false)) := by
                  show ¬ _
                  rintro (h | h)
                  · exact hbad h
                  · rw [hkn] at h; cases h
                cases hsd : g.solid with
                | true =>
                  have Hsd := Lib.hid hsd
                  rw [hsd] at b5
                  clear hsd
                  refine (ahead_is (p := ⟨#[38]⟩) HP7.out.rd hs H38.out).mono ?_
                  rintro e w8 ⟨rfl, hR, hk⟩
                  have HP8 := Lib.hid (HP7.out.reader hR hk)
                  have HK8 := Lib.hid (HK7.out.trans (hk.mono (fun i _ e => by have := HP.out.le; omega)))
                  clear hR hk
                  clear c0 c1 c2 c3 f1 hl b0 b2 b5 f5 lb hgr
                  obtain ⟨c0, c1, c2, c3, f1, hl, b0, b2, b5, f5, lb, hgr⟩ := HP8.out.top
                  rw [HEk.out] at b2
                  rw [Hsd.out] at b5
                  go_wp2_with fail
                  refine (knows_any c w8).mono ?_
                  rintro e w9 ⟨rfl, rfl⟩
                  rw [hkn]
                  go_wp2_with fail
                  have HP9 := Lib.hid (HP8.out.solid true)
                  have HK9 := Lib.hid (HK8.out.set (p := ⟨g.blk, 5, none⟩) (fun _ => .inr (HP8.out.open_ g (by simp)).2.1) (.bool true))
                  generalize w8.setCell ⟨g.blk, 5, none⟩ (.bool true) = w9 at HP9 HK9 ⊢
                  clear c0 c1 c2 c3 f1 hl b0 b2 b5 f5 lb hgr
                  have ho9 := HP9.out.open_ (g.told g.text g.a g.u true) (by simp)
                  refine (writeRune_at g.blk _ _ _ _ _ _ g.text base c w9 ho9.1 ho9.2.2.1 ho9.2.2.2.1 (by omega) (by omega) (by omega) HP9.out.size).mono ?_
                  rintro e w10 ⟨nn, u', rfl, hB10, hO10, hK10, hN10⟩
                  have hR10 := wrote_rd HP9.out.rd ho9.1 ho9.2.2.2.1 hK10
                  have hP10 := HP9.out.text (t := g.text ++ encR c) hR10 (hK10.mono (fun i _ h => .inr h)) hB10 (.inr rfl) (by rw [List.length_append, u8s_append, u8s_encR, show (encR c).length = (Lib.runeCells c).length by rw [← u8s_encR, u8s_length]]; exact hO10) (fun h => absurd (List.append_eq_nil_iff.1 h).2 (encR_ne c)) hN10
                  have HP10 := Lib.hid hP10
                  have HK10 := Lib.hid (HK9.out.trans' hK10 (fun i hi h => by
                    rcases h with rfl | h
                    · exact .inr ho9.2.1
                    · exact .inr (own_lt ho9.2.2.2.1 h).2))
                  clear hR10 hB10 hO10 hK10 hN10 ho9
                  obtain ⟨c0, c1, c3, f1, f3, hl⟩ := hP10.rd.cells
                  clear hP10
                  have sn : IntKind.i64.wrap ((k : Int) + n) = (k : Int) + n := by rw [IntWalk.i64_in _ (by omega)]
                  go_wp2_with fail
                  have hR11 := HP10.out.rd.step (k + n) (by omega) (v := .int .i64 ((k : Int) + n)) (by go_num)
                  have HP11 := Lib.hid (HP10.out.reader hR11 ((Keeps.refl (· = r) w10).set1 1 _))
                  have HK11 := Lib.hid (HK10.out.trans (((Keeps.refl (· = r) w10).set1 1 (.int .i64 ((k : Int) + n))).mono (D' := fun k => k = r ∨ base ≤ k) (fun i _ e => by have := HP.out.le; omega)))
                  go_end0
                  have hXe : X = (⟨k + n, none⟩, { g.os with text := g.os.text ++ encR c, solid := g.os.solid || solidR c } :: G.map OG.os) := by
                    rw [← HX.out]; unfold withinS; rw [HDec.out]; dsimp only
                    rw [if_neg (by rw [beq_eq_false_iff_ne] at hnz; omega), if_neg (by rintro ⟨h, _⟩; rw [H60.out] at h; cases h), if_neg (by rw [H47.out]; decide), if_neg (by rw [H60.out]; decide), if_neg H6.out, if_neg (by rw [H38.out]; decide), if_neg HNb.out]
                  rw [hXe]
                  refine ⟨rfl, _, _, HP11.out, ?_, HK11.out⟩
                  rw [show g.os.solid = g.solid from rfl, Hsd.out, Bool.true_or]
                  rfl
                | false =>
                  have Hsd := Lib.hid hsd
                  rw [hsd] at b5
                  clear hsd
                  cases sv with
                  | true =>
                    refine (ahead_is (p := ⟨#[38]⟩) HP7.out.rd hs H38.out).mono ?_
                    rintro e w8 ⟨rfl, hR, hk⟩
                    have HP8 := Lib.hid (HP7.out.reader hR hk)
                    have HK8 := Lib.hid (HK7.out.trans (hk.mono (fun i _ e => by have := HP.out.le; omega)))
                    clear hR hk
                    clear c0 c1 c2 c3 f1 hl b0 b2 b5 f5 lb hgr
                    obtain ⟨c0, c1, c2, c3, f1, hl, b0, b2, b5, f5, lb, hgr⟩ := HP8.out.top
                    rw [HEk.out] at b2
                    rw [Hsd.out] at b5
                    go_wp2_with fail
                    refine (knows_any c w8).mono ?_
                    rintro e w9 ⟨rfl, rfl⟩
                    rw [hkn]
                    go_wp2_with fail
                    have HP9 := Lib.hid (HP8.out.solid true)
                    have HK9 := Lib.hid (HK8.out.set (p := ⟨g.blk, 5, none⟩) (fun _ => .inr (HP8.out.open_ g (by simp)).2.1) (.bool true))
                    generalize w8.setCell ⟨g.blk, 5, none⟩ (.bool true) = w9 at HP9 HK9 ⊢
                    clear c0 c1 c2 c3 f1 hl b0 b2 b5 f5 lb hgr
                    have ho9 := HP9.out.open_ (g.told g.text g.a g.u true) (by simp)
                    refine (writeRune_at g.blk _ _ _ _ _ _ g.text base c w9 ho9.1 ho9.2.2.1 ho9.2.2.2.1 (by omega) (by omega) (by omega) HP9.out.size).mono ?_
                    rintro e w10 ⟨nn, u', rfl, hB10, hO10, hK10, hN10⟩
                    have hR10 := wrote_rd HP9.out.rd ho9.1 ho9.2.2.2.1 hK10
                    have hP10 := HP9.out.text (t := g.text ++ encR c) hR10 (hK10.mono (fun i _ h => .inr h)) hB10 (.inr rfl) (by rw [List.length_append, u8s_append, u8s_encR, show (encR c).length = (Lib.runeCells c).length by rw [← u8s_encR, u8s_length]]; exact hO10) (fun h => absurd (List.append_eq_nil_iff.1 h).2 (encR_ne c)) hN10
                    have HP10 := Lib.hid hP10
                    have HK10 := Lib.hid (HK9.out.trans' hK10 (fun i hi h => by
                      rcases h with rfl | h
                      · exact .inr ho9.2.1
                      · exact .inr (own_lt ho9.2.2.2.1 h).2))
                    clear hR10 hB10 hO10 hK10 hN10 ho9
                    obtain ⟨c0, c1, c3, f1, f3, hl⟩ := hP10.rd.cells
                    clear hP10
                    have sn : IntKind.i64.wrap ((k : Int) + n) = (k : Int) + n := by rw [IntWalk.i64_in _ (by omega)]
                    go_wp2_with fail
                    have hR11 := HP10.out.rd.step (k + n) (by omega) (v := .int .i64 ((k : Int) + n)) (by go_num)
                    have HP11 := Lib.hid (HP10.out.reader hR11 ((Keeps.refl (· = r) w10).set1 1 _))
                    have HK11 := Lib.hid (HK10.out.trans (((Keeps.refl (· = r) w10).set1 1 (.int .i64 ((k : Int) + n))).mono (D' := fun k => k = r ∨ base ≤ k) (fun i _ e => by have := HP.out.le; omega)))
                    go_end0
                    have hXe : X = (⟨k + n, none⟩, { g.os with text := g.os.text ++ encR c, solid := g.os.solid || solidR c } :: G.map OG.os) := by
                      rw [← HX.out]; unfold withinS; rw [HDec.out]; dsimp only
                      rw [if_neg (by rw [beq_eq_false_iff_ne] at hnz; omega), if_neg (by rintro ⟨h, _⟩; rw [H60.out] at h; cases h), if_neg (by rw [H47.out]; decide), if_neg (by rw [H60.out]; decide), if_neg H6.out, if_neg (by rw [H38.out]; decide), if_neg HNb.out]
                    rw [hXe]
                    refine ⟨rfl, _, _, HP11.out, ?_, HK11.out⟩
                    rw [show g.os.solid = g.solid from rfl, Hsd.out, HSv.out]
                    rfl
                  | false =>
                    first
                      | exact absurd hsv' (by decide)
                      | skip
                    all_goals
                      refine (ahead_is (p := ⟨#[38]⟩) HP7.out.rd hs H38.out).mono ?_
                      rintro e w8 ⟨rfl, hR, hk⟩
                      have HP8 := Lib.hid (HP7.out.reader hR hk)
                      have HK8 := Lib.hid (HK7.out.trans (hk.mono (fun i _ e => by have := HP.out.le; omega)))
                      clear hR hk
                      clear c0 c1 c2 c3 f1 hl b0 b2 b5 f5 lb hgr
                      obtain ⟨c0, c1, c2, c3, f1, hl, b0, b2, b5, f5, lb, hgr⟩ := HP8.out.top
                      rw [HEk.out] at b2
                      rw [Hsd.out] at b5
                      go_wp2_with fail
                      refine (knows_any c w8).mono ?_
                      rintro e w9 ⟨rfl, rfl⟩
                      rw [hkn]
                      go_wp2_with fail
                      have HP9 := Lib.hid (HP8.out.solid false)
                      have HK9 := Lib.hid (HK8.out.set (p := ⟨g.blk, 5, none⟩) (fun _ => .inr (HP8.out.open_ g (by simp)).2.1) (.bool false))
                      generalize w8.setCell ⟨g.blk, 5, none⟩ (.bool false) = w9 at HP9 HK9 ⊢
                      clear c0 c1 c2 c3 f1 hl b0 b2 b5 f5 lb hgr
                      have ho9 := HP9.out.open_ (g.told g.text g.a g.u false) (by simp)
                      refine (writeRune_at g.blk _ _ _ _ _ _ g.text base c w9 ho9.1 ho9.2.2.1 ho9.2.2.2.1 (by omega) (by omega) (by omega) HP9.out.size).mono ?_
                      rintro e w10 ⟨nn, u', rfl, hB10, hO10, hK10, hN10⟩
                      have hR10 := wrote_rd HP9.out.rd ho9.1 ho9.2.2.2.1 hK10
                      have hP10 := HP9.out.text (t := g.text ++ encR c) hR10 (hK10.mono (fun i _ h => .inr h)) hB10 (.inr rfl) (by rw [List.length_append, u8s_append, u8s_encR, show (encR c).length = (Lib.runeCells c).length by rw [← u8s_encR, u8s_length]]; exact hO10) (fun h => absurd (List.append_eq_nil_iff.1 h).2 (encR_ne c)) hN10
                      have HP10 := Lib.hid hP10
                      have HK10 := Lib.hid (HK9.out.trans' hK10 (fun i hi h => by
                        rcases h with rfl | h
                        · exact .inr ho9.2.1
                        · exact .inr (own_lt ho9.2.2.2.1 h).2))
                      clear hR10 hB10 hO10 hK10 hN10 ho9
                      obtain ⟨c0, c1, c3, f1, f3, hl⟩ := hP10.rd.cells
                      clear hP10
                      have sn : IntKind.i64.wrap ((k : Int) + n) = (k : Int) + n := by rw [IntWalk.i64_in _ (by omega)]
                      go_wp2_with fail
                      have hR11 := HP10.out.rd.step (k + n) (by omega) (v := .int .i64 ((k : Int) + n)) (by go_num)
                      have HP11 := Lib.hid (HP10.out.reader hR11 ((Keeps.refl (· = r) w10).set1 1 _))
                      have HK11 := Lib.hid (HK10.out.trans (((Keeps.refl (· = r) w10).set1 1 (.int .i64 ((k : Int) + n))).mono (D' := fun k => k = r ∨ base ≤ k) (fun i _ e => by have := HP.out.le; omega)))
                      go_end0
                      have hXe : X = (⟨k + n, none⟩, { g.os with text := g.os.text ++ encR c, solid := g.os.solid || solidR c } :: G.map OG.os) := by
                        rw [← HX.out]; unfold withinS; rw [HDec.out]; dsimp only
                        rw [if_neg (by rw [beq_eq_false_iff_ne] at hnz; omega), if_neg (by rintro ⟨h, _⟩; rw [H60.out] at h; cases h), if_neg (by rw [H47.out]; decide), if_neg (by rw [H60.out]; decide), if_neg H6.out, if_neg (by rw [H38.out]; decide), if_neg HNb.out]
                      rw [hXe]
                      refine ⟨rfl, _, _, HP11.out, ?_, HK11.out⟩
                      rw [show g.os.solid = g.solid from rfl, Hsd.out, HSv.out]
                      rfl

end Go.Proofs.YtkjopcbleefioaaGreatDoor
