/- right: plain, and the walk. -/
import Derived.Test.YtkjopcbleefioaaGreatDoorF0
import Derived.Test.YtkjopcbleefioaaGreatDoorF1
namespace Go.Proofs.YtkjopcbleefioaaGreatDoor
open Go Go.RowKit
set_option linter.unusedSimpArgs false
set_option linter.unusedVariables false

def headB (n t : List UInt8) (nk a : Nat) (l : Int) : Bool :=
  decide (l < 0) || decide (a = 20) || n.isEmpty || decide (100 < n.length) || !firstB (n.getD 0 0).toNat || (decide (0 < nk) && !t.isEmpty)
def bodyB (n t : List UInt8) : Bool := n.any (fun b => !moreB b.toNat) || !plainB t
mutual
def rightS : El → Nat → Int → Bool × Int
  | .mk n t ks, a, l => if headB n t ks.length a (l - 1) || bodyB n t then (false, l - 1) else rightsS ks (a + 1) (l - 1)
def rightsS : List El → Nat → Int → Bool × Int
  | [], _, l => (true, l)
  | k :: ks, a, l => if (rightS k a l).1 then rightsS ks a (rightS k a l).2 else (false, (rightS k a l).2)
end

mutual
theorem rightS_le : ∀ (e : El) (a : Nat) (l : Int), 0 ≤ l → (rightS e a l).2 < l ∧ ((rightS e a l).1 = true → 0 ≤ (rightS e a l).2)
  | .mk n t ks, a, l, h => by
    rw [rightS]
    split
    · exact ⟨by dsimp only; omega, fun h => by cases h⟩
    · rename_i hb
      have hl : 0 ≤ l - 1 := by
        have : headB n t ks.length a (l - 1) = false := by
          cases hx : headB n t ks.length a (l - 1) with
          | false => rfl
          | true => rw [hx] at hb; exact absurd rfl hb
        unfold headB at this
        simp only [Bool.or_eq_false_iff, decide_eq_false_iff_not] at this
        omega
      have := rightsS_le ks (a + 1) (l - 1) hl
      exact ⟨by omega, this.2⟩
theorem rightsS_le : ∀ (ks : List El) (a : Nat) (l : Int), 0 ≤ l → (rightsS ks a l).2 ≤ l ∧ ((rightsS ks a l).1 = true → 0 ≤ (rightsS ks a l).2)
  | [], a, l, h => by rw [rightsS]; exact ⟨Int.le_refl _, fun _ => h⟩
  | k :: ks, a, l, h => by
    have h1 := rightS_le k a l h
    rw [rightsS]
    split
    · rename_i ht
      have h2 := rightsS_le ks a (rightS k a l).2 (h1.2 ht)
      exact ⟨by omega, h2.2⟩
    · exact ⟨by dsimp only; omega, fun h => by cases h⟩
end

theorem isEmpty_size (t : ByteArray) : t.toList.isEmpty = decide (t.size = 0) := by
  rw [← decide_eq_emptyBytes]
  rw [Bool.eq_iff_iff, decide_eq_true_eq, decide_eq_true_eq]
  exact ⟨fun h => by rw [h]; rfl, fun h => by
    apply bs_inj
    have := bs_length t
    rw [h] at this
    rw [List.length_eq_zero_iff.1 this]; rfl⟩
theorem isEmpty_len (l : List UInt8) : l.isEmpty = decide (l.length = 0) := by cases l <;> simp

def RightPost (w w' : World) (L : Nat) (x : Bool × Int) (e : Ending) : Prop := e = .returned (.bool x.1) ∧ Blk w' L [.int .i64 x.2] 3 ∧ Keeps (· = L) w w'

set_option maxHeartbeats 16000000 in
set_option maxRecDepth 100000 in
theorem right_any (B : Nat) : ∀ (m : Nat) (e : El), El.size e ≤ m → m ≤ 16777216 → ∀ (a : Nat) (l : Int) (c0 c1 c2 : Value) (w : World) (L : Nat), ElR w (· < B) e [c0, c1, c2] → B ≤ L → 3 < L → Blk w L [.int .i64 l] 3 → Glob w → a ≤ 20 → 0 ≤ l → l ≤ 20000 →
    Calls Tryz.prog 36 #[.agg #[c0, c1, c2], .int .i64 a, .pointer (some ⟨L, 0, none⟩)] w fun e' w' => RightPost w w' L (rightS e a l) e' := by
  intro m
  induction m with
  | zero => intro e he; have := El.size_pos e; omega
  | succ m ih =>
    intro e he hm a l c0 c1 c2 w L hE hBL hL3 hB hg ha hl0 hl1
    obtain ⟨n, t, ks⟩ := e
    rw [El.size] at he
    rw [ElR] at hE
    obtain ⟨A, cap, hcs, hcap, hks⟩ := hE
    injection hcs with h0 hcs
    injection hcs with h1 hcs
    injection hcs with h2 _
    subst h0; subst h1; subst h2
    have hkl := Els.size_len ks
    obtain ⟨X, hX⟩ : ∃ X, rightS (.mk n t ks) a l = X := ⟨_, rfl⟩
    rw [hX]
    rw [rightS] at hX
    have hBl : B ≤ w.heap.size := by have := hB.lt; omega
    obtain ⟨nk, hnk⟩ : ∃ nk, ks.length = nk := ⟨_, rfl⟩
    obtain ⟨N, hN⟩ : ∃ N, sb n = N := ⟨_, rfl⟩
    obtain ⟨T, hT⟩ : ∃ T, sb t = T := ⟨_, rfl⟩
    have hNs : N.size = n.length := by rw [← hN, sb_size]
    have hTs : T.size = t.length := by rw [← hT, sb_size]
    have hNb : bs N = n := by rw [← hN, bs_sb]
    have hTb : bs T = t := by rw [← hT, bs_sb]
    rw [hN, hT, hnk]
    rw [hnk] at hX hcap hkl
    have cL : w.cell? ⟨L, 0, none⟩ = some (.int .i64 l) := hB.cell 0
    have fL := hB.free 0
    have hLl := hB.lt
    have HL := Lib.hid hB
    have HKs := Lib.hid hks; have Hnk := Lib.hid hnk; have HN := Lib.hid hNb; have HT := Lib.hid hTb; have HG := Lib.hid hg; have Hih := Lib.hid ih
    have hNl : N.size ≤ 16777216 := by omega
    have hTl : T.size ≤ 16777216 := by omega
    have hnk2 : nk ≤ 16777216 := by omega
    have HNs := Lib.hid hNs; have HTs := Lib.hid hTs
    clear hN hT hB hks hnk hNb hTb hg ih hNs hTs
    by_cases g1 : l - 1 < 0
    · have HX := Lib.hid (show X = (false, l - 1) by rw [← hX, if_pos]; unfold headB; rw [decide_eq_true g1]; rfl)
      clear hX
      obtain rfl : l = 0 := by omega
      go_enter Tryz.func36, Tryz.ntmps36
      go_wp2_with (fail)
      go_ret
      rw [HX.out]
      exact ⟨rfl, (HL.out.set 0 _).alloc _, ((Keeps.refl _ _).set1 _ _).alloc _⟩
    by_cases g2 : a = 20
    · have HX := Lib.hid (show X = (false, l - 1) by rw [← hX, if_pos]; unfold headB; rw [decide_eq_true g2]; simp)
      clear hX
      have e20 : ((a : Int) == 20) = true := by rw [beq_iff_eq]; omega
      clear g2
      go_enter Tryz.func36, Tryz.ntmps36
      go_wp2_with (fail)
      go_ret
      rw [HX.out]
      exact ⟨rfl, (HL.out.set 0 _).alloc _, ((Keeps.refl _ _).set1 _ _).alloc _⟩
    have e20 : ((a : Int) == 20) = false := by rw [beq_eq_false_iff_ne]; omega
    have hem := isEmpty_size N
    by_cases g3 : N.size = 0
    · have HX := Lib.hid (show X = (false, l - 1) by rw [← hX, if_pos]; unfold headB; rw [isEmpty_len n, decide_eq_true (show n.length = 0 by rw [← HNs.out]; exact g3)]; simp)
      clear hX
      rw [decide_eq_true g3] at hem
      clear g3
      go_enter Tryz.func36, Tryz.ntmps36
      go_wp2_with (fail)
      go_ret
      rw [HX.out]
      exact ⟨rfl, (HL.out.set 0 _).alloc _, ((Keeps.refl _ _).set1 _ _).alloc _⟩
    rw [decide_eq_false g3] at hem
    have hN0 : 0 < N.size := by omega
    have hN0' : (0 : Int) < (N.size : Int) := by omega
    by_cases g4 : 100 < N.size
    · have HX := Lib.hid (show X = (false, l - 1) by rw [← hX, if_pos]; unfold headB; rw [decide_eq_true (show 100 < n.length by rw [← HNs.out]; exact g4)]; simp)
      clear hX
      have g4' : (100 : Int) < (N.size : Int) := by omega
      go_enter Tryz.func36, Tryz.ntmps36
      go_wp2_with (fail)
      go_ret
      rw [HX.out]
      exact ⟨rfl, (HL.out.set 0 _).alloc _, ((Keeps.refl _ _).set1 _ _).alloc _⟩
    have g4' : ¬ ((100 : Int) < (N.size : Int)) := by omega
    have hn0 : n.getD 0 0 = N[0] := by
      have := bs_get N 0 hN0
      rw [HN.out] at this
      simp [List.getD, this]
    obtain ⟨f, hf⟩ : ∃ f, firstB (N[0].toNat : Int) = f := ⟨_, rfl⟩
    have hfc := fun W => first_is hf W
    have HF := Lib.hid hf; have HFc := Lib.hid hfc; have Hn0 := Lib.hid hn0
    clear hf hfc hn0
    cases f with
    | false =>
      have HX := Lib.hid (show X = (false, l - 1) by rw [← hX, if_pos]; unfold headB; rw [Hn0.out, HF.out]; simp)
      clear hX
      go_enter Tryz.func36, Tryz.ntmps36
      go_wp2_with ((go_at_call 49; refine (HFc.out _).mono ?_; rintro e w' ⟨rfl, rfl⟩))
      go_ret
      rw [HX.out]
      exact ⟨rfl, (HL.out.set 0 _).alloc _, ((Keeps.refl _ _).set1 _ _).alloc _⟩
    | true =>
      have hTe := isEmpty_size T
      by_cases g5 : 0 < nk ∧ T.size ≠ 0
      · have HX := Lib.hid (show X = (false, l - 1) by rw [← hX, if_pos]; unfold headB; rw [decide_eq_true g5.1, isEmpty_len t, decide_eq_false (show ¬ t.length = 0 by rw [← HTs.out]; exact g5.2)]; simp)
        clear hX
        obtain ⟨g5a, g5b⟩ := g5
        rw [decide_eq_false g5b] at hTe
        have g5a' : (0 : Int) < (nk : Int) := by omega
        clear g5b
        go_enter Tryz.func36, Tryz.ntmps36
        go_wp2_with ((go_at_call 49; refine (HFc.out _).mono ?_; rintro e w' ⟨rfl, rfl⟩))
        go_ret
        rw [HX.out]
        exact ⟨rfl, (HL.out.set 0 _).alloc _, ((Keeps.refl _ _).set1 _ _).alloc _⟩
      · have hhd : headB n t nk a (l - 1) = false := by
          unfold headB
          rw [decide_eq_false g1, decide_eq_false g2, isEmpty_len n, decide_eq_false (show ¬ n.length = 0 by rw [← HNs.out]; exact g3), decide_eq_false (show ¬ 100 < n.length by rw [← HNs.out]; exact g4), Hn0.out, HF.out, isEmpty_len t]
          simp
          intro h
          have := HTs.out
          exact Classical.byContradiction fun h2 => g5 ⟨h, by rw [this]; intro e; exact h2 (by rw [List.length_eq_zero_iff] at e; rw [e])⟩
        have Hhd := Lib.hid hhd
        rw [hhd, Bool.false_or] at hX
        have HX := Lib.hid hX
        clear hhd hX
        by_cases g6 : 0 < nk
        · have g6' : (0 : Int) < (nk : Int) := by omega
          have g7 : T.size = 0 := Classical.byContradiction fun h => g5 ⟨g6, h⟩
          rw [decide_eq_true g7] at hTe
          have Hg7 := Lib.hid g7
          clear g5 g7 g3
          obtain ⟨k0, hk0⟩ : ∃ k, ks[0]? = some k := ⟨ks[0]'(by have := Hnk.out; omega), List.getElem?_eq_getElem (by have := Hnk.out; omega)⟩
          obtain ⟨b, off, _, _, _, rfl, _⟩ := HKs.out.at hk0
          clear hk0
          go_enter Tryz.func36, Tryz.ntmps36
          go_upto_region 4 with (go_at_call 49; refine (HFc.out _).mono ?_; rintro e w' ⟨rfl, rfl⟩)
          have HL2 := Lib.hid ((HL.out.set 0 (.int .i64 (l - 1))).alloc (.cells #[.string N, .string T, .slice (some ⟨b, off, none⟩) nk cap] 24))
          have HK2 := Lib.hid (((Keeps.refl (· = L) w).set1 0 (.int .i64 (l - 1))).alloc (.cells #[.string N, .string T, .slice (some ⟨b, off, none⟩) nk cap] 24))
          have HE2 : Hid (Blk ((w.setCell ⟨L, 0, none⟩ (.int .i64 (l - 1))).alloc (.cells #[.string N, .string T, .slice (some ⟨b, off, none⟩) nk cap] 24)) w.heap.size [.string N, .string T, .slice (some ⟨b, off, none⟩) nk cap] 24) := by
            have := Blk.new (w.setCell ⟨L, 0, none⟩ (.int .i64 (l - 1))) [.string N, .string T, .slice (some ⟨b, off, none⟩) nk cap] 24
            rw [World.size_setCell'] at this
            exact this
          have HEl := Lib.hid (show L < w.heap.size from hLl)
          clear cL fL hLl
          generalize (w.setCell ⟨L, 0, none⟩ (.int .i64 (l - 1))).alloc (.cells #[.string N, .string T, .slice (some ⟨b, off, none⟩) nk cap] 24) = w2 at HL2 HK2 HE2 ⊢
          have hcv := Lib.run_convert_string_bytes (P := Tryz.prog) w2 9 51 5 N (u := .string) Tryz.underlying9 Tryz.underlying51 Tryz.underlying5
          have hbel : Below w2.heap.size w2 (Lib.bytesWorld w2 5 N) := Lib.bytesWorld_below w2 5 N
          have hcf : ∀ cap', Calls Tryz.prog 50 #[.slice (some ⟨w2.heap.size, 0, none⟩) N.size cap', .func (.func 51) #[] #[]] (Lib.bytesWorld w2 5 N) fun e w' => e = .returned (.bool (n.any (fun b => !moreB b.toNat))) ∧ Lib.bytesWorld w2 5 N = w' := fun cap' => by
            have h := containsFunc_any ⟨w2.heap.size, 0, none⟩ (bs N) cap' (Lib.bytesWorld w2 5 N) ⟨_, rfl⟩ (fun j hj => by rw [bs_length] at hj; exact Lib.bytesWorld_cell w2 5 N j hj) (by rw [bs_length]; omega)
            rw [bs_length, HN.out] at h
            exact h
          obtain ⟨W1, hW1⟩ : ∃ W1, Lib.bytesWorld w2 5 N = W1 := ⟨_, rfl⟩
          rw [hW1] at hcv hbel hcf
          obtain ⟨x1, hx1⟩ : ∃ x1, n.any (fun b => !moreB b.toNat) = x1 := ⟨_, rfl⟩
          rw [hx1] at hcf
          obtain ⟨x2, hx2⟩ : ∃ x2, plainB t = x2 := ⟨_, rfl⟩
          have e0 : w2.cell? ⟨w.heap.size, 0, none⟩ = some (.string N) := HE2.out.cell 0
          have hkW : Keeps (fun _ => False) w2 W1 := Keeps.fresh hbel
          have HLW := Lib.hid (hkW.blk HL2.out (fun h => h))
          have HEW := Lib.hid (hkW.blk HE2.out (fun h => h))
          have HKW := Lib.hid (HK2.out.trans (hkW.mono (fun _ _ h => h.elim)))
          have HGW := Lib.hid (HG.out.keep HKW.out (fun i hi h => by omega))
          have hpl := plain_any T W1 HGW.out (by omega)
          rw [HT.out, hx2] at hpl
          have HPl := Lib.hid hpl; have Hx1 := Lib.hid hx1; have Hx2 := Lib.hid hx2; have HCf := Lib.hid hcf
          clear hbel hcf hW1 hx1 hx2 hkW hpl HL2 HE2 HK2
          go_wp2_with fail
          refine (HCf.out _).mono ?_
          rintro e w3 ⟨rfl, rfl⟩
          have e1 : W1.cell? ⟨w.heap.size, 1, none⟩ = some (.string T) := HEW.out.cell 1
          clear hcv e0 HCf
          cases x1 with
          | true =>
            have HXf := Lib.hid (show X = (false, l - 1) by rw [← HX.out, if_pos]; unfold bodyB; rw [Hx1.out]; rfl)
            go_wp2_with fail
            go_ret
            rw [HXf.out]
            exact ⟨rfl, HLW.out, HKW.out⟩
          | false =>
            go_wp2_with fail
            refine HPl.out.mono ?_
            rintro e w3 ⟨rfl, hb3⟩
            have hk3 : Keeps (fun _ => False) W1 w3 := Keeps.fresh hb3
            have HL3 := Lib.hid (hk3.blk HLW.out (fun h => h))
            have HE3 := Lib.hid (hk3.blk HEW.out (fun h => h))
            have HK3 := Lib.hid (HKW.out.trans (hk3.mono (fun _ _ h => h.elim)))
            clear hb3 hk3 HLW HEW HKW HGW HPl e1
            cases x2 with
            | false =>
              have HXf := Lib.hid (show X = (false, l - 1) by rw [← HX.out, if_pos]; unfold bodyB; rw [Hx1.out, Hx2.out]; rfl)
              go_wp2_with fail
              go_ret
              rw [HXf.out]
              exact ⟨rfl, HL3.out, HK3.out⟩
            | true =>
              have HXr := Lib.hid (show rightsS ks (a + 1) (l - 1) = X by rw [← HX.out, if_neg]; unfold bodyB; rw [Hx1.out, Hx2.out]; decide)
              have e2 : w3.cell? ⟨w.heap.size, 2, none⟩ = some (.slice (some ⟨b, off, none⟩) nk cap) := HE3.out.cell 2
              go_wp2_with fail
              clear e2
              go_loopg [64] nk (fun gk i wr => ∃ (j : Nat) (l' : Int), i = .int .i64 j ∧ j + gk = nk ∧ 0 ≤ l' ∧ l' ≤ 20000 ∧ Hid (Blk wr L [.int .i64 l'] 3) ∧ Hid (Keeps (· = L) w wr) ∧ Hid (rightsS (ks.drop j) (a + 1) l' = X))
              case atStart => exact ⟨0, l - 1, rfl, by omega, by omega, by omega, HL3.out, HK3.out, HXr.out⟩
              case round =>
                clear HL3 HK3 HE3 HXr HX Hx1 Hx2
                obtain ⟨j, l', rfl, hj, hl0', hl1', HLr, HKr, HXr⟩ := hrel
                by_cases hjk : j < nk
                · have hnkk := Hnk.out
                  obtain ⟨k, hk⟩ : ∃ k, ks[j]? = some k := ⟨ks[j]'(by omega), List.getElem?_eq_getElem (by omega)⟩
                  have hdrop := drop_get hk
                  rw [hdrop, rightsS] at HXr
                  have hksr : ElsR wr (· < B) ks _ := ElsR.mono (fun b hb => ⟨HKr.out.block b (by omega) (by omega), hb⟩) ks _ HKs.out
                  obtain ⟨b', off', d0, d1, d2, hA, hbB, g0, g1', g2', gkR⟩ := hksr.at hk
                  injection hA with hA
                  injection hA with hA1 hA2
                  subst hA1; subst hA2
                  obtain ⟨A', cap', hcs', _, _⟩ := gkR.form
                  injection hcs' with q0 q1
                  injection q1 with q1 q2
                  injection q2 with q2 _
                  subst q0; subst q1; subst q2
                  have hsz := Els.size_get hk
                  have hLlr := HLr.out.lt
                  have HGr := HG.out.keep HKr.out (fun i hi h => by omega)
                  have hkA : Below B wr (wr.alloc (.cells #[.string (sb k.name), .string (sb k.text), .slice A' k.kids.length cap'] 24)) := (Below.refl _ _).alloc (by have := HKr.out.size; omega) _
                  have hrec := Hih.out k (by omega) (by omega) (a + 1) l' _ _ _ (wr.alloc (.cells #[.string (sb k.name), .string (sb k.text), .slice A' k.kids.length cap'] 24)) L (gkR.below hkA) hBL hL3 (HLr.out.alloc _) (HGr.keep (D := fun _ => False) ((Keeps.refl _ _).alloc _) (fun _ _ h => h)) (by omega) hl0' hl1'
                  have hle := rightS_le k (a + 1) l' hl0'
                  rw [show ((a + 1 : Nat) : Int) = (a : Int) + 1 from rfl] at hrec
                  obtain ⟨⟨y1, y2⟩, hY⟩ : ∃ y, rightS k (a + 1) l' = y := ⟨_, rfl⟩
                  rw [hY] at hrec hle HXr
                  dsimp only at hle HXr
                  have HRec := Lib.hid hrec; have HY := Lib.hid hY
                  obtain ⟨kN, hkN⟩ : ∃ kN, sb k.name = kN := ⟨_, rfl⟩
                  obtain ⟨kT, hkT⟩ : ∃ kT, sb k.text = kT := ⟨_, rfl⟩
                  obtain ⟨kL, hkL⟩ : ∃ kL, k.kids.length = kL := ⟨_, rfl⟩
                  rw [hkN, hkT, hkL] at HRec
                  rw [hkN] at g0; rw [hkT] at g1'; rw [hkL] at g2'
                  have hjI : (j : Int) < (nk : Int) := by omega
                  clear hrec hY hkN hkT hkL gkR hkA hksr hdrop hk hsz hnkk HGr
                  go_wp2_with fail
                  refine HRec.out.mono ?_
                  rintro e w5 ⟨rfl, hL5, hk5⟩
                  have HL5 := Lib.hid hL5
                  have HK5 := Lib.hid (HKr.out.trans (((Keeps.refl (· = L) wr).alloc _).trans hk5))
                  clear hL5 hk5 HRec g0 g1' g2'
                  cases y1 with
                  | false =>
                    have HXf := Lib.hid (show X = (false, y2) by rw [← HXr.out]; rfl)
                    go_wp2_with fail
                    go_ret
                    rw [HXf.out]
                    exact ⟨rfl, HL5.out, HK5.out⟩
                  | true =>
                    have hy := hle.2 rfl
                    go_wp2_with fail
                    go_roundg (nk - (j + 1))
                    case measure => omega
                    case rel => exact ⟨j + 1, y2, by go_num, by omega, hy, by omega, HL5.out, HK5.out, HXr.out⟩
                · have hjI : ¬ ((j : Int) < (nk : Int)) := by omega
                  go_wp2_with fail
                  go_ret
                  have hd : ks.drop j = [] := List.drop_eq_nil_of_le (by have := Hnk.out; omega)
                  have hx := HXr.out
                  rw [hd, rightsS] at hx
                  rw [← hx]
                  exact ⟨rfl, HLr.out, HKr.out⟩
        · have g6' : ¬ ((0 : Int) < (nk : Int)) := by omega
          clear g5 hTe g3
          go_enter Tryz.func36, Tryz.ntmps36
          go_upto_region 4 with (go_at_call 49; refine (HFc.out _).mono ?_; rintro e w' ⟨rfl, rfl⟩)
          have HL2 := Lib.hid ((HL.out.set 0 (.int .i64 (l - 1))).alloc (.cells #[.string N, .string T, .slice A nk cap] 24))
          have HK2 := Lib.hid (((Keeps.refl (· = L) w).set1 0 (.int .i64 (l - 1))).alloc (.cells #[.string N, .string T, .slice A nk cap] 24))
          have HE2 : Hid (Blk ((w.setCell ⟨L, 0, none⟩ (.int .i64 (l - 1))).alloc (.cells #[.string N, .string T, .slice A nk cap] 24)) w.heap.size [.string N, .string T, .slice A nk cap] 24) := by
            have := Blk.new (w.setCell ⟨L, 0, none⟩ (.int .i64 (l - 1))) [.string N, .string T, .slice A nk cap] 24
            rw [World.size_setCell'] at this
            exact this
          have HEl := Lib.hid (show L < w.heap.size from hLl)
          clear cL fL hLl
          generalize (w.setCell ⟨L, 0, none⟩ (.int .i64 (l - 1))).alloc (.cells #[.string N, .string T, .slice A nk cap] 24) = w2 at HL2 HK2 HE2 ⊢
          have hcv := Lib.run_convert_string_bytes (P := Tryz.prog) w2 9 51 5 N (u := .string) Tryz.underlying9 Tryz.underlying51 Tryz.underlying5
          have hbel : Below w2.heap.size w2 (Lib.bytesWorld w2 5 N) := Lib.bytesWorld_below w2 5 N
          have hcf : ∀ cap', Calls Tryz.prog 50 #[.slice (some ⟨w2.heap.size, 0, none⟩) N.size cap', .func (.func 51) #[] #[]] (Lib.bytesWorld w2 5 N) fun e w' => e = .returned (.bool (n.any (fun b => !moreB b.toNat))) ∧ Lib.bytesWorld w2 5 N = w' := fun cap' => by
            have h := containsFunc_any ⟨w2.heap.size, 0, none⟩ (bs N) cap' (Lib.bytesWorld w2 5 N) ⟨_, rfl⟩ (fun j hj => by rw [bs_length] at hj; exact Lib.bytesWorld_cell w2 5 N j hj) (by rw [bs_length]; omega)
            rw [bs_length, HN.out] at h
            exact h
          obtain ⟨W1, hW1⟩ : ∃ W1, Lib.bytesWorld w2 5 N = W1 := ⟨_, rfl⟩
          rw [hW1] at hcv hbel hcf
          obtain ⟨x1, hx1⟩ : ∃ x1, n.any (fun b => !moreB b.toNat) = x1 := ⟨_, rfl⟩
          rw [hx1] at hcf
          obtain ⟨x2, hx2⟩ : ∃ x2, plainB t = x2 := ⟨_, rfl⟩
          have e0 : w2.cell? ⟨w.heap.size, 0, none⟩ = some (.string N) := HE2.out.cell 0
          have hkW : Keeps (fun _ => False) w2 W1 := Keeps.fresh hbel
          have HLW := Lib.hid (hkW.blk HL2.out (fun h => h))
          have HEW := Lib.hid (hkW.blk HE2.out (fun h => h))
          have HKW := Lib.hid (HK2.out.trans (hkW.mono (fun _ _ h => h.elim)))
          have HGW := Lib.hid (HG.out.keep HKW.out (fun i hi h => by omega))
          have hpl := plain_any T W1 HGW.out (by omega)
          rw [HT.out, hx2] at hpl
          have HPl := Lib.hid hpl; have Hx1 := Lib.hid hx1; have Hx2 := Lib.hid hx2; have HCf := Lib.hid hcf
          clear hbel hcf hW1 hx1 hx2 hkW hpl HL2 HE2 HK2
          go_wp2_with fail
          refine (HCf.out _).mono ?_
          rintro e w3 ⟨rfl, rfl⟩
          have e1 : W1.cell? ⟨w.heap.size, 1, none⟩ = some (.string T) := HEW.out.cell 1
          clear hcv e0 HCf
          cases x1 with
          | true =>
            have HXf := Lib.hid (show X = (false, l - 1) by rw [← HX.out, if_pos]; unfold bodyB; rw [Hx1.out]; rfl)
            go_wp2_with fail
            go_ret
            rw [HXf.out]
            exact ⟨rfl, HLW.out, HKW.out⟩
          | false =>
            go_wp2_with fail
            refine HPl.out.mono ?_
            rintro e w3 ⟨rfl, hb3⟩
            have hk3 : Keeps (fun _ => False) W1 w3 := Keeps.fresh hb3
            have HL3 := Lib.hid (hk3.blk HLW.out (fun h => h))
            have HE3 := Lib.hid (hk3.blk HEW.out (fun h => h))
            have HK3 := Lib.hid (HKW.out.trans (hk3.mono (fun _ _ h => h.elim)))
            clear hb3 hk3 HLW HEW HKW HGW HPl e1
            cases x2 with
            | false =>
              have HXf := Lib.hid (show X = (false, l - 1) by rw [← HX.out, if_pos]; unfold bodyB; rw [Hx1.out, Hx2.out]; rfl)
              go_wp2_with fail
              go_ret
              rw [HXf.out]
              exact ⟨rfl, HL3.out, HK3.out⟩
            | true =>
              have HXr := Lib.hid (show rightsS ks (a + 1) (l - 1) = X by rw [← HX.out, if_neg]; unfold bodyB; rw [Hx1.out, Hx2.out]; decide)
              have e2 : w3.cell? ⟨w.heap.size, 2, none⟩ = some (.slice A nk cap) := HE3.out.cell 2
              go_wp2_with fail
              clear e2
              go_loopg [64] nk (fun gk i wr => ∃ (j : Nat) (l' : Int), i = .int .i64 j ∧ j + gk = nk ∧ 0 ≤ l' ∧ l' ≤ 20000 ∧ Hid (Blk wr L [.int .i64 l'] 3) ∧ Hid (Keeps (· = L) w wr) ∧ Hid (rightsS (ks.drop j) (a + 1) l' = X))
              case atStart => exact ⟨0, l - 1, rfl, by omega, by omega, by omega, HL3.out, HK3.out, HXr.out⟩
              case round =>
                clear HL3 HK3 HE3 HXr HX Hx1 Hx2
                obtain ⟨j, l', rfl, hj, hl0', hl1', HLr, HKr, HXr⟩ := hrel
                by_cases hjk : j < nk
                · exact absurd hjk (by omega)
                · have hjI : ¬ ((j : Int) < (nk : Int)) := by omega
                  go_wp2_with fail
                  go_ret
                  have hd : ks.drop j = [] := List.drop_eq_nil_of_le (by have := Hnk.out; omega)
                  have hx := HXr.out
                  rw [hd, rightsS] at hx
                  rw [← hx]
                  exact ⟨rfl, HLr.out, HKr.out⟩

set_option maxHeartbeats 4000000 in
/-- isRight. -/
theorem isRight_any (B : Nat) (e : El) (c0 c1 c2 : Value) (w : World) (hE : ElR w (· < B) e [c0, c1, c2]) (hs : El.size e ≤ 16777216) (hB : B ≤ w.heap.size) (hB3 : 3 < w.heap.size) (hg : Glob w) :
    Calls Tryz.prog 22 #[.agg #[c0, c1, c2]] w fun e' w' => e' = .returned (.bool (rightS e 0 20000).1) ∧ Below w.heap.size w w' := by
  obtain ⟨A, cap, hcs, _, _⟩ := hE.form
  injection hcs with q0 q1
  injection q1 with q1 q2
  injection q2 with q2 _
  subst q0; subst q1; subst q2
  obtain ⟨N, hN⟩ : ∃ N, sb e.name = N := ⟨_, rfl⟩
  obtain ⟨T, hT⟩ : ∃ T, sb e.text = T := ⟨_, rfl⟩
  obtain ⟨nk, hnk⟩ : ∃ nk, e.kids.length = nk := ⟨_, rfl⟩
  rw [hN, hT, hnk] at hE ⊢
  obtain ⟨W, hW⟩ : ∃ W, (w.alloc (.cells #[.string N, .string T, .slice A nk cap] 24)).alloc (.cells #[.int .i64 20000] 3) = W := ⟨_, rfl⟩
  have kW : Below w.heap.size w W := by rw [← hW]; exact ((Below.refl _ _).alloc (Nat.le_refl _) _).alloc (by simp) _
  have hL : Blk W (w.heap.size + 1) [.int .i64 20000] 3 := by
    rw [← hW]
    have := Blk.new (w.alloc (.cells #[.string N, .string T, .slice A nk cap] 24)) [.int .i64 20000] 3
    simpa using this
  have hr := right_any B (El.size e) e (Nat.le_refl _) hs 0 20000 _ _ _ W (w.heap.size + 1) (hE.below (kW.mono hB)) (by omega) (by omega) hL (hg.keep (D := fun _ => False) (Keeps.fresh kW) (fun _ _ h => h)) (by omega) (by omega) (by omega)
  have HR := Lib.hid hr; have HW := Lib.hid hW; have HK := Lib.hid kW
  clear hr hW kW hL hE hN hT hnk hg
  go_enter Tryz.func22, Tryz.ntmps22
  go_wp2_with fail
  rw [HW.out]
  refine HR.out.mono ?_
  rintro e' w' ⟨rfl, hb, hk⟩
  have HF := Lib.hid (show Below w.heap.size w w' from ⟨hk.os.trans HK.out.os, hk.tape.trans HK.out.tape, hk.output.trans HK.out.output, Nat.le_trans HK.out.size hk.size, fun i hi => (hk.block i (by have := HK.out.size; omega) (by omega)).trans (HK.out.block i hi)⟩)
  clear hb hk
  go_wp2_with fail
  go_ret
  exact ⟨rfl, HF.out⟩
end Go.Proofs.YtkjopcbleefioaaGreatDoor
