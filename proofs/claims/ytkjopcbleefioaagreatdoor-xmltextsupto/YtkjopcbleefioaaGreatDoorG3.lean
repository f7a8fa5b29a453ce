/- Text: the walk. -/
import Derived.Test.YtkjopcbleefioaaGreatDoorG2
namespace Go.Proofs.YtkjopcbleefioaaGreatDoor
open Go Go.RowKit
set_option linter.unusedSimpArgs false
set_option linter.unusedVariables false

/-- Which kid has a name; none: two have. -/
def oneAt (name : List UInt8) : List El → Nat → Int → Option Int
  | [], _, a => some a
  | k :: ks, i, a => if k.name = name then (if 0 ≤ a then none else oneAt name ks (i + 1) i) else oneAt name ks (i + 1) a
def textAt (ks : List El) (a : Int) : List UInt8 × Bool :=
  if a < 0 then ([], false) else match ks[a.toNat]? with
    | some k => if 0 < k.kids.length then ([], false) else (k.text, true)
    | none => ([], false)
/-- What Text answers. -/
def textS (name : List UInt8) (e : El) : List UInt8 × Bool :=
  match oneAt name e.kids 0 (-1) with
  | none => ([], false)
  | some a => textAt e.kids a

set_option maxHeartbeats 16000000 in
set_option maxRecDepth 100000 in
theorem text_any (B : Nat) (e : El) (name : List UInt8) (a0 a1 a2 : Value) (w : World) (hE : ElR w (· < B) e [a0, a1, a2]) (hs : El.size e ≤ 16777216) (hB : B ≤ w.heap.size) :
    Calls Tryz.prog 18 #[.agg #[a0, a1, a2], .string (sb name)] w fun e' w' => e' = .returned (.tuple #[.string (sb (textS name e).1), .bool (textS name e).2]) ∧ Below w.heap.size w w' := by
  obtain ⟨n, t, ks⟩ := e
  rw [El.size] at hs
  obtain ⟨A, c, hcs, hc, hks⟩ := hE.form
  injection hcs with h0 hcs
  injection hcs with h1 hcs
  injection hcs with h2 _
  subst h0; subst h1; subst h2
  have hkl := Els.size_len ks
  dsimp only [El.name, El.text, El.kids, textS] at *
  obtain ⟨N, hN⟩ : ∃ N, sb n = N := ⟨_, rfl⟩
  obtain ⟨T, hT⟩ : ∃ T, sb t = T := ⟨_, rfl⟩
  obtain ⟨nk, hnk⟩ : ∃ nk, ks.length = nk := ⟨_, rfl⟩
  obtain ⟨M, hM⟩ : ∃ M, sb name = M := ⟨_, rfl⟩
  obtain ⟨X, hX⟩ : ∃ X, oneAt name ks 0 (-1) = X := ⟨_, rfl⟩
  rw [hN, hT, hnk, hM, hX]
  rw [hnk] at hc hkl
  have hnk2 : nk ≤ 16777216 := by omega
  have HKs := Lib.hid hks; have Hnk := Lib.hid hnk; have HM := Lib.hid hM; have HX := Lib.hid hX
  clear hks hnk hM hX hN hT hE
  have HE0 := Lib.hid (Blk.new w [.string N, .string T, .slice A nk c] 24)
  have HB0 := Lib.hid ((Below.refl w.heap.size w).alloc (Nat.le_refl _) (.cells #[.string N, .string T, .slice A nk c] 24))
  go_enter Tryz.func18, Tryz.ntmps18
  go_wp2_with fail
  go_loopg [12, 6] nk (fun gk i at' wr => ∃ (j : Nat) (a : Int), i = .int .i64 j ∧ at' = .int .i64 a ∧ j + gk = nk ∧ -1 ≤ a ∧ a < nk ∧ Hid (oneAt name (ks.drop j) j a = X) ∧ Hid (Below w.heap.size w wr) ∧ Hid (Blk wr w.heap.size [.string N, .string T, .slice A nk c] 24))
  case atStart => exact ⟨0, -1, rfl, rfl, by omega, by omega, by omega, HX.out, HB0.out, HE0.out⟩
  case round =>
    clear HX HE0 HB0
    obtain ⟨j, a, rfl, rfl, hj, ha, ha2, HXr, HBr, HEr⟩ := hrel
    by_cases hjk : j < nk
    · have hnkk := Hnk.out
      obtain ⟨k, hk⟩ : ∃ k, ks[j]? = some k := ⟨ks[j]'(by omega), List.getElem?_eq_getElem (by omega)⟩
      have hbw : Below B w wr := HBr.out.mono hB
      obtain ⟨b', off', d0, d1, d2, hA, hbB, g0, g1, g2, gkR⟩ := (HKs.out.below hbw).at hk
      subst hA
      obtain ⟨A', cap', hcs', _, _⟩ := gkR.form
      injection hcs' with e0 e1
      injection e1 with e1 e2
      injection e2 with e2 _
      subst e0; subst e1; subst e2
      obtain ⟨kN, hkN⟩ : ∃ kN, sb k.name = kN := ⟨_, rfl⟩
      obtain ⟨kT, hkT⟩ : ∃ kT, sb k.text = kT := ⟨_, rfl⟩
      obtain ⟨kL, hkL⟩ : ∃ kL, k.kids.length = kL := ⟨_, rfl⟩
      rw [hkN] at g0; rw [hkT] at g1; rw [hkL] at g2
      have hBr := HBr.out.size
      have HB2 := Lib.hid (HBr.out.alloc hBr (.cells #[.string kN, .string kT, .slice A' kL cap'] 24))
      have HE2 := Lib.hid (HEr.out.alloc (.cells #[.string kN, .string kT, .slice A' kL cap'] 24))
      have hXr := HXr.out
      rw [drop_get hk, oneAt] at hXr
      have hjI : (j : Int) < (nk : Int) := by omega
      by_cases hkn : kN = M
      · have hnm : k.name = name := by
          have := congrArg bs (hkN.trans (hkn.trans HM.out.symm))
          rw [bs_sb, bs_sb] at this
          exact this
        rw [if_pos hnm] at hXr
        subst hkn
        by_cases ha0 : 0 ≤ a
        · rw [if_pos ha0] at hXr
          subst hXr
          clear hkN hkT hkL gkR hk hnkk hbw HXr hnm HM
          go_wp2_with fail
          go_ret2
          exact ⟨rfl, HB2.out⟩
        · rw [if_neg ha0] at hXr
          have HXf := Lib.hid hXr
          clear hkN hkT hkL gkR hk hnkk hbw HXr hXr hnm HM
          go_wp2_with fail
          go_roundg (nk - (j + 1))
          case measure => omega
          case rel => exact ⟨j + 1, j, by go_num, rfl, by omega, by omega, by omega, HXf.out, HB2.out, HE2.out⟩
      · have hnm : ¬ k.name = name := by
          intro h
          apply hkn
          rw [← hkN, ← HM.out, h]
        rw [if_neg hnm] at hXr
        have hq := beq_bytes hkn
        have HXf := Lib.hid hXr
        clear hkN hkT hkL gkR hk hnkk hbw HXr hXr hnm hkn
        go_wp2_with fail
        go_roundg (nk - (j + 1))
        case measure => omega
        case rel => exact ⟨j + 1, a, by go_num, rfl, by omega, by omega, by omega, HXf.out, HB2.out, HE2.out⟩
    · have hjI : ¬ ((j : Int) < (nk : Int)) := by omega
      have hd : ks.drop j = [] := List.drop_eq_nil_of_le (by have := Hnk.out; omega)
      have hx := HXr.out
      rw [hd, oneAt] at hx
      subst hx
      by_cases ha0 : a < 0
      · have HT' := Lib.hid (show textAt ks a = ([], false) by unfold textAt; rw [if_pos ha0])
        clear hd
        go_wp2_with fail
        go_ret2
        simp only [HT'.out]
        exact ⟨rfl, HBr.out⟩
      · obtain ⟨q, hq⟩ : ∃ q : Nat, a = q := ⟨a.toNat, by omega⟩
        subst hq
        have hnkk := Hnk.out
        obtain ⟨k, hk⟩ : ∃ k, ks[q]? = some k := ⟨ks[q]'(by omega), List.getElem?_eq_getElem (by omega)⟩
        have hbw : Below B w wr := HBr.out.mono hB
        obtain ⟨b', off', d0, d1, d2, hA, hbB, g0, g1, g2, gkR⟩ := (HKs.out.below hbw).at hk
        subst hA
        obtain ⟨A', cap', hcs', _, _⟩ := gkR.form
        injection hcs' with e0 e1
        injection e1 with e1 e2
        injection e2 with e2 _
        subst e0; subst e1; subst e2
        have f2 : wr.cell? ⟨w.heap.size, 2, none⟩ = some (.slice (some ⟨b', off', none⟩) nk c) := HEr.out.cell 2
        have hT' : textAt ks q = if 0 < k.kids.length then ([], false) else (k.text, true) := by
          unfold textAt
          rw [if_neg ha0]
          simp only [Int.toNat_natCast, hk]
        obtain ⟨kT, hkT⟩ : ∃ kT, sb k.text = kT := ⟨_, rfl⟩
        obtain ⟨kL, hkL⟩ : ∃ kL, k.kids.length = kL := ⟨_, rfl⟩
        rw [hkT] at g1; rw [hkL] at g2 hT'
        have hqI : (q : Int) < (nk : Int) := by omega
        have HkT := Lib.hid hkT
        have HT' := Lib.hid hT'
        clear hkT hkL gkR hk hnkk hbw hd hT'
        by_cases hL : 0 < kL
        · have HT2 := HT'.out
          rw [if_pos hL] at HT2
          have HT2 := Lib.hid HT2
          have hLI : (0 : Int) < (kL : Int) := by omega
          go_wp2_with fail
          go_ret2
          simp only [HT2.out]
          exact ⟨rfl, HBr.out⟩
        · have HT2 := HT'.out
          rw [if_neg hL] at HT2
          have HT2 := Lib.hid HT2
          have hLI : ¬ ((0 : Int) < (kL : Int)) := by omega
          go_wp2_with fail
          go_ret2
          simp only [HT2.out, HkT.out]
          exact ⟨rfl, HBr.out⟩
end Go.Proofs.YtkjopcbleefioaaGreatDoor
