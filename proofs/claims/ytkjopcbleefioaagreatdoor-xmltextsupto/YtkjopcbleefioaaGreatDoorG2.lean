/- Same, Text: the walks. -/
import Derived.Test.YtkjopcbleefioaaGreatDoorG1
namespace Go.Proofs.YtkjopcbleefioaaGreatDoor
open Go Go.RowKit
set_option linter.unusedSimpArgs false
set_option linter.unusedVariables false

/-- Is an element right? -/
def okS (e : El) : Bool := (rightS e 0 20000).1

set_option maxHeartbeats 8000000 in
set_option maxRecDepth 100000 in
theorem sameTop_any (B : Nat) (a b : El) (a0 a1 a2 b0 b1 b2 : Value) (w : World) (hA : ElR w (· < B) a [a0, a1, a2]) (hB : ElR w (· < B) b [b0, b1, b2]) (hs : El.size a ≤ 16777216) (hs2 : El.size b ≤ 16777216) (hBw : B ≤ w.heap.size) (hB3 : 3 < w.heap.size) (hg : Glob w) :
    Calls Tryz.prog 10 #[.agg #[a0, a1, a2], .agg #[b0, b1, b2]] w fun e w' => e = .returned (.bool (okS a && (okS b && El.eq a b))) ∧ Below w.heap.size w w' := by
  obtain ⟨A, c, hcs, hc, hks⟩ := hA.form
  injection hcs with h0 hcs
  injection hcs with h1 hcs
  injection hcs with h2 _
  subst h0; subst h1; subst h2
  obtain ⟨A2, c2, hcs, hc2, hls⟩ := hB.form
  injection hcs with h0 hcs
  injection hcs with h1 hcs
  injection hcs with h2 _
  subst h0; subst h1; subst h2
  obtain ⟨N, hN⟩ : ∃ N, sb a.name = N := ⟨_, rfl⟩
  obtain ⟨T, hT⟩ : ∃ T, sb a.text = T := ⟨_, rfl⟩
  obtain ⟨nk, hnk⟩ : ∃ nk, a.kids.length = nk := ⟨_, rfl⟩
  obtain ⟨N', hN'⟩ : ∃ N, sb b.name = N := ⟨_, rfl⟩
  obtain ⟨T', hT'⟩ : ∃ T, sb b.text = T := ⟨_, rfl⟩
  obtain ⟨nl, hnl⟩ : ∃ nk, b.kids.length = nk := ⟨_, rfl⟩
  rw [hN, hT, hnk] at hA ⊢
  rw [hN', hT', hnl] at hB ⊢
  clear hN hT hnk hN' hT' hnl hks hls
  obtain ⟨W0, hW0⟩ : ∃ W0, (w.alloc (.cells #[.string N, .string T, .slice A nk c] 24)).alloc (.cells #[.string N', .string T', .slice A2 nl c2] 24) = W0 := ⟨_, rfl⟩
  have hb0 : Below w.heap.size w W0 := by rw [← hW0]; exact ((Below.refl _ _).alloc (Nat.le_refl _) _).alloc (by simp) _
  have hs0 : W0.heap.size = w.heap.size + 2 := by rw [← hW0]; simp
  have hE0 : Blk W0 w.heap.size [.string N, .string T, .slice A nk c] 24 := by rw [← hW0]; exact (Blk.new w _ _).alloc _
  have hE1 : Blk W0 (w.heap.size + 1) [.string N', .string T', .slice A2 nl c2] 24 := by
    rw [← hW0]
    have := Blk.new (w.alloc (.cells #[.string N, .string T, .slice A nk c] 24)) [.string N', .string T', .slice A2 nl c2] 24
    simpa using this
  have HB0 := Lib.hid hb0; have Hs0 := Lib.hid hs0; have HE0 := Lib.hid hE0; have HE1 := Lib.hid hE1; have HA := Lib.hid hA; have HB := Lib.hid hB; have HG := Lib.hid hg; have HW0 := Lib.hid hW0
  have hr := isRight_any B a _ _ _ W0 (hA.below (hb0.mono hBw)) (by omega) (by omega) (by omega) (hg.keep (Keeps.fresh (D := fun _ => False) hb0) (fun _ _ h => h))
  rw [show (rightS a 0 20000).1 = okS a from rfl] at hr
  obtain ⟨x, hx⟩ : ∃ x, okS a = x := ⟨_, rfl⟩
  obtain ⟨y, hy⟩ : ∃ x, okS b = x := ⟨_, rfl⟩
  obtain ⟨z, hz⟩ : ∃ x, El.eq a b = x := ⟨_, rfl⟩
  rw [hx] at hr
  rw [hx, hy, hz]
  have Hr := Lib.hid hr; have Hy := Lib.hid hy; have Hz := Lib.hid hz
  have e0 : W0.cell? ⟨w.heap.size, 0, none⟩ = some (.string N) := hE0.cell 0
  have e1 : W0.cell? ⟨w.heap.size, 1, none⟩ = some (.string T) := hE0.cell 1
  have e2 : W0.cell? ⟨w.heap.size, 2, none⟩ = some (.slice A nk c) := hE0.cell 2
  clear hb0 hs0 hE0 hE1 hA hB hg hW0 hr hx hy hz
  go_enter Tryz.func10, Tryz.ntmps10
  go_upto_region 1 with (fail)
  rw [HW0.out]
  go_wp2_with fail
  refine Hr.out.mono ?_
  rintro en w1 ⟨rfl, hb1⟩
  have hk1 : Below w.heap.size w w1 := HB0.out.trans (hb1.mono HB0.out.size)
  have HB1 := Lib.hid hk1
  have hE0 := (Keeps.fresh (D := fun _ => False) hb1).blk HE0.out (fun h => h)
  have hE1 := (Keeps.fresh (D := fun _ => False) hb1).blk HE1.out (fun h => h)
  have Hs1 := Lib.hid (show W0.heap.size ≤ w1.heap.size from hb1.size)
  have HE0' := Lib.hid hE0; have HE1' := Lib.hid hE1
  clear e0 e1 e2 hb1 hk1 hE0 hE1 Hr HE0 HE1
  cases x with
  | false =>
    go_wp2_with fail
    go_ret
    exact ⟨rfl, HB1.out⟩
  | true =>
    have f0 : w1.cell? ⟨w.heap.size + 1, 0, none⟩ = some (.string N') := HE1'.out.cell 0
    have f1 : w1.cell? ⟨w.heap.size + 1, 1, none⟩ = some (.string T') := HE1'.out.cell 1
    have f2 : w1.cell? ⟨w.heap.size + 1, 2, none⟩ = some (.slice A2 nl c2) := HE1'.out.cell 2
    have hr := isRight_any B b _ _ _ w1 (HB.out.below (HB1.out.mono hBw)) (by omega) (by have := HB1.out.size; omega) (by have := HB1.out.size; omega) (HG.out.keep (Keeps.fresh (D := fun _ => False) HB1.out) (fun _ _ h => h))
    rw [show (rightS b 0 20000).1 = okS b from rfl, Hy.out] at hr
    have Hr := Lib.hid hr
    clear hr
    go_wp2_with fail
    refine Hr.out.mono ?_
    rintro en w2 ⟨rfl, hb2⟩
    have hk2 : Below w.heap.size w w2 := HB1.out.trans (hb2.mono HB1.out.size)
    have HB2 := Lib.hid hk2
    have hE0 := (Keeps.fresh (D := fun _ => False) hb2).blk HE0'.out (fun h => h)
    have hE1 := (Keeps.fresh (D := fun _ => False) hb2).blk HE1'.out (fun h => h)
    have HE0 := Lib.hid hE0; have HE1 := Lib.hid hE1
    clear f0 f1 f2 hb2 hk2 hE0 hE1 Hr HE0' HE1'
    cases y with
    | false =>
      go_wp2_with fail
      go_ret
      exact ⟨rfl, HB2.out⟩
    | true =>
      have f0 : w2.cell? ⟨w.heap.size + 1, 0, none⟩ = some (.string N') := HE1.out.cell 0
      have f1 : w2.cell? ⟨w.heap.size + 1, 1, none⟩ = some (.string T') := HE1.out.cell 1
      have f2 : w2.cell? ⟨w.heap.size + 1, 2, none⟩ = some (.slice A2 nl c2) := HE1.out.cell 2
      have g0 : w2.cell? ⟨w.heap.size, 0, none⟩ = some (.string N) := HE0.out.cell 0
      have g1 : w2.cell? ⟨w.heap.size, 1, none⟩ = some (.string T) := HE0.out.cell 1
      have g2 : w2.cell? ⟨w.heap.size, 2, none⟩ = some (.slice A nk c) := HE0.out.cell 2
      have hr := same_any B 16777216 (Nat.le_refl _) a b hs _ _ _ _ _ _ w2 (HA.out.below (HB2.out.mono hBw)) (HB.out.below (HB2.out.mono hBw)) (by have := HB2.out.size; omega)
      rw [Hz.out] at hr
      have Hr := Lib.hid hr
      clear hr
      go_wp2_with fail
      refine Hr.out.mono ?_
      rintro en w3 ⟨rfl, hb3⟩
      have HB3 := Lib.hid (HB2.out.trans (hb3.mono HB2.out.size))
      clear hb3 Hr f0 f1 f2 g0 g1 g2
      go_wp2_with fail
      go_ret
      exact ⟨rfl, HB3.out⟩
end Go.Proofs.YtkjopcbleefioaaGreatDoor
