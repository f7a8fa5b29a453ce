/- XmlTexts: the walk. -/
import Derived.Test.YtkjopcbleefioaaGreatDoorH2
namespace Go.Proofs.YtkjopcbleefioaaGreatDoor
open Go Go.RowKit
set_option linter.unusedSimpArgs false
set_option linter.unusedVariables false

/-- The law that XmlTexts wants: what is written of a text is read as that text. -/
def TextLaw : Prop := ∀ (l d : List UInt8), writeS (.mk [116] l []) = (d, 0) → d.length ≤ 8000 → parseS d = .ok (.mk [116] l [])
theorem writeS_code (e : El) : (writeS e).2 = 0 ∨ (writeS e).2 = 55 ∨ (writeS e).2 = 56 := by
  unfold writeS
  split
  · split
    · exact .inr (.inr rfl)
    · exact .inl rfl
  · exact .inr (.inl rfl)

set_option maxHeartbeats 16000000 in
set_option maxRecDepth 100000 in
theorem xmlTexts_any (hL : TextLaw) (s : ByteArray) (hs : s.size ≤ 1048576) (w : World) (hg : Glob w) (h3 : 3 < w.heap.size) :
    Calls Tryz.prog 4 #[.string s] w fun e w' => e = .returned (.bool true) ∧ Below w.heap.size w w' := by
  have he := examples_any w hg h3
  have HE := Lib.hid he; have HG := Lib.hid hg; have H3 := Lib.hid h3; have HL := Lib.hid hL
  clear he hg h3 hL
  go_enter Tryz.func4, Tryz.ntmps4
  go_wp2_with fail
  refine HE.out.mono ?_
  rintro en w1 ⟨rfl, hb1⟩
  have hg1 : Glob w1 := HG.out.keep (Keeps.fresh (D := fun _ => False) hb1) (fun _ _ h => h)
  have h31 : 3 < w1.heap.size := Nat.lt_of_lt_of_le H3.out hb1.size
  have hw := writeTop_any 0 (.mk [116] (bs s) []) (.string ⟨#[116]⟩) (.string s) (.slice none 0 0) (w1.alloc (.cells #[.string ⟨#[116]⟩, .string s, .slice none 0 0] 24)) (by rw [ElR]; exact ⟨none, 0, rfl, Nat.le_refl _, by rw [ElsR]; trivial⟩) (by rw [El.size, Els.size, bs_length]; simp; omega) (Nat.zero_le _) (by simp; omega) (hg1.keep (D := fun _ => False) ((Keeps.refl _ _).alloc _) (fun _ _ h => h))
  obtain ⟨⟨d, f⟩, hR⟩ : ∃ R, writeS (.mk [116] (bs s) []) = R := ⟨_, rfl⟩
  have hcode := writeS_code (.mk [116] (bs s) [])
  have hlaw := HL.out (bs s) d
  rw [hR] at hw hcode hlaw
  have HW := Lib.hid hw; have Hcode := Lib.hid hcode; have Hlaw := Lib.hid hlaw; have HB1 := Lib.hid hb1; have HG1 := Lib.hid hg1; have H31 := Lib.hid h31
  clear HE HG H3 HL hb1 hg1 h31 hw hcode hlaw hR
  go_wp2_with fail
  refine HW.out.mono ?_
  rintro en w2 ⟨rfl, hb2⟩
  have hb2' : Below w1.heap.size w1 w2 := ((Below.refl w1.heap.size w1).alloc (Nat.le_refl _) _).trans (hb2.mono (by simp))
  have HB2 := Lib.hid (HB1.out.trans (hb2'.mono HB1.out.size))
  have hg2 : Glob w2 := HG1.out.keep (Keeps.fresh (D := fun _ => False) hb2') (fun _ _ h => h)
  have h32 : 3 < w2.heap.size := Nat.lt_of_lt_of_le H31.out hb2'.size
  have hcode := Hcode.out
  rcases hcode with rfl | rfl | rfl
  · obtain ⟨D, hD⟩ : ∃ D, sb d = D := ⟨_, rfl⟩
    have hDd : bs D = d := by rw [← hD, bs_sb]
    have hlaw := Hlaw.out rfl
    rw [← hDd, bs_length] at hlaw
    rw [hD]
    have Hlaw2 := Lib.hid hlaw; have HG2 := Lib.hid hg2; have H32 := Lib.hid h32
    clear hb2 hb2' hg2 h32 hD hDd hlaw Hlaw HW HB1 HG1 H31 Hcode
    by_cases hlong : 8000 < D.size
    · have hlI : (8000 : Int) < (D.size : Int) := by omega
      go_wp2_with fail
      go_ret
      exact ⟨rfl, HB2.out⟩
    · have hlI : ¬ ((8000 : Int) < (D.size : Int)) := by omega
      have hp := parse_ok D _ w2 HG2.out H32.out (by omega) (Hlaw2.out (by omega))
      replace hp : Calls Tryz.prog 9 #[.string D] w2 fun e w' => ∃ A cap, e = .returned (.tuple #[.agg #[.string ⟨#[116]⟩, .string s, .slice A 0 cap], .nilIface]) ∧ Below w2.heap.size w2 w' := hp.mono (by
        rintro e w' ⟨A, cap, rfl, _, hb⟩
        exact ⟨A, cap, rfl, hb⟩)
      have HP := Lib.hid hp
      clear hp Hlaw2 HG2 H32
      go_wp2_with fail
      refine HP.out.mono ?_
      rintro en w3 ⟨A, cap, rfl, hb3⟩
      have HB3 := Lib.hid (HB2.out.trans (hb3.mono HB2.out.size))
      have hs3 : w.heap.size ≤ w3.heap.size := HB3.out.size
      clear hb3 HP
      go_wp2_with fail
      go_ret
      exact ⟨rfl, HB3.out.alloc hs3 _⟩
  · clear hb2 hb2' hg2 h32 Hlaw HW HB1 HG1 H31 Hcode
    go_wp2_with fail
    go_ret
    exact ⟨rfl, HB2.out⟩
  · clear hb2 hb2' hg2 h32 Hlaw HW HB1 HG1 H31 Hcode
    go_wp2_with fail
    go_ret
    exact ⟨rfl, HB2.out⟩
end Go.Proofs.YtkjopcbleefioaaGreatDoor
