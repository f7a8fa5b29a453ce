/- Parse: a text's element, or what is wrong first; the walk. -/
import Derived.Test.YtkjopcbleefioaaGreatDoorE2
import Derived.BigRegion
import Derived.Deep.DeepCutAuto
namespace Go.Proofs.YtkjopcbleefioaaGreatDoor
open Go Go.RowKit
set_option linter.unusedSimpArgs false
set_option linter.unusedVariables false

def headS (s : List UInt8) : St :=
  let a := blanksS s ⟨0, none⟩
  if pre [60, 63] (s.drop a.at_) = true then
    let b := wantS s [60, 63, 120, 109, 108] a
    let c : St := if b.bad.isSome then b else ⟨if 0 ≤ ixB (s.drop b.at_) 63 then b.at_ + (ixB (s.drop b.at_) 63).toNat else s.length, none⟩
    let d := wantS s [63, 62] c
    if d.bad.isSome then d else blanksS s d
  else a
def parseS (s : List UInt8) : Except (Int × Int) El :=
  if 8000 < s.length then .error (56, 0)
  else match headS s with
    | ⟨_, some x⟩ => .error x
    | ⟨k, none⟩ => match elementS s k with
      | (⟨_, some x⟩, _) => .error x
      | (⟨k', none⟩, some e) => if (blanksS s ⟨k', none⟩).at_ < s.length then .error (55, (blanksS s ⟨k', none⟩).at_) else .ok e
      | (⟨_, none⟩, none) => .error (0, 0)

def ParsePost (w w' : World) : Except (Int × Int) El → Ending → Prop
  | .error (c, a), e => ∃ N, e = .returned (.tuple #[.agg #[.string ⟨#[]⟩, .string ⟨#[]⟩, .slice none 0 0], .iface 53 (.pointer (some ⟨N, 0, none⟩))]) ∧ Blk w' N [.int .i64 c, .int .i64 a, .nilIface] 55 ∧ w.heap.size ≤ N ∧ Below w.heap.size w w'
  | .ok el, e => ∃ a0 a1 a2, e = .returned (.tuple #[.agg #[a0, a1, a2], .nilIface]) ∧ ElR w' (Own w' w.heap.size) el [a0, a1, a2] ∧ Below w.heap.size w w'

theorem ElOpt.form {w : World} {base : Nat} {el : Option El} {a0 a1 a2 : Value} (h : ElOpt w base el [a0, a1, a2]) : ∃ n t A m c, a0 = .string n ∧ a1 = .string t ∧ a2 = .slice A m c := by
  cases el with
  | none => injection h with h1 h2; injection h2 with h2 h3; injection h3 with h3 _; exact ⟨_, _, _, _, _, h1, h2, h3⟩
  | some e =>
    cases e with
    | mk n t ks =>
      unfold ElOpt at h
      dsimp only at h
      rw [ElR] at h
      obtain ⟨A, c, h, _⟩ := h
      injection h with h1 h2; injection h2 with h2 h3; injection h3 with h3 _; exact ⟨_, _, _, _, _, h1, h2, h3⟩

theorem loopS_some {s : List UInt8} : ∀ (f k : Nat) (o : OS) (l : List OS), Inv k (o :: l) → k ≤ s.length → s.length < k + f → (loopS s f k o l).1.bad = none → ∃ e, (loopS s f k o l).2 = some e
  | 0, k, o, l, _, h1, h2, _ => by omega
  | f + 1, k, o, l, hi, h1, h2, h3 => by
    obtain ⟨⟨⟨zk, zo⟩, Lz⟩, hZ⟩ : ∃ z, withinS s k o l = z := ⟨_, rfl⟩
    cases zo with
    | some x => rw [loopS_bad hZ] at h3; cases h3
    | none =>
      obtain ⟨i1, i2, i3, i4, i5⟩ := withinS_inv hZ h1 hi
      cases Lz with
      | nil => exact absurd rfl i4
      | cons p l' =>
        by_cases hl : l = [] ∧ pre [60, 47] (s.drop k) = true
        · obtain ⟨rfl, hl⟩ := hl
          rw [loopS_last hZ hl]; exact ⟨_, rfl⟩
        · rw [loopS_on hZ hl] at h3 ⊢
          exact loopS_some f zk p l' i3 i2 (by omega) h3
theorem elementS_some {s : List UInt8} {k k' : Nat} {o : Option El} (h : elementS s k = (⟨k', none⟩, o)) : ∃ e, o = some e := by
  unfold elementS at h
  split at h
  · rename_i hb
    obtain ⟨nm, e, n1, n2, n3, n4, n5, _⟩ := beginS_none hb rfl
    injection e with e
    subst e
    dsimp only at n4
    have := loopS_some (s := s) (s.length + 1) _ _ _ (Inv.first n2) n4 (by omega) (by rw [h])
    rw [h] at this
    exact this
  · injection h with _ h; exact ⟨_, h.symm⟩
  · rename_i st x y h1 h2 hx
    injection h with e1 e2
    obtain ⟨yk, yo⟩ := st
    injection e1 with e3 e4
    subst e4
    obtain ⟨nm, e5, _⟩ := beginS_none hx rfl
    subst e5
    cases y with
    | true => exact (h1 _ _ rfl rfl rfl).elim
    | false => exact (h2 _ _ rfl rfl rfl).elim

theorem ixB_lt (l : List UInt8) (c : Nat) : ixB l c < (l.length : Int) := by
  unfold ixB
  induction l with
  | nil => simp [Lib.indexByte]
  | cons b l ih =>
    unfold Lib.indexByte
    rw [List.length_cons]
    split
    · omega
    · split
      · omega
      · omega

theorem World.size_setCell' (w : World) (p : Addr) (u : Value) : (w.setCell p u).heap.size = w.heap.size := by simp

set_option maxHeartbeats 16000000 in
set_option maxRecDepth 100000 in
theorem parse_any (s : ByteArray) (w : World) (hg : Glob w) (h3 : 3 < w.heap.size) (hmax : s.size ≤ 9223372036854775807) :
    Calls Tryz.prog 9 #[.string s] w fun e w' => ParsePost w w' (parseS (bs s)) e := by
  obtain ⟨X, hX⟩ : ∃ X, parseS (bs s) = X := ⟨_, rfl⟩
  rw [hX]
  have HX := Lib.hid hX
  clear hX
  by_cases hlong : 8000 < s.size
  · have hl' : (8000 : Int) < (s.size : Int) := by omega
    have Hlong := Lib.hid hlong
    clear hlong
    go_enter Tryz.func9, Tryz.ntmps9
    go_wp2_with fail
    refine bodyPost_ret (v := .tuple #[.agg #[.string ⟨#[]⟩, .string ⟨#[]⟩, .slice none 0 0], .iface 53 (.pointer (some ⟨w.heap.size + 1, 0, none⟩))]) ?_ rfl ?_
    · simp [results, Tryz.results9, go_sem]
    · rw [← HX.out]
      unfold parseS
      rw [if_pos (by rw [bs_length]; exact Hlong.out)]
      refine ⟨_, rfl, ?_, by omega, ?_⟩
      · have := Blk.new (w.alloc (.cells #[.string ⟨#[]⟩, .string ⟨#[]⟩, .slice none 0 0] 24)) [.int .i64 56, .int .i64 0, .nilIface] 55
        simpa using this
      · exact ((Below.refl _ _).alloc (Nat.le_refl _) _).alloc (by simp) _
  · have hle : ¬ ((8000 : Int) < (s.size : Int)) := by omega
    have hs : s.size ≤ 8000 := by omega
    have hs' : s.size ≤ 100000 := by omega
    clear hlong hmax
    have HHead := Lib.hid (show X = (match headS (bs s) with
      | ⟨_, some x⟩ => .error x
      | ⟨k, none⟩ => match elementS (bs s) k with
        | (⟨_, some x⟩, _) => .error x
        | (⟨k', none⟩, some e) => if (blanksS (bs s) ⟨k', none⟩).at_ < (bs s).length then .error (55, (blanksS (bs s) ⟨k', none⟩).at_) else .ok e
        | (⟨_, none⟩, none) => .error (0, 0)) by
      rw [← HX.out]; unfold parseS; rw [if_neg (by rw [bs_length]; omega)])
    clear HX
    obtain ⟨w1, hw1⟩ : ∃ w1, (w.alloc (.cells #[.string ⟨#[]⟩, .string ⟨#[]⟩, .slice none 0 0] 24)).alloc (.cells #[.string s, .int .i64 0, .pointer none, .slice none 0 0] 60) = w1 := ⟨_, rfl⟩
    obtain ⟨r, hr⟩ : ∃ r, w.heap.size + 1 = r := ⟨_, rfl⟩
    have hR1 : Rd w1 r s ⟨0, none⟩ (.slice none 0 0) := by
      refine ⟨.pointer none, ?_, rfl, Nat.zero_le _⟩
      rw [← hw1, ← hr]
      have := Blk.new (w.alloc (.cells #[.string ⟨#[]⟩, .string ⟨#[]⟩, .slice none 0 0] 24)) [.string s, .int .i64 0, .pointer none, .slice none 0 0] 60
      simpa using this
    have hN1 : Blk w1 w.heap.size [.string ⟨#[]⟩, .string ⟨#[]⟩, .slice none 0 0] 24 := by rw [← hw1]; exact (Blk.new w [.string ⟨#[]⟩, .string ⟨#[]⟩, .slice none 0 0] 24).alloc _
    have hG1 : Glob w1 := by rw [← hw1]; exact hg.keep (D := fun _ => False) (((Keeps.refl _ _).alloc _).alloc _) (fun _ _ h => h)
    have hK1 : Keeps (fun k => w.heap.size ≤ k) w w1 := by rw [← hw1]; exact ((Keeps.refl _ _).alloc _).alloc _
    have HR1 := Lib.hid hR1; have HN1 := Lib.hid hN1; have HG1 := Lib.hid hG1; have HK1 := Lib.hid hK1; have Hr := Lib.hid hr; have Hw1 := Lib.hid hw1
    have hr3 : 3 < r := by omega
    have Hr3 := Lib.hid hr3
    clear hr hw1 hR1 hN1 hG1 hK1 hg h3 hr3
    go_enter Tryz.func9, Tryz.ntmps9
    go_wp2_with fail
    rw [Hw1.out, Hr.out]
    refine (blanks_any r s ⟨0, none⟩ _ w1 HR1.out hs').mono ?_
    rintro e w2 ⟨rfl, hR2, hk2⟩
    obtain ⟨ak, hak⟩ : ∃ ak, (blanksS (bs s) ⟨0, none⟩).at_ = ak := ⟨_, rfl⟩
    have ha : blanksS (bs s) ⟨0, none⟩ = ⟨ak, none⟩ := by rw [← hak]; rfl
    rw [ha] at hR2
    have HA := Lib.hid ha
    have HR2 := Lib.hid hR2
    have HN2 := Lib.hid (hk2.blk HN1.out (by have := Hr.out; omega))
    have HG2 := Lib.hid (HG1.out.keep hk2 (fun i hi h => by have := Hr3.out; omega))
    have HK2 := Lib.hid (HK1.out.trans (hk2.mono (fun i hi h => by have := Hr.out; omega)))
    clear hR2 hk2 HN1 HG1 HK1 HR1
    clear hak ha Hw1
    cases h63 : pre [60, 63] ((bs s).drop ak) with
    | false =>
      have H63 := Lib.hid h63
      clear h63
      have HHd := Lib.hid (show headS (bs s) = ⟨ak, none⟩ by unfold headS; rw [HA.out]; dsimp only; rw [if_neg (by rw [H63.out]; decide)])
      go_wp2_with fail
      refine (ahead_is (p := ⟨#[60, 63]⟩) HR2.out hs' H63.out).mono ?_
      rintro e w3 ⟨rfl, hR3, hk3⟩
      have HR3 := Lib.hid hR3
      have HN3 := Lib.hid (hk3.blk HN2.out (by have := Hr.out; omega))
      have HG3 := Lib.hid (HG2.out.keep hk3 (fun i hi h => by have := Hr3.out; omega))
      have HK3 := Lib.hid (HK2.out.trans (hk3.mono (fun i hi h => by have := Hr.out; omega)))
      clear hR3 hk3 HN2 HG2 HK2 HR2
      obtain ⟨k, hk⟩ : ∃ k, ak = k := ⟨_, rfl⟩
      obtain ⟨o, ho⟩ : ∃ o : Option (Int × Int), none = o := ⟨_, rfl⟩
      rw [hk, ho] at HR3 HHd
      clear HA H63 hk ho
      go_upto_region 15 with (fail)
      obtain ⟨wa, hwa⟩ : ∃ wa, w3.alloc (.cells #[.string ⟨#[]⟩, .string ⟨#[]⟩, .slice none 0 0] 24) = wa := ⟨_, rfl⟩
      obtain ⟨E, hE⟩ : ∃ E, w3.heap.size = E := ⟨_, rfl⟩
      have kA : Keeps (fun _ => False) w3 wa := by rw [← hwa]; exact (Keeps.refl _ _).alloc _
      have HRa := Lib.hid (HR3.out.keep kA (fun h => h) (fun _ _ _ h => h))
      have HNa := Lib.hid (kA.blk HN3.out (fun h => h))
      have HGa := Lib.hid (HG3.out.keep kA (fun _ _ h => h))
      have HKa := Lib.hid (HK3.out.trans (kA.mono (fun _ _ h => h.elim)))
      have HEa : Hid (Blk wa E [.string ⟨#[]⟩, .string ⟨#[]⟩, .slice none 0 0] 24) := by
        show Blk wa E _ 24
        rw [← hwa, ← hE]; exact Blk.new w3 [.string ⟨#[]⟩, .string ⟨#[]⟩, .slice none 0 0] 24
      have hrE : r < E := by
        obtain ⟨_, _, _, _, _, hl⟩ := HR3.out.cells
        omega
      have hNE : w.heap.size < E := by have := Hr.out; omega
      have HrE := Lib.hid hrE; have HNE := Lib.hid hNE; have Hwa := Lib.hid hwa; have HE := Lib.hid hE
      have HHe := Lib.hid (HHead.out.trans (by rw [HHd.out]))
      clear kA hrE hNE hwa hE HR3 HN3 HG3 HK3 HHead HHd
      go_upto_region 16 with (fail)
      rw [Hwa.out, HE.out]
      clear Hwa HE
      cases o with
      | some zx =>
        obtain ⟨ze, za⟩ := zx
        obtain ⟨bad, hB, hbad, _⟩ := HRa.out
        obtain ⟨bb, rfl, hbb⟩ := hbad
        have c0 : wa.cell? ⟨r, 0, none⟩ = some (.string s) := hB.cell 0
        have c2 : wa.cell? ⟨r, 2, none⟩ = some (.pointer (some ⟨bb, 0, none⟩)) := hB.cell 2
        have b0 : wa.cell? ⟨bb, 0, none⟩ = some (.int .i64 ze) := hbb.cell 0
        have b1 : wa.cell? ⟨bb, 1, none⟩ = some (.int .i64 za) := hbb.cell 1
        have r0 : wa.cell? ⟨w.heap.size, 0, none⟩ = some (.string ⟨#[]⟩) := HNa.out.cell 0
        have r1 : wa.cell? ⟨w.heap.size, 1, none⟩ = some (.string ⟨#[]⟩) := HNa.out.cell 1
        have r2 : wa.cell? ⟨w.heap.size, 2, none⟩ = some (.slice none 0 0) := HNa.out.cell 2
        have fr0 := HNa.out.free 0
        have fr1 := HNa.out.free 1
        have fr2 := HNa.out.free 2
        have hl2 := HNa.out.lt
        have hl3 := hB.lt
        have hl4 := hbb.lt
        have d1 : ¬ w.heap.size = r := HNa.out.ne hB (by decide)
        have d2 : ¬ r = w.heap.size := fun e => d1 e.symm
        have d3 : ¬ w.heap.size = bb := HNa.out.ne hbb (by decide)
        have d4 : ¬ bb = w.heap.size := fun e => d3 e.symm
        clear hB hbb
        go_wp2_with fail
        go_region
        all_goals
          have hS := (((HNa.out.set 0 (.string ⟨#[]⟩)).set 1 (.string ⟨#[]⟩)).set 2 (.slice none 0 0))
          have hF := (hS.alloc (.cells #[.int .i64 ze, .int .i64 za, .nilIface] 55)).drew
          have hNew := Blk.new (((wa.setCell ⟨w.heap.size, 0, none⟩ (.string ⟨#[]⟩)).setCell ⟨w.heap.size, 1, none⟩ (.string ⟨#[]⟩)).setCell ⟨w.heap.size, 2, none⟩ (.slice none 0 0)) [.int .i64 ze, .int .i64 za, .nilIface] 55
          rw [World.size_setCell', World.size_setCell', World.size_setCell'] at hNew
          have hNew2 := hNew.drew
          have hKF := ((((HKa.out.set (p := ⟨w.heap.size, 0, none⟩) (fun _ => Nat.le_refl _) (.string ⟨#[]⟩)).set (p := ⟨w.heap.size, 1, none⟩) (fun _ => Nat.le_refl _) (.string ⟨#[]⟩)).set (p := ⟨w.heap.size, 2, none⟩) (fun _ => Nat.le_refl _) (.slice none 0 0)).alloc (.cells #[.int .i64 ze, .int .i64 za, .nilIface] 55)).drew
          have HNew := Lib.hid hNew2; have HKF := Lib.hid hKF; have HF := Lib.hid hF
          clear hS hF hNew hNew2 hKF
          go_wp2_with fail
          refine bodyPost_ret (v := .tuple #[.agg #[.string ⟨#[]⟩, .string ⟨#[]⟩, .slice none 0 0], .iface 53 (.pointer (some ⟨wa.heap.size, 0, none⟩))]) ?_ rfl ?_
          · have e0 := HF.out.cell 0
            have e1 := HF.out.cell 1
            have e2 := HF.out.cell 2
            simp [results, Tryz.results9, go_sem, e0, e1, e2]
          · rw [HHe.out]
            exact ⟨_, rfl, HNew.out, HKa.out.size, HKF.out.below (Nat.le_refl _)⟩
      | none =>
        have c2 := HRa.out.none
        go_wp2_with fail
        clear c2
        have hel := element_any r s k wa HRa.out Hr3.out hs' HGa.out
        obtain ⟨⟨⟨zk, zo⟩, el⟩, hZ⟩ : ∃ z, elementS (bs s) k = z := ⟨_, rfl⟩
        rw [hZ] at hel
        have HHf := Lib.hid (HHe.out.trans (by rw [hZ]))
        have HZ := Lib.hid hZ
        clear HHe hZ
        refine hel.mono ?_
        rintro e w5 ⟨a0, a1, a2, pv5, rfl, hR5, hE5, hk5⟩
        obtain ⟨n0, t0, A0, m0, p0, rfl, rfl, rfl⟩ := hE5.form
        have HR5 := Lib.hid hR5
        have HN5 := Lib.hid (hk5.blk HNa.out (by have := Hr.out; omega))
        have HE5 := Lib.hid (hk5.blk HEa.out (by have := HrE.out; omega))
        have HG5 := Lib.hid (HGa.out.keep hk5 (fun i hi h => by have := Hr3.out; omega))
        have HK5 := Lib.hid (HKa.out.trans (hk5.mono (fun i hi h => by have := Hr.out; omega)))
        have HL5 := Lib.hid hE5
        have HEl := Lib.hid HEa.out.lt
        clear hel hR5 hk5 hE5 HRa HNa HGa HKa HEa
        have q0 : w5.cell? ⟨E, 0, none⟩ = some (.string ⟨#[]⟩) := HE5.out.cell 0
        have q1 : w5.cell? ⟨E, 1, none⟩ = some (.string ⟨#[]⟩) := HE5.out.cell 1
        have q2 : w5.cell? ⟨E, 2, none⟩ = some (.slice none 0 0) := HE5.out.cell 2
        have fq0 := HE5.out.free 0
        have fq1 := HE5.out.free 1
        have fq2 := HE5.out.free 2
        have hql := HE5.out.lt
        go_upto_region 18 with (fail)
        clear q0 q1 q2 fq0 fq1 fq2 hql
        obtain ⟨w6, hw6⟩ : ∃ w6, ((w5.setCell ⟨E, 0, none⟩ (.string n0)).setCell ⟨E, 1, none⟩ (.string t0)).setCell ⟨E, 2, none⟩ (.slice A0 m0 p0) = w6 := ⟨_, rfl⟩
        have kS : Keeps (· = E) w5 w6 := by rw [← hw6]; exact (((Keeps.refl _ _).set1 _ _).set1 _ _).set1 _ _
        have HR6 := Lib.hid (HR5.out.keep kS (by have := HrE.out; omega) (fun b cs hb e => hb.ne HE5.out (by decide) e))
        have HN6 := Lib.hid (kS.blk HN5.out (by have := HNE.out; omega))
        have HE6 : Hid (Blk w6 E [.string n0, .string t0, .slice A0 m0 p0] 24) := by
          show Blk w6 E _ 24
          rw [← hw6]; exact ((HE5.out.set 0 _).set 1 _).set 2 _
        have HG6 := Lib.hid (HG5.out.keep kS (fun i hi h => by have := HrE.out; have := Hr3.out; omega))
        have HK6 := Lib.hid (HK5.out.trans (kS.mono (fun i hi h => by have := HNE.out; omega)))
        have HL6 : Hid (ElOpt w6 r el [.string n0, .string t0, .slice A0 m0 p0]) := by
          show ElOpt w6 r el _
          have h := HL5.out
          have hm := Own.keepLt (base := wa.heap.size) (base' := r) kS (by have := HEl.out; have := HrE.out; omega) (fun b hb e => by have := HEl.out; omega)
          cases el with
          | none => exact h
          | some x => exact ElR.mono hm x _ h
        rw [hw6]
        clear kS HR5 HN5 HE5 HG5 HK5 HL5 hw6
        cases zo with
        | some zx =>
          have HErr := Lib.hid (show X = .error zx from HHf.out)
          clear HHf
          obtain ⟨ze, za⟩ := zx
          obtain ⟨bad, hB, hbad, _⟩ := HR6.out
          obtain ⟨bb, rfl, hbb⟩ := hbad
          have c0 : w6.cell? ⟨r, 0, none⟩ = some (.string s) := hB.cell 0
          have c2 : w6.cell? ⟨r, 2, none⟩ = some (.pointer (some ⟨bb, 0, none⟩)) := hB.cell 2
          have b0 : w6.cell? ⟨bb, 0, none⟩ = some (.int .i64 ze) := hbb.cell 0
          have b1 : w6.cell? ⟨bb, 1, none⟩ = some (.int .i64 za) := hbb.cell 1
          have r0 : w6.cell? ⟨w.heap.size, 0, none⟩ = some (.string ⟨#[]⟩) := HN6.out.cell 0
          have r1 : w6.cell? ⟨w.heap.size, 1, none⟩ = some (.string ⟨#[]⟩) := HN6.out.cell 1
          have r2 : w6.cell? ⟨w.heap.size, 2, none⟩ = some (.slice none 0 0) := HN6.out.cell 2
          have fr0 := HN6.out.free 0
          have fr1 := HN6.out.free 1
          have fr2 := HN6.out.free 2
          have hl2 := HN6.out.lt
          have hl3 := hB.lt
          have hl4 := hbb.lt
          have d1 : ¬ w.heap.size = r := HN6.out.ne hB (by decide)
          have d2 : ¬ r = w.heap.size := fun e => d1 e.symm
          have d3 : ¬ w.heap.size = bb := HN6.out.ne hbb (by decide)
          have d4 : ¬ bb = w.heap.size := fun e => d3 e.symm
          clear hB hbb
          go_wp2_with fail
          go_region
          all_goals
            have hS := (((HN6.out.set 0 (.string ⟨#[]⟩)).set 1 (.string ⟨#[]⟩)).set 2 (.slice none 0 0))
            have hF := (hS.alloc (.cells #[.int .i64 ze, .int .i64 za, .nilIface] 55)).drew
            have hNew := Blk.new (((w6.setCell ⟨w.heap.size, 0, none⟩ (.string ⟨#[]⟩)).setCell ⟨w.heap.size, 1, none⟩ (.string ⟨#[]⟩)).setCell ⟨w.heap.size, 2, none⟩ (.slice none 0 0)) [.int .i64 ze, .int .i64 za, .nilIface] 55
            rw [World.size_setCell', World.size_setCell', World.size_setCell'] at hNew
            have hNew2 := hNew.drew
            have hKF := ((((HK6.out.set (p := ⟨w.heap.size, 0, none⟩) (fun _ => Nat.le_refl _) (.string ⟨#[]⟩)).set (p := ⟨w.heap.size, 1, none⟩) (fun _ => Nat.le_refl _) (.string ⟨#[]⟩)).set (p := ⟨w.heap.size, 2, none⟩) (fun _ => Nat.le_refl _) (.slice none 0 0)).alloc (.cells #[.int .i64 ze, .int .i64 za, .nilIface] 55)).drew
            have HNew := Lib.hid hNew2; have HKF := Lib.hid hKF; have HF := Lib.hid hF
            clear hS hF hNew hNew2 hKF
            go_wp2_with fail
            refine bodyPost_ret (v := .tuple #[.agg #[.string ⟨#[]⟩, .string ⟨#[]⟩, .slice none 0 0], .iface 53 (.pointer (some ⟨w6.heap.size, 0, none⟩))]) ?_ rfl ?_
            · have e0 := HF.out.cell 0
              have e1 := HF.out.cell 1
              have e2 := HF.out.cell 2
              simp [results, Tryz.results9, go_sem, e0, e1, e2]
            · rw [HErr.out]
              exact ⟨_, rfl, HNew.out, HK6.out.size, HKF.out.below (Nat.le_refl _)⟩
        | none =>
          obtain ⟨ex, rfl⟩ := elementS_some HZ.out
          have c2 := HR6.out.none
          go_wp2_with fail
          clear c2
          refine (blanks_any r s ⟨zk, none⟩ _ w6 HR6.out hs').mono ?_
          rintro e w7 ⟨rfl, hR7, hk7⟩
          obtain ⟨bk, hbk⟩ : ∃ bk, (blanksS (bs s) ⟨zk, none⟩).at_ = bk := ⟨_, rfl⟩
          have hb : blanksS (bs s) ⟨zk, none⟩ = ⟨bk, none⟩ := by rw [← hbk]; rfl
          rw [hb] at hR7
          have HL7 : Hid (ElR w7 (Own w7 r) ex [.string n0, .string t0, .slice A0 m0 p0]) := by
            refine ElR.mono (Own.keep hk7 (Nat.le_refl _) ?_) ex _ HL6.out
            rintro b _ rfl
            obtain ⟨bad, hB, _⟩ := HR6.out
            exact ⟨_, _, _, hB, by decide⟩
          have HR7 := Lib.hid hR7
          have HN7 := Lib.hid (hk7.blk HN6.out (by have := Hr.out; omega))
          have HE7 := Lib.hid (hk7.blk HE6.out (by have := HrE.out; omega))
          have HG7 := Lib.hid (HG6.out.keep hk7 (fun i hi h => by have := Hr3.out; omega))
          have HK7 := Lib.hid (HK6.out.trans (hk7.mono (fun i hi h => by have := Hr.out; omega)))
          have HHg := Lib.hid (show X = if bk < (bs s).length then .error (55, (bk : Int)) else .ok ex by rw [HHf.out]; rw [hb])
          clear hR7 hk7 hb hbk HR6 HN6 HE6 HG6 HK6 HL6 HHf
          have c1 : w7.cell? ⟨r, 1, none⟩ = some (.int .i64 bk) := HR7.out.cells.2.1
          by_cases hlt : bk < s.size
          · have hlt' : (bk : Int) < (s.size : Int) := by omega
            have HErr := Lib.hid (show X = .error (55, (bk : Int)) by rw [HHg.out, if_pos (by rw [bs_length]; exact hlt)])
            clear HHg hlt
            go_wp2_with fail
            refine (fail_any r s ⟨bk, none⟩ _ 55 _ w7 HR7.out).mono ?_
            rintro e w8 ⟨rfl, hR8, hk8⟩
            have HR0 := Lib.hid hR8
            have HN8 := Lib.hid (hk8.blk HN7.out (by have := Hr.out; omega))
            have HK8 := Lib.hid (HK7.out.trans (hk8.mono (fun i hi h => by have := Hr.out; omega)))
            clear hR8 hk8 HN7 HE7 HG7 HK7 HR7 HL7 c1
            obtain ⟨zx, hzx⟩ : ∃ zx : Int × Int, ((55 : Int), (bk : Int)) = zx := ⟨_, rfl⟩
            have HR8 := Lib.hid (show Rd w8 r s ⟨bk, some zx⟩ pv5 by rw [← hzx]; exact HR0.out)
            rw [hzx] at HErr
            clear HR0 hzx
            obtain ⟨ze, za⟩ := zx
            obtain ⟨bad, hB, hbad, _⟩ := HR8.out
            obtain ⟨bb, rfl, hbb⟩ := hbad
            have c0 : w8.cell? ⟨r, 0, none⟩ = some (.string s) := hB.cell 0
            have c2 : w8.cell? ⟨r, 2, none⟩ = some (.pointer (some ⟨bb, 0, none⟩)) := hB.cell 2
            have b0 : w8.cell? ⟨bb, 0, none⟩ = some (.int .i64 ze) := hbb.cell 0
            have b1 : w8.cell? ⟨bb, 1, none⟩ = some (.int .i64 za) := hbb.cell 1
            have r0 : w8.cell? ⟨w.heap.size, 0, none⟩ = some (.string ⟨#[]⟩) := HN8.out.cell 0
            have r1 : w8.cell? ⟨w.heap.size, 1, none⟩ = some (.string ⟨#[]⟩) := HN8.out.cell 1
            have r2 : w8.cell? ⟨w.heap.size, 2, none⟩ = some (.slice none 0 0) := HN8.out.cell 2
            have fr0 := HN8.out.free 0
            have fr1 := HN8.out.free 1
            have fr2 := HN8.out.free 2
            have hl2 := HN8.out.lt
            have hl3 := hB.lt
            have hl4 := hbb.lt
            have d1 : ¬ w.heap.size = r := HN8.out.ne hB (by decide)
            have d2 : ¬ r = w.heap.size := fun e => d1 e.symm
            have d3 : ¬ w.heap.size = bb := HN8.out.ne hbb (by decide)
            have d4 : ¬ bb = w.heap.size := fun e => d3 e.symm
            clear hB hbb
            go_wp2_with fail
            go_region
            all_goals
              have hS := (((HN8.out.set 0 (.string ⟨#[]⟩)).set 1 (.string ⟨#[]⟩)).set 2 (.slice none 0 0))
              have hF := (hS.alloc (.cells #[.int .i64 ze, .int .i64 za, .nilIface] 55)).drew
              have hNew := Blk.new (((w8.setCell ⟨w.heap.size, 0, none⟩ (.string ⟨#[]⟩)).setCell ⟨w.heap.size, 1, none⟩ (.string ⟨#[]⟩)).setCell ⟨w.heap.size, 2, none⟩ (.slice none 0 0)) [.int .i64 ze, .int .i64 za, .nilIface] 55
              rw [World.size_setCell', World.size_setCell', World.size_setCell'] at hNew
              have hNew2 := hNew.drew
              have hKF := ((((HK8.out.set (p := ⟨w.heap.size, 0, none⟩) (fun _ => Nat.le_refl _) (.string ⟨#[]⟩)).set (p := ⟨w.heap.size, 1, none⟩) (fun _ => Nat.le_refl _) (.string ⟨#[]⟩)).set (p := ⟨w.heap.size, 2, none⟩) (fun _ => Nat.le_refl _) (.slice none 0 0)).alloc (.cells #[.int .i64 ze, .int .i64 za, .nilIface] 55)).drew
              have HNew := Lib.hid hNew2; have HKF := Lib.hid hKF; have HF := Lib.hid hF
              clear hS hF hNew hNew2 hKF
              go_wp2_with fail
              refine bodyPost_ret (v := .tuple #[.agg #[.string ⟨#[]⟩, .string ⟨#[]⟩, .slice none 0 0], .iface 53 (.pointer (some ⟨w8.heap.size, 0, none⟩))]) ?_ rfl ?_
              · have e0 := HF.out.cell 0
                have e1 := HF.out.cell 1
                have e2 := HF.out.cell 2
                simp [results, Tryz.results9, go_sem, e0, e1, e2]
              · rw [HErr.out]
                exact ⟨_, rfl, HNew.out, HK8.out.size, HKF.out.below (Nat.le_refl _)⟩
          · have hlt' : ¬ ((bk : Int) < (s.size : Int)) := by omega
            have HOk := Lib.hid (show X = .ok ex by rw [HHg.out, if_neg (by rw [bs_length]; exact hlt)])
            have c2 := HR7.out.none
            have q0 : w7.cell? ⟨E, 0, none⟩ = some (.string n0) := HE7.out.cell 0
            have q1 : w7.cell? ⟨E, 1, none⟩ = some (.string t0) := HE7.out.cell 1
            have q2 : w7.cell? ⟨E, 2, none⟩ = some (.slice A0 m0 p0) := HE7.out.cell 2
            have r0 : w7.cell? ⟨w.heap.size, 0, none⟩ = some (.string ⟨#[]⟩) := HN7.out.cell 0
            have r1 : w7.cell? ⟨w.heap.size, 1, none⟩ = some (.string ⟨#[]⟩) := HN7.out.cell 1
            have r2 : w7.cell? ⟨w.heap.size, 2, none⟩ = some (.slice none 0 0) := HN7.out.cell 2
            have fr0 := HN7.out.free 0
            have fr1 := HN7.out.free 1
            have fr2 := HN7.out.free 2
            have hl2 := HN7.out.lt
            clear HHg hlt
            go_wp2_with fail
            have hF := (((HN7.out.set 0 (.string n0)).set 1 (.string t0)).set 2 (.slice A0 m0 p0))
            have e0 := hF.cell 0
            have e1 := hF.cell 1
            have e2 := hF.cell 2
            refine bodyPost_ret (v := .tuple #[.agg #[.string n0, .string t0, .slice A0 m0 p0], .nilIface]) ?_ rfl ?_
            · simp [results, Tryz.results9, go_sem, e0, e1, e2]
            · rw [HOk.out]
              have kS : Keeps (· = w.heap.size) w7 (((w7.setCell ⟨w.heap.size, 0, none⟩ (.string n0)).setCell ⟨w.heap.size, 1, none⟩ (.string t0)).setCell ⟨w.heap.size, 2, none⟩ (.slice A0 m0 p0)) := (((Keeps.refl _ _).set1 _ _).set1 _ _).set1 _ _
              refine ⟨_, _, _, rfl, ?_, ?_⟩
              · exact ElR.mono (Own.keepLt kS (by have := Hr.out; omega) (fun b hb e => by have := Hr.out; omega)) ex _ HL7.out
              · exact ((HK7.out.trans (kS.mono (fun i _ h => by omega))).below (Nat.le_refl _))
    | true =>
      have H63 := Lib.hid h63
      clear h63
      go_wp2_with fail
      refine (ahead_is (p := ⟨#[60, 63]⟩) HR2.out hs' H63.out).mono ?_
      rintro e w3 ⟨rfl, hR3, hk3⟩
      have HR3 := Lib.hid hR3
      have HN3 := Lib.hid (hk3.blk HN2.out (by have := Hr.out; omega))
      have HG3 := Lib.hid (HG2.out.keep hk3 (fun i hi h => by have := Hr3.out; omega))
      have HK3 := Lib.hid (HK2.out.trans (hk3.mono (fun i hi h => by have := Hr.out; omega)))
      clear hR3 hk3 HN2 HG2 HK2 HR2
      go_upto_if 20 with (fail)
      go_cut [] (fun wx => ∃ (k : Nat) (o : Option (Int × Int)), Hid (headS (bs s) = ⟨k, o⟩) ∧ Hid (Rd wx r s ⟨k, o⟩ (.slice none 0 0)) ∧ Hid (Blk wx w.heap.size [.string ⟨#[]⟩, .string ⟨#[]⟩, .slice none 0 0] 24) ∧ Hid (Glob wx) ∧ Hid (Keeps (fun k => w.heap.size ≤ k) w wx))
      case first =>
        go_wp2_with fail
        refine (want_any r s ⟨#[60, 63, 120, 109, 108]⟩ ⟨ak, none⟩ _ w3 HR3.out hs' (by decide)).mono ?_
        rintro e w4 ⟨rfl, hR4, hk4⟩
        obtain ⟨⟨bk, bo⟩, hb⟩ : ∃ b, wantS (bs s) [60, 63, 120, 109, 108] ⟨ak, none⟩ = b := ⟨_, rfl⟩
        rw [show wantS (bs s) (bs ⟨#[60, 63, 120, 109, 108]⟩) ⟨ak, none⟩ = ⟨bk, bo⟩ from hb] at hR4
        have HB := Lib.hid hb
        clear hb
        have HR4 := Lib.hid hR4
        have HN4 := Lib.hid (hk4.blk HN3.out (by have := Hr.out; omega))
        have HG4 := Lib.hid (HG3.out.keep hk4 (fun i hi h => by have := Hr3.out; omega))
        have HK4 := Lib.hid (HK3.out.trans (hk4.mono (fun i hi h => by have := Hr.out; omega)))
        clear hR4 hk4 HN3 HG3 HK3 HR3
        obtain ⟨n, hn⟩ : ∃ n, ixB ((bs s).drop bk) 63 = n := ⟨_, rfl⟩
        have hext : bs (s.extract bk s.size) = (bs s).drop bk := by rw [bs_extract, List.take_of_length_le (by rw [bs_length]; omega)]
        have hix : ∀ W, Calls Tryz.prog 28 #[.string (s.extract bk s.size), .int .u8 63] W fun e w' => e = .returned (.int .i64 n) ∧ W = w' := fun W => by
          rw [← hn, ← hext]; exact indexByte_any _ 63 W
        have hn1 : -1 ≤ n := by rw [← hn]; exact Lib.indexByte_ge _ _
        have hn2 : n < ((s.size - bk : Nat) : Int) := by
          rw [← hn]
          have := ixB_lt ((bs s).drop bk) 63
          rw [List.length_drop, bs_length] at this
          exact this
        have hkk : (bk : Int) ≤ (s.size : Int) := by have : bk ≤ s.size := HR4.out.at_le; omega
        have Hix := Lib.hid hix; have Hn := Lib.hid hn
        clear hix hn hext
        obtain ⟨c0, c1, c3, f1, f3, hl⟩ := HR4.out.cells
        go_wp2_with fail
        go_quiet ((go_at_call 28; exact quietE (Hix.out _)))
        have hk5 : Keeps (· = r) w4 (w4.drewN nq) := (Keeps.refl _ _).drewN _
        have hR5 := HR4.out.drewN nq
        clear c0 c1 c3 f1 f3 hl
        generalize w4.drewN nq = w5 at hk5 hR5 ⊢
        have HR5 := Lib.hid hR5
        have HN5 := Lib.hid (hk5.blk HN4.out (by have := Hr.out; omega))
        have HG5 := Lib.hid (HG4.out.keep hk5 (fun i hi h => by have := Hr3.out; omega))
        have HK5 := Lib.hid (HK4.out.trans (hk5.mono (fun i hi h => by have := Hr.out; omega)))
        clear hR5 hk5 HN4 HG4 HK4 HR4
        by_cases h0 : 0 ≤ n
        · have h0t : bk + n.toNat ≤ s.size := by omega
          have h0e : (bk : Int) + n = ((bk + n.toNat : Nat) : Int) := by omega
          have H0e := Lib.hid h0e
          clear h0e
          cases bo with
          | some y =>
            obtain ⟨bb, c2⟩ := HR5.out.some
            have HC : Hid ((if (some y : Option (Int × Int)).isSome then (⟨bk, some y⟩ : St) else ⟨if 0 ≤ ixB ((bs s).drop bk) 63 then bk + (ixB ((bs s).drop bk) 63).toNat else (bs s).length, none⟩) = ⟨bk, some y⟩) := by show _ = _; rfl
            go_wp2_with fail
            clear c2
            refine (want_any r s ⟨#[63, 62]⟩ ⟨bk, (some y)⟩ _ w5 HR5.out hs' (by decide)).mono ?_
            rintro e w7 ⟨rfl, hR7, hk7⟩
            obtain ⟨⟨dk, dO⟩, hd⟩ : ∃ d, wantS (bs s) [63, 62] ⟨bk, (some y)⟩ = d := ⟨_, rfl⟩
            rw [show wantS (bs s) (bs ⟨#[63, 62]⟩) ⟨bk, (some y)⟩ = ⟨dk, dO⟩ from hd] at hR7
            have HD := Lib.hid hd
            clear hd
            have HR7 := Lib.hid hR7
            have HN7 := Lib.hid (hk7.blk HN5.out (by have := Hr.out; omega))
            have HG7 := Lib.hid (HG5.out.keep hk7 (fun i hi h => by have := Hr3.out; omega))
            have HK7 := Lib.hid (HK5.out.trans (hk7.mono (fun i hi h => by have := Hr.out; omega)))
            clear hR7 hk7 HN5 HG5 HK5 HR5
            cases dO with
            | some y2 =>
              obtain ⟨bb, c2⟩ := HR7.out.some
              go_wp2_with fail
              go_meet
              refine ⟨dk, some y2, ?_, HR7.out, HN7.out, HG7.out, HK7.out⟩
              show headS (bs s) = _
              unfold headS; rw [HA.out]; dsimp only; rw [if_pos H63.out, HB.out]; dsimp only; rw [HC.out, HD.out]; rfl
            | none =>
              have c2 := HR7.out.none
              go_wp2_with fail
              clear c2
              refine (blanks_any r s ⟨dk, none⟩ _ w7 HR7.out hs').mono ?_
              rintro e w8 ⟨rfl, hR8, hk8⟩
              have HR8 := Lib.hid hR8
              have HN8 := Lib.hid (hk8.blk HN7.out (by have := Hr.out; omega))
              have HG8 := Lib.hid (HG7.out.keep hk8 (fun i hi h => by have := Hr3.out; omega))
              have HK8 := Lib.hid (HK7.out.trans (hk8.mono (fun i hi h => by have := Hr.out; omega)))
              clear hR8 hk8 HN7 HG7 HK7 HR7
              go_wp2_with fail
              go_meet
              refine ⟨(blanksS (bs s) ⟨dk, none⟩).at_, none, ?_, HR8.out, HN8.out, HG8.out, HK8.out⟩
              show headS (bs s) = _
              unfold headS; rw [HA.out]; dsimp only; rw [if_pos H63.out, HB.out]; dsimp only; rw [HC.out, HD.out]; rfl
          | none =>
            have c2 := HR5.out.none
            obtain ⟨c0, c1, c3, f1, f3, hl⟩ := HR5.out.cells
            have sn : IntKind.i64.wrap ((bk : Int) + n) = (bk : Int) + n := by rw [IntWalk.i64_in _ (by omega)]
            have HC : Hid ((if (none : Option (Int × Int)).isSome then (⟨bk, none⟩ : St) else ⟨if 0 ≤ ixB ((bs s).drop bk) 63 then bk + (ixB ((bs s).drop bk) 63).toNat else (bs s).length, none⟩) = ⟨bk + n.toNat, none⟩) := by
              show _ = _
              rw [Hn.out, if_neg (by decide), if_pos h0]
            go_wp2_with fail
            clear c0 c1 c2 c3 f1 f3 hl sn
            have hR6 := HR5.out.step (bk + n.toNat) h0t (v := .int .i64 ((bk : Int) + n)) (by rw [H0e.out])
            have hk6 : Keeps (· = r) w5 (w5.setCell ⟨r, 1, none⟩ (.int .i64 ((bk : Int) + n))) := (Keeps.refl _ _).set1 _ _
            generalize w5.setCell ⟨r, 1, none⟩ (.int .i64 ((bk : Int) + n)) = w6 at hR6 hk6 ⊢
            have HR6 := Lib.hid hR6
            have HN6 := Lib.hid (hk6.blk HN5.out (by have := Hr.out; omega))
            have HG6 := Lib.hid (HG5.out.keep hk6 (fun i hi h => by have := Hr3.out; omega))
            have HK6 := Lib.hid (HK5.out.trans (hk6.mono (fun i hi h => by have := Hr.out; omega)))
            clear hR6 hk6 HN5 HG5 HK5 HR5
            refine (want_any r s ⟨#[63, 62]⟩ ⟨(bk + n.toNat), none⟩ _ w6 HR6.out hs' (by decide)).mono ?_
            rintro e w7 ⟨rfl, hR7, hk7⟩
            obtain ⟨⟨dk, dO⟩, hd⟩ : ∃ d, wantS (bs s) [63, 62] ⟨(bk + n.toNat), none⟩ = d := ⟨_, rfl⟩
            rw [show wantS (bs s) (bs ⟨#[63, 62]⟩) ⟨(bk + n.toNat), none⟩ = ⟨dk, dO⟩ from hd] at hR7
            have HD := Lib.hid hd
            clear hd
            have HR7 := Lib.hid hR7
            have HN7 := Lib.hid (hk7.blk HN6.out (by have := Hr.out; omega))
            have HG7 := Lib.hid (HG6.out.keep hk7 (fun i hi h => by have := Hr3.out; omega))
            have HK7 := Lib.hid (HK6.out.trans (hk7.mono (fun i hi h => by have := Hr.out; omega)))
            clear hR7 hk7 HN6 HG6 HK6 HR6
            cases dO with
            | some y2 =>
              obtain ⟨bb, c2⟩ := HR7.out.some
              go_wp2_with fail
              go_meet
              refine ⟨dk, some y2, ?_, HR7.out, HN7.out, HG7.out, HK7.out⟩
              show headS (bs s) = _
              unfold headS; rw [HA.out]; dsimp only; rw [if_pos H63.out, HB.out]; dsimp only; rw [HC.out, HD.out]; rfl
            | none =>
              have c2 := HR7.out.none
              go_wp2_with fail
              clear c2
              refine (blanks_any r s ⟨dk, none⟩ _ w7 HR7.out hs').mono ?_
              rintro e w8 ⟨rfl, hR8, hk8⟩
              have HR8 := Lib.hid hR8
              have HN8 := Lib.hid (hk8.blk HN7.out (by have := Hr.out; omega))
              have HG8 := Lib.hid (HG7.out.keep hk8 (fun i hi h => by have := Hr3.out; omega))
              have HK8 := Lib.hid (HK7.out.trans (hk8.mono (fun i hi h => by have := Hr.out; omega)))
              clear hR8 hk8 HN7 HG7 HK7 HR7
              go_wp2_with fail
              go_meet
              refine ⟨(blanksS (bs s) ⟨dk, none⟩).at_, none, ?_, HR8.out, HN8.out, HG8.out, HK8.out⟩
              show headS (bs s) = _
              unfold headS; rw [HA.out]; dsimp only; rw [if_pos H63.out, HB.out]; dsimp only; rw [HC.out, HD.out]; rfl
        · cases bo with
          | some y =>
            obtain ⟨bb, c2⟩ := HR5.out.some
            have HC : Hid ((if (some y : Option (Int × Int)).isSome then (⟨bk, some y⟩ : St) else ⟨if 0 ≤ ixB ((bs s).drop bk) 63 then bk + (ixB ((bs s).drop bk) 63).toNat else (bs s).length, none⟩) = ⟨bk, some y⟩) := by show _ = _; rfl
            go_wp2_with fail
            clear c2
            refine (want_any r s ⟨#[63, 62]⟩ ⟨bk, (some y)⟩ _ w5 HR5.out hs' (by decide)).mono ?_
            rintro e w7 ⟨rfl, hR7, hk7⟩
            obtain ⟨⟨dk, dO⟩, hd⟩ : ∃ d, wantS (bs s) [63, 62] ⟨bk, (some y)⟩ = d := ⟨_, rfl⟩
            rw [show wantS (bs s) (bs ⟨#[63, 62]⟩) ⟨bk, (some y)⟩ = ⟨dk, dO⟩ from hd] at hR7
            have HD := Lib.hid hd
            clear hd
            have HR7 := Lib.hid hR7
            have HN7 := Lib.hid (hk7.blk HN5.out (by have := Hr.out; omega))
            have HG7 := Lib.hid (HG5.out.keep hk7 (fun i hi h => by have := Hr3.out; omega))
            have HK7 := Lib.hid (HK5.out.trans (hk7.mono (fun i hi h => by have := Hr.out; omega)))
            clear hR7 hk7 HN5 HG5 HK5 HR5
            cases dO with
            | some y2 =>
              obtain ⟨bb, c2⟩ := HR7.out.some
              go_wp2_with fail
              go_meet
              refine ⟨dk, some y2, ?_, HR7.out, HN7.out, HG7.out, HK7.out⟩
              show headS (bs s) = _
              unfold headS; rw [HA.out]; dsimp only; rw [if_pos H63.out, HB.out]; dsimp only; rw [HC.out, HD.out]; rfl
            | none =>
              have c2 := HR7.out.none
              go_wp2_with fail
              clear c2
              refine (blanks_any r s ⟨dk, none⟩ _ w7 HR7.out hs').mono ?_
              rintro e w8 ⟨rfl, hR8, hk8⟩
              have HR8 := Lib.hid hR8
              have HN8 := Lib.hid (hk8.blk HN7.out (by have := Hr.out; omega))
              have HG8 := Lib.hid (HG7.out.keep hk8 (fun i hi h => by have := Hr3.out; omega))
              have HK8 := Lib.hid (HK7.out.trans (hk8.mono (fun i hi h => by have := Hr.out; omega)))
              clear hR8 hk8 HN7 HG7 HK7 HR7
              go_wp2_with fail
              go_meet
              refine ⟨(blanksS (bs s) ⟨dk, none⟩).at_, none, ?_, HR8.out, HN8.out, HG8.out, HK8.out⟩
              show headS (bs s) = _
              unfold headS; rw [HA.out]; dsimp only; rw [if_pos H63.out, HB.out]; dsimp only; rw [HC.out, HD.out]; rfl
          | none =>
            have c2 := HR5.out.none
            obtain ⟨c0, c1, c3, f1, f3, hl⟩ := HR5.out.cells
            have HC : Hid ((if (none : Option (Int × Int)).isSome then (⟨bk, none⟩ : St) else ⟨if 0 ≤ ixB ((bs s).drop bk) 63 then bk + (ixB ((bs s).drop bk) 63).toNat else (bs s).length, none⟩) = ⟨s.size, none⟩) := by
              show _ = _
              rw [Hn.out, if_neg (by decide), if_neg h0, bs_length]
            go_wp2_with fail
            clear c0 c1 c2 c3 f1 f3 hl
            have hR6 := HR5.out.step s.size (Nat.le_refl _) (v := .int .i64 (s.size : Int)) rfl
            have hk6 : Keeps (· = r) w5 (w5.setCell ⟨r, 1, none⟩ (.int .i64 (s.size : Int))) := (Keeps.refl _ _).set1 _ _
            generalize w5.setCell ⟨r, 1, none⟩ (.int .i64 (s.size : Int)) = w6 at hR6 hk6 ⊢
            have HR6 := Lib.hid hR6
            have HN6 := Lib.hid (hk6.blk HN5.out (by have := Hr.out; omega))
            have HG6 := Lib.hid (HG5.out.keep hk6 (fun i hi h => by have := Hr3.out; omega))
            have HK6 := Lib.hid (HK5.out.trans (hk6.mono (fun i hi h => by have := Hr.out; omega)))
            clear hR6 hk6 HN5 HG5 HK5 HR5
            refine (want_any r s ⟨#[63, 62]⟩ ⟨s.size, none⟩ _ w6 HR6.out hs' (by decide)).mono ?_
            rintro e w7 ⟨rfl, hR7, hk7⟩
            obtain ⟨⟨dk, dO⟩, hd⟩ : ∃ d, wantS (bs s) [63, 62] ⟨s.size, none⟩ = d := ⟨_, rfl⟩
            rw [show wantS (bs s) (bs ⟨#[63, 62]⟩) ⟨s.size, none⟩ = ⟨dk, dO⟩ from hd] at hR7
            have HD := Lib.hid hd
            clear hd
            have HR7 := Lib.hid hR7
            have HN7 := Lib.hid (hk7.blk HN6.out (by have := Hr.out; omega))
            have HG7 := Lib.hid (HG6.out.keep hk7 (fun i hi h => by have := Hr3.out; omega))
            have HK7 := Lib.hid (HK6.out.trans (hk7.mono (fun i hi h => by have := Hr.out; omega)))
            clear hR7 hk7 HN6 HG6 HK6 HR6
            cases dO with
            | some y2 =>
              obtain ⟨bb, c2⟩ := HR7.out.some
              go_wp2_with fail
              go_meet
              refine ⟨dk, some y2, ?_, HR7.out, HN7.out, HG7.out, HK7.out⟩
              show headS (bs s) = _
              unfold headS; rw [HA.out]; dsimp only; rw [if_pos H63.out, HB.out]; dsimp only; rw [HC.out, HD.out]; rfl
            | none =>
              have c2 := HR7.out.none
              go_wp2_with fail
              clear c2
              refine (blanks_any r s ⟨dk, none⟩ _ w7 HR7.out hs').mono ?_
              rintro e w8 ⟨rfl, hR8, hk8⟩
              have HR8 := Lib.hid hR8
              have HN8 := Lib.hid (hk8.blk HN7.out (by have := Hr.out; omega))
              have HG8 := Lib.hid (HG7.out.keep hk8 (fun i hi h => by have := Hr3.out; omega))
              have HK8 := Lib.hid (HK7.out.trans (hk8.mono (fun i hi h => by have := Hr.out; omega)))
              clear hR8 hk8 HN7 HG7 HK7 HR7
              go_wp2_with fail
              go_meet
              refine ⟨(blanksS (bs s) ⟨dk, none⟩).at_, none, ?_, HR8.out, HN8.out, HG8.out, HK8.out⟩
              show headS (bs s) = _
              unfold headS; rw [HA.out]; dsimp only; rw [if_pos H63.out, HB.out]; dsimp only; rw [HC.out, HD.out]; rfl
      case rest =>
        obtain ⟨k, o, HHd, HRc, HNc, HGc, HKc⟩ := hcut
        clear HR3 HN3 HG3 HK3 HA H63
        obtain ⟨wa, hwa⟩ : ∃ wa, wc.alloc (.cells #[.string ⟨#[]⟩, .string ⟨#[]⟩, .slice none 0 0] 24) = wa := ⟨_, rfl⟩
        obtain ⟨E, hE⟩ : ∃ E, wc.heap.size = E := ⟨_, rfl⟩
        have kA : Keeps (fun _ => False) wc wa := by rw [← hwa]; exact (Keeps.refl _ _).alloc _
        have HRa := Lib.hid (HRc.out.keep kA (fun h => h) (fun _ _ _ h => h))
        have HNa := Lib.hid (kA.blk HNc.out (fun h => h))
        have HGa := Lib.hid (HGc.out.keep kA (fun _ _ h => h))
        have HKa := Lib.hid (HKc.out.trans (kA.mono (fun _ _ h => h.elim)))
        have HEa : Hid (Blk wa E [.string ⟨#[]⟩, .string ⟨#[]⟩, .slice none 0 0] 24) := by
          show Blk wa E _ 24
          rw [← hwa, ← hE]; exact Blk.new wc [.string ⟨#[]⟩, .string ⟨#[]⟩, .slice none 0 0] 24
        have hrE : r < E := by
          obtain ⟨_, _, _, _, _, hl⟩ := HRc.out.cells
          omega
        have hNE : w.heap.size < E := by have := Hr.out; omega
        have HrE := Lib.hid hrE; have HNE := Lib.hid hNE; have Hwa := Lib.hid hwa; have HE := Lib.hid hE
        have HHe := Lib.hid (HHead.out.trans (by rw [HHd.out]))
        clear kA hrE hNE hwa hE HRc HNc HGc HKc HHead HHd
        go_upto_region 16 with (fail)
        rw [Hwa.out, HE.out]
        clear Hwa HE
        cases o with
        | some zx =>
          obtain ⟨ze, za⟩ := zx
          obtain ⟨bad, hB, hbad, _⟩ := HRa.out
          obtain ⟨bb, rfl, hbb⟩ := hbad
          have c0 : wa.cell? ⟨r, 0, none⟩ = some (.string s) := hB.cell 0
          have c2 : wa.cell? ⟨r, 2, none⟩ = some (.pointer (some ⟨bb, 0, none⟩)) := hB.cell 2
          have b0 : wa.cell? ⟨bb, 0, none⟩ = some (.int .i64 ze) := hbb.cell 0
          have b1 : wa.cell? ⟨bb, 1, none⟩ = some (.int .i64 za) := hbb.cell 1
          have r0 : wa.cell? ⟨w.heap.size, 0, none⟩ = some (.string ⟨#[]⟩) := HNa.out.cell 0
          have r1 : wa.cell? ⟨w.heap.size, 1, none⟩ = some (.string ⟨#[]⟩) := HNa.out.cell 1
          have r2 : wa.cell? ⟨w.heap.size, 2, none⟩ = some (.slice none 0 0) := HNa.out.cell 2
          have fr0 := HNa.out.free 0
          have fr1 := HNa.out.free 1
          have fr2 := HNa.out.free 2
          have hl2 := HNa.out.lt
          have hl3 := hB.lt
          have hl4 := hbb.lt
          have d1 : ¬ w.heap.size = r := HNa.out.ne hB (by decide)
          have d2 : ¬ r = w.heap.size := fun e => d1 e.symm
          have d3 : ¬ w.heap.size = bb := HNa.out.ne hbb (by decide)
          have d4 : ¬ bb = w.heap.size := fun e => d3 e.symm
          clear hB hbb
          go_wp2_with fail
          go_region
          all_goals
            have hS := (((HNa.out.set 0 (.string ⟨#[]⟩)).set 1 (.string ⟨#[]⟩)).set 2 (.slice none 0 0))
            have hF := (hS.alloc (.cells #[.int .i64 ze, .int .i64 za, .nilIface] 55)).drew
            have hNew := Blk.new (((wa.setCell ⟨w.heap.size, 0, none⟩ (.string ⟨#[]⟩)).setCell ⟨w.heap.size, 1, none⟩ (.string ⟨#[]⟩)).setCell ⟨w.heap.size, 2, none⟩ (.slice none 0 0)) [.int .i64 ze, .int .i64 za, .nilIface] 55
            rw [World.size_setCell', World.size_setCell', World.size_setCell'] at hNew
            have hNew2 := hNew.drew
            have hKF := ((((HKa.out.set (p := ⟨w.heap.size, 0, none⟩) (fun _ => Nat.le_refl _) (.string ⟨#[]⟩)).set (p := ⟨w.heap.size, 1, none⟩) (fun _ => Nat.le_refl _) (.string ⟨#[]⟩)).set (p := ⟨w.heap.size, 2, none⟩) (fun _ => Nat.le_refl _) (.slice none 0 0)).alloc (.cells #[.int .i64 ze, .int .i64 za, .nilIface] 55)).drew
            have HNew := Lib.hid hNew2; have HKF := Lib.hid hKF; have HF := Lib.hid hF
            clear hS hF hNew hNew2 hKF
            go_wp2_with fail
            refine bodyPost_ret (v := .tuple #[.agg #[.string ⟨#[]⟩, .string ⟨#[]⟩, .slice none 0 0], .iface 53 (.pointer (some ⟨wa.heap.size, 0, none⟩))]) ?_ rfl ?_
            · have e0 := HF.out.cell 0
              have e1 := HF.out.cell 1
              have e2 := HF.out.cell 2
              simp [results, Tryz.results9, go_sem, e0, e1, e2]
            · rw [HHe.out]
              exact ⟨_, rfl, HNew.out, HKa.out.size, HKF.out.below (Nat.le_refl _)⟩
        | none =>
          have c2 := HRa.out.none
          go_wp2_with fail
          clear c2
          have hel := element_any r s k wa HRa.out Hr3.out hs' HGa.out
          obtain ⟨⟨⟨zk, zo⟩, el⟩, hZ⟩ : ∃ z, elementS (bs s) k = z := ⟨_, rfl⟩
          rw [hZ] at hel
          have HHf := Lib.hid (HHe.out.trans (by rw [hZ]))
          have HZ := Lib.hid hZ
          clear HHe hZ
          refine hel.mono ?_
          rintro e w5 ⟨a0, a1, a2, pv5, rfl, hR5, hE5, hk5⟩
          obtain ⟨n0, t0, A0, m0, p0, rfl, rfl, rfl⟩ := hE5.form
          have HR5 := Lib.hid hR5
          have HN5 := Lib.hid (hk5.blk HNa.out (by have := Hr.out; omega))
          have HE5 := Lib.hid (hk5.blk HEa.out (by have := HrE.out; omega))
          have HG5 := Lib.hid (HGa.out.keep hk5 (fun i hi h => by have := Hr3.out; omega))
          have HK5 := Lib.hid (HKa.out.trans (hk5.mono (fun i hi h => by have := Hr.out; omega)))
          have HL5 := Lib.hid hE5
          have HEl := Lib.hid HEa.out.lt
          clear hel hR5 hk5 hE5 HRa HNa HGa HKa HEa
          have q0 : w5.cell? ⟨E, 0, none⟩ = some (.string ⟨#[]⟩) := HE5.out.cell 0
          have q1 : w5.cell? ⟨E, 1, none⟩ = some (.string ⟨#[]⟩) := HE5.out.cell 1
          have q2 : w5.cell? ⟨E, 2, none⟩ = some (.slice none 0 0) := HE5.out.cell 2
          have fq0 := HE5.out.free 0
          have fq1 := HE5.out.free 1
          have fq2 := HE5.out.free 2
          have hql := HE5.out.lt
          go_upto_region 18 with (fail)
          clear q0 q1 q2 fq0 fq1 fq2 hql
          obtain ⟨w6, hw6⟩ : ∃ w6, ((w5.setCell ⟨E, 0, none⟩ (.string n0)).setCell ⟨E, 1, none⟩ (.string t0)).setCell ⟨E, 2, none⟩ (.slice A0 m0 p0) = w6 := ⟨_, rfl⟩
          have kS : Keeps (· = E) w5 w6 := by rw [← hw6]; exact (((Keeps.refl _ _).set1 _ _).set1 _ _).set1 _ _
          have HR6 := Lib.hid (HR5.out.keep kS (by have := HrE.out; omega) (fun b cs hb e => hb.ne HE5.out (by decide) e))
          have HN6 := Lib.hid (kS.blk HN5.out (by have := HNE.out; omega))
          have HE6 : Hid (Blk w6 E [.string n0, .string t0, .slice A0 m0 p0] 24) := by
            show Blk w6 E _ 24
            rw [← hw6]; exact ((HE5.out.set 0 _).set 1 _).set 2 _
          have HG6 := Lib.hid (HG5.out.keep kS (fun i hi h => by have := HrE.out; have := Hr3.out; omega))
          have HK6 := Lib.hid (HK5.out.trans (kS.mono (fun i hi h => by have := HNE.out; omega)))
          have HL6 : Hid (ElOpt w6 r el [.string n0, .string t0, .slice A0 m0 p0]) := by
            show ElOpt w6 r el _
            have h := HL5.out
            have hm := Own.keepLt (base := wa.heap.size) (base' := r) kS (by have := HEl.out; have := HrE.out; omega) (fun b hb e => by have := HEl.out; omega)
            cases el with
            | none => exact h
            | some x => exact ElR.mono hm x _ h
          rw [hw6]
          clear kS HR5 HN5 HE5 HG5 HK5 HL5 hw6
          cases zo with
          | some zx =>
            have HErr := Lib.hid (show X = .error zx from HHf.out)
            clear HHf
            obtain ⟨ze, za⟩ := zx
            obtain ⟨bad, hB, hbad, _⟩ := HR6.out
            obtain ⟨bb, rfl, hbb⟩ := hbad
            have c0 : w6.cell? ⟨r, 0, none⟩ = some (.string s) := hB.cell 0
            have c2 : w6.cell? ⟨r, 2, none⟩ = some (.pointer (some ⟨bb, 0, none⟩)) := hB.cell 2
            have b0 : w6.cell? ⟨bb, 0, none⟩ = some (.int .i64 ze) := hbb.cell 0
            have b1 : w6.cell? ⟨bb, 1, none⟩ = some (.int .i64 za) := hbb.cell 1
            have r0 : w6.cell? ⟨w.heap.size, 0, none⟩ = some (.string ⟨#[]⟩) := HN6.out.cell 0
            have r1 : w6.cell? ⟨w.heap.size, 1, none⟩ = some (.string ⟨#[]⟩) := HN6.out.cell 1
            have r2 : w6.cell? ⟨w.heap.size, 2, none⟩ = some (.slice none 0 0) := HN6.out.cell 2
            have fr0 := HN6.out.free 0
            have fr1 := HN6.out.free 1
            have fr2 := HN6.out.free 2
            have hl2 := HN6.out.lt
            have hl3 := hB.lt
            have hl4 := hbb.lt
            have d1 : ¬ w.heap.size = r := HN6.out.ne hB (by decide)
            have d2 : ¬ r = w.heap.size := fun e => d1 e.symm
            have d3 : ¬ w.heap.size = bb := HN6.out.ne hbb (by decide)
            have d4 : ¬ bb = w.heap.size := fun e => d3 e.symm
            clear hB hbb
            go_wp2_with fail
            go_region
            all_goals
              have hS := (((HN6.out.set 0 (.string ⟨#[]⟩)).set 1 (.string ⟨#[]⟩)).set 2 (.slice none 0 0))
              have hF := (hS.alloc (.cells #[.int .i64 ze, .int .i64 za, .nilIface] 55)).drew
              have hNew := Blk.new (((w6.setCell ⟨w.heap.size, 0, none⟩ (.string ⟨#[]⟩)).setCell ⟨w.heap.size, 1, none⟩ (.string ⟨#[]⟩)).setCell ⟨w.heap.size, 2, none⟩ (.slice none 0 0)) [.int .i64 ze, .int .i64 za, .nilIface] 55
              rw [World.size_setCell', World.size_setCell', World.size_setCell'] at hNew
              have hNew2 := hNew.drew
              have hKF := ((((HK6.out.set (p := ⟨w.heap.size, 0, none⟩) (fun _ => Nat.le_refl _) (.string ⟨#[]⟩)).set (p := ⟨w.heap.size, 1, none⟩) (fun _ => Nat.le_refl _) (.string ⟨#[]⟩)).set (p := ⟨w.heap.size, 2, none⟩) (fun _ => Nat.le_refl _) (.slice none 0 0)).alloc (.cells #[.int .i64 ze, .int .i64 za, .nilIface] 55)).drew
              have HNew := Lib.hid hNew2; have HKF := Lib.hid hKF; have HF := Lib.hid hF
              clear hS hF hNew hNew2 hKF
              go_wp2_with fail
              refine bodyPost_ret (v := .tuple #[.agg #[.string ⟨#[]⟩, .string ⟨#[]⟩, .slice none 0 0], .iface 53 (.pointer (some ⟨w6.heap.size, 0, none⟩))]) ?_ rfl ?_
              · have e0 := HF.out.cell 0
                have e1 := HF.out.cell 1
                have e2 := HF.out.cell 2
                simp [results, Tryz.results9, go_sem, e0, e1, e2]
              · rw [HErr.out]
                exact ⟨_, rfl, HNew.out, HK6.out.size, HKF.out.below (Nat.le_refl _)⟩
          | none =>
            obtain ⟨ex, rfl⟩ := elementS_some HZ.out
            have c2 := HR6.out.none
            go_wp2_with fail
            clear c2
            refine (blanks_any r s ⟨zk, none⟩ _ w6 HR6.out hs').mono ?_
            rintro e w7 ⟨rfl, hR7, hk7⟩
            obtain ⟨bk, hbk⟩ : ∃ bk, (blanksS (bs s) ⟨zk, none⟩).at_ = bk := ⟨_, rfl⟩
            have hb : blanksS (bs s) ⟨zk, none⟩ = ⟨bk, none⟩ := by rw [← hbk]; rfl
            rw [hb] at hR7
            have HL7 : Hid (ElR w7 (Own w7 r) ex [.string n0, .string t0, .slice A0 m0 p0]) := by
              refine ElR.mono (Own.keep hk7 (Nat.le_refl _) ?_) ex _ HL6.out
              rintro b _ rfl
              obtain ⟨bad, hB, _⟩ := HR6.out
              exact ⟨_, _, _, hB, by decide⟩
            have HR7 := Lib.hid hR7
            have HN7 := Lib.hid (hk7.blk HN6.out (by have := Hr.out; omega))
            have HE7 := Lib.hid (hk7.blk HE6.out (by have := HrE.out; omega))
            have HG7 := Lib.hid (HG6.out.keep hk7 (fun i hi h => by have := Hr3.out; omega))
            have HK7 := Lib.hid (HK6.out.trans (hk7.mono (fun i hi h => by have := Hr.out; omega)))
            have HHg := Lib.hid (show X = if bk < (bs s).length then .error (55, (bk : Int)) else .ok ex by rw [HHf.out]; rw [hb])
            clear hR7 hk7 hb hbk HR6 HN6 HE6 HG6 HK6 HL6 HHf
            have c1 : w7.cell? ⟨r, 1, none⟩ = some (.int .i64 bk) := HR7.out.cells.2.1
            by_cases hlt : bk < s.size
            · have hlt' : (bk : Int) < (s.size : Int) := by omega
              have HErr := Lib.hid (show X = .error (55, (bk : Int)) by rw [HHg.out, if_pos (by rw [bs_length]; exact hlt)])
              clear HHg hlt
              go_wp2_with fail
              refine (fail_any r s ⟨bk, none⟩ _ 55 _ w7 HR7.out).mono ?_
              rintro e w8 ⟨rfl, hR8, hk8⟩
              have HR0 := Lib.hid hR8
              have HN8 := Lib.hid (hk8.blk HN7.out (by have := Hr.out; omega))
              have HK8 := Lib.hid (HK7.out.trans (hk8.mono (fun i hi h => by have := Hr.out; omega)))
              clear hR8 hk8 HN7 HE7 HG7 HK7 HR7 HL7 c1
              obtain ⟨zx, hzx⟩ : ∃ zx : Int × Int, ((55 : Int), (bk : Int)) = zx := ⟨_, rfl⟩
              have HR8 := Lib.hid (show Rd w8 r s ⟨bk, some zx⟩ pv5 by rw [← hzx]; exact HR0.out)
              rw [hzx] at HErr
              clear HR0 hzx
              obtain ⟨ze, za⟩ := zx
              obtain ⟨bad, hB, hbad, _⟩ := HR8.out
              obtain ⟨bb, rfl, hbb⟩ := hbad
              have c0 : w8.cell? ⟨r, 0, none⟩ = some (.string s) := hB.cell 0
              have c2 : w8.cell? ⟨r, 2, none⟩ = some (.pointer (some ⟨bb, 0, none⟩)) := hB.cell 2
              have b0 : w8.cell? ⟨bb, 0, none⟩ = some (.int .i64 ze) := hbb.cell 0
              have b1 : w8.cell? ⟨bb, 1, none⟩ = some (.int .i64 za) := hbb.cell 1
              have r0 : w8.cell? ⟨w.heap.size, 0, none⟩ = some (.string ⟨#[]⟩) := HN8.out.cell 0
              have r1 : w8.cell? ⟨w.heap.size, 1, none⟩ = some (.string ⟨#[]⟩) := HN8.out.cell 1
              have r2 : w8.cell? ⟨w.heap.size, 2, none⟩ = some (.slice none 0 0) := HN8.out.cell 2
              have fr0 := HN8.out.free 0
              have fr1 := HN8.out.free 1
              have fr2 := HN8.out.free 2
              have hl2 := HN8.out.lt
              have hl3 := hB.lt
              have hl4 := hbb.lt
              have d1 : ¬ w.heap.size = r := HN8.out.ne hB (by decide)
              have d2 : ¬ r = w.heap.size := fun e => d1 e.symm
              have d3 : ¬ w.heap.size = bb := HN8.out.ne hbb (by decide)
              have d4 : ¬ bb = w.heap.size := fun e => d3 e.symm
              clear hB hbb
              go_wp2_with fail
              go_region
              all_goals
                have hS := (((HN8.out.set 0 (.string ⟨#[]⟩)).set 1 (.string ⟨#[]⟩)).set 2 (.slice none 0 0))
                have hF := (hS.alloc (.cells #[.int .i64 ze, .int .i64 za, .nilIface] 55)).drew
                have hNew := Blk.new (((w8.setCell ⟨w.heap.size, 0, none⟩ (.string ⟨#[]⟩)).setCell ⟨w.heap.size, 1, none⟩ (.string ⟨#[]⟩)).setCell ⟨w.heap.size, 2, none⟩ (.slice none 0 0)) [.int .i64 ze, .int .i64 za, .nilIface] 55
                rw [World.size_setCell', World.size_setCell', World.size_setCell'] at hNew
                have hNew2 := hNew.drew
                have hKF := ((((HK8.out.set (p := ⟨w.heap.size, 0, none⟩) (fun _ => Nat.le_refl _) (.string ⟨#[]⟩)).set (p := ⟨w.heap.size, 1, none⟩) (fun _ => Nat.le_refl _) (.string ⟨#[]⟩)).set (p := ⟨w.heap.size, 2, none⟩) (fun _ => Nat.le_refl _) (.slice none 0 0)).alloc (.cells #[.int .i64 ze, .int .i64 za, .nilIface] 55)).drew
                have HNew := Lib.hid hNew2; have HKF := Lib.hid hKF; have HF := Lib.hid hF
                clear hS hF hNew hNew2 hKF
                go_wp2_with fail
                refine bodyPost_ret (v := .tuple #[.agg #[.string ⟨#[]⟩, .string ⟨#[]⟩, .slice none 0 0], .iface 53 (.pointer (some ⟨w8.heap.size, 0, none⟩))]) ?_ rfl ?_
                · have e0 := HF.out.cell 0
                  have e1 := HF.out.cell 1
                  have e2 := HF.out.cell 2
                  simp [results, Tryz.results9, go_sem, e0, e1, e2]
                · rw [HErr.out]
                  exact ⟨_, rfl, HNew.out, HK8.out.size, HKF.out.below (Nat.le_refl _)⟩
            · have hlt' : ¬ ((bk : Int) < (s.size : Int)) := by omega
              have HOk := Lib.hid (show X = .ok ex by rw [HHg.out, if_neg (by rw [bs_length]; exact hlt)])
              have c2 := HR7.out.none
              have q0 : w7.cell? ⟨E, 0, none⟩ = some (.string n0) := HE7.out.cell 0
              have q1 : w7.cell? ⟨E, 1, none⟩ = some (.string t0) := HE7.out.cell 1
              have q2 : w7.cell? ⟨E, 2, none⟩ = some (.slice A0 m0 p0) := HE7.out.cell 2
              have r0 : w7.cell? ⟨w.heap.size, 0, none⟩ = some (.string ⟨#[]⟩) := HN7.out.cell 0
              have r1 : w7.cell? ⟨w.heap.size, 1, none⟩ = some (.string ⟨#[]⟩) := HN7.out.cell 1
              have r2 : w7.cell? ⟨w.heap.size, 2, none⟩ = some (.slice none 0 0) := HN7.out.cell 2
              have fr0 := HN7.out.free 0
              have fr1 := HN7.out.free 1
              have fr2 := HN7.out.free 2
              have hl2 := HN7.out.lt
              clear HHg hlt
              go_wp2_with fail
              have hF := (((HN7.out.set 0 (.string n0)).set 1 (.string t0)).set 2 (.slice A0 m0 p0))
              have e0 := hF.cell 0
              have e1 := hF.cell 1
              have e2 := hF.cell 2
              refine bodyPost_ret (v := .tuple #[.agg #[.string n0, .string t0, .slice A0 m0 p0], .nilIface]) ?_ rfl ?_
              · simp [results, Tryz.results9, go_sem, e0, e1, e2]
              · rw [HOk.out]
                have kS : Keeps (· = w.heap.size) w7 (((w7.setCell ⟨w.heap.size, 0, none⟩ (.string n0)).setCell ⟨w.heap.size, 1, none⟩ (.string t0)).setCell ⟨w.heap.size, 2, none⟩ (.slice A0 m0 p0)) := (((Keeps.refl _ _).set1 _ _).set1 _ _).set1 _ _
                refine ⟨_, _, _, rfl, ?_, ?_⟩
                · exact ElR.mono (Own.keepLt kS (by have := Hr.out; omega) (fun b hb e => by have := Hr.out; omega)) ex _ HL7.out
                · exact ((HK7.out.trans (kS.mono (fun i _ h => by omega))).below (Nat.le_refl _))
end Go.Proofs.YtkjopcbleefioaaGreatDoor
