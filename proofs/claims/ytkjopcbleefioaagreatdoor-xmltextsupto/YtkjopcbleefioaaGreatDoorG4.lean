/- Clone, twin, Find, where the kids found have none themselves: the walks. -/
import Derived.Test.YtkjopcbleefioaaGreatDoorG3
import Derived.Lib.LazyBuf
namespace Go.Proofs.YtkjopcbleefioaaGreatDoor
open Go Go.RowKit
set_option linter.unusedSimpArgs false
set_option linter.unusedVariables false

theorem run_append_zero (b : Addr) (A : Option Addr) (c : Nat) (ty : TypeId) (w : World) : (Builtin.append_ #[22, 22] ty #[.slice (some b) 0 0, .slice A 0 c]).run Tryz.prog w = .ok (.slice (some b) 0 0) w := by
  obtain ⟨i0, hi, hz0, hz1, hz2⟩ := info_parts infoEl24
  have hf : (Builtin.firstCells 3 0 (.slice A 0 c)).run Tryz.prog w = .ok #[] w := by
    cases A with
    | none => exact run_firstCells_none (P := Tryz.prog) w 3 0 0 c
    | some a => exact run_firstCells_some (P := Tryz.prog) w 3 0 a 0 c [] rfl (by intro j v h; simp at h)
  have ht := Tryz.underlying22
  simp [Builtin.append_, run_underlying ht, sizeOf, typeInfo, zeroValue, hi, hz0, hz1, hz2, Builtin.lenOf, hf, storeCells]

set_option maxHeartbeats 4000000 in
set_option maxRecDepth 100000 in
theorem clone0_any (A : Option Addr) (c : Nat) (w : World) :
    Calls Tryz.prog 45 #[.slice A 0 c] w fun e w' => ∃ A' c', e = .returned (.slice A' 0 c') ∧ Below w.heap.size w w' := by
  cases A with
  | none =>
    have hq := Lib.run_eql_slice_nil (P := Tryz.prog) w 22 24 none 0 c 0 0 Tryz.underlying22
    go_enter Tryz.func45, Tryz.ntmps45
    go_wp2_with fail
    go_ret
    exact ⟨_, _, rfl, Below.refl _ _⟩
  | some a =>
    have hq := Lib.run_eql_slice_nil (P := Tryz.prog) w 22 24 (some a) 0 c 0 0 Tryz.underlying22
    have hap := run_append_zero ⟨w.heap.size, 0, none⟩ (some a) c 22 (w.alloc (.cells #[] 24))
    go_enter Tryz.func45, Tryz.ntmps45
    go_wp2_with fail
    go_ret
    exact ⟨_, _, rfl, (Below.refl _ _).alloc (Nat.le_refl _) _⟩

set_option maxHeartbeats 4000000 in
set_option maxRecDepth 100000 in
theorem twin0_any (N T : ByteArray) (A : Option Addr) (c : Nat) (w : World) :
    Calls Tryz.prog 34 #[.agg #[.string N, .string T, .slice A 0 c]] w fun e w' => ∃ A' c', e = .returned (.agg #[.string N, .string T, .slice A' 0 c']) ∧ Below w.heap.size w w' := by
  have hcl := fun w => clone0_any A c w
  have HC := Lib.hid hcl
  clear hcl
  go_enter Tryz.func34, Tryz.ntmps34
  go_wp2_with fail
  refine (HC.out _).mono ?_
  rintro en w1 ⟨A', c', rfl, hb1⟩
  have hb0 : Below w.heap.size w ((w.alloc (.cells #[.string N, .string T, .slice A 0 c] 24)).alloc (.cells #[.string ⟨#[]⟩, .string ⟨#[]⟩, .slice none 0 0] 24)) := ((Below.refl _ _).alloc (Nat.le_refl _) _).alloc (by simp) _
  have hE0 : Blk ((w.alloc (.cells #[.string N, .string T, .slice A 0 c] 24)).alloc (.cells #[.string ⟨#[]⟩, .string ⟨#[]⟩, .slice none 0 0] 24)) w.heap.size [.string N, .string T, .slice A 0 c] 24 := (Blk.new w _ _).alloc _
  have hR0 : Blk ((w.alloc (.cells #[.string N, .string T, .slice A 0 c] 24)).alloc (.cells #[.string ⟨#[]⟩, .string ⟨#[]⟩, .slice none 0 0] 24)) (w.heap.size + 1) [.string ⟨#[]⟩, .string ⟨#[]⟩, .slice none 0 0] 24 := by
    have := Blk.new (w.alloc (.cells #[.string N, .string T, .slice A 0 c] 24)) [.string ⟨#[]⟩, .string ⟨#[]⟩, .slice none 0 0] 24
    simpa using this
  have hk1 := Keeps.fresh (D := fun _ => False) hb1
  have hE1 := hk1.blk hE0 (fun h => h)
  have hR1 := hk1.blk hR0 (fun h => h)
  have HB1 := Lib.hid (hb0.trans (hb1.mono hb0.size))
  have HE1 := Lib.hid (hE1.set 2 (.slice A' 0 c'))
  have HR1 := Lib.hid (hR1.far (p := ⟨w.heap.size, 2, none⟩) (by simp) (.slice A' 0 c'))
  have c2 : w1.cell? ⟨w.heap.size, 2, none⟩ = some (.slice A 0 c) := hE1.cell 2
  have f2 := hE1.free 2
  clear hb0 hE0 hR0 hk1 hE1 hR1 hb1 HC
  go_wp2_with fail
  clear c2 f2
  go_loopg [12] 0 (fun gk i wr => i = .int .i64 0 ∧ Hid (Blk wr w.heap.size [.string N, .string T, .slice A' 0 c'] 24) ∧ Hid (Blk wr (w.heap.size + 1) [.string ⟨#[]⟩, .string ⟨#[]⟩, .slice none 0 0] 24) ∧ Hid (Below w.heap.size w wr))
  case atStart => exact ⟨rfl, HE1.out, HR1.out, HB1.out.setCell (Nat.le_refl _) _⟩
  case round =>
    clear HE1 HR1 HB1
    obtain ⟨rfl, HEr, HRr, HBr⟩ := hrel
    have e0 : wr.cell? ⟨w.heap.size, 0, none⟩ = some (.string N) := HEr.out.cell 0
    have e1 : wr.cell? ⟨w.heap.size, 1, none⟩ = some (.string T) := HEr.out.cell 1
    have e2 : wr.cell? ⟨w.heap.size, 2, none⟩ = some (.slice A' 0 c') := HEr.out.cell 2
    have r0 : wr.cell? ⟨w.heap.size + 1, 0, none⟩ = some (.string ⟨#[]⟩) := HRr.out.cell 0
    have r1 : wr.cell? ⟨w.heap.size + 1, 1, none⟩ = some (.string ⟨#[]⟩) := HRr.out.cell 1
    have r2 : wr.cell? ⟨w.heap.size + 1, 2, none⟩ = some (.slice none 0 0) := HRr.out.cell 2
    have z0 := HRr.out.free 0
    have z1 := HRr.out.free 1
    have z2 := HRr.out.free 2
    go_wp2_with fail
    have hF := (((HRr.out.set 0 (.string N)).set 1 (.string T)).set 2 (.slice A' 0 c'))
    have q0 := hF.cell 0
    have q1 := hF.cell 1
    have q2 := hF.cell 2
    refine bodyPost_ret (v := .agg #[.string N, .string T, .slice A' 0 c']) ?_ rfl ?_
    · simp [results, Tryz.results34, go_sem, q0, q1, q2]
    · exact ⟨_, _, rfl, ((HBr.out.setCell (Nat.le_succ _) _).setCell (Nat.le_succ _) _).setCell (Nat.le_succ _) _⟩

/-- How many kids have a name. -/
def namedN (name : List UInt8) (ks : List El) : Nat := (ks.filter fun k => decide (k.name = name)).length
theorem namedN_take {name : List UInt8} {ks : List El} {j : Nat} {k : El} (h : ks[j]? = some k) : namedN name (ks.take (j + 1)) = namedN name (ks.take j) + if k.name = name then 1 else 0 := by
  unfold namedN
  rw [List.take_add_one, h, List.filter_append, List.length_append]
  by_cases hn : k.name = name <;> simp [hn]
theorem namedN_le (name : List UInt8) (ks : List El) : namedN name ks ≤ ks.length := List.length_filter_le _ _

set_option maxHeartbeats 16000000 in
set_option maxRecDepth 100000 in
theorem find0_any (B : Nat) (e : El) (name : List UInt8) (a0 a1 a2 : Value) (w : World) (hE : ElR w (· < B) e [a0, a1, a2]) (hs : El.size e ≤ 16777216) (hB : B ≤ w.heap.size) (hleaf : ∀ k ∈ e.kids, k.name = name → k.kids = []) :
    Calls Tryz.prog 16 #[.agg #[a0, a1, a2], .string (sb name)] w fun e' w' => ∃ V c', e' = .returned (.slice V (namedN name e.kids) c') ∧ Below w.heap.size w w' := by
  obtain ⟨i0, hi, hz0, hz1, hz2⟩ := info_parts infoEl24
  obtain ⟨n, t, ks⟩ := e
  rw [El.size] at hs
  obtain ⟨A, c, hcs, hc, hks⟩ := hE.form
  injection hcs with h0 hcs
  injection hcs with h1 hcs
  injection hcs with h2 _
  subst h0; subst h1; subst h2
  have hkl := Els.size_len ks
  dsimp only [El.name, El.text, El.kids] at *
  obtain ⟨N, hN⟩ : ∃ N, sb n = N := ⟨_, rfl⟩
  obtain ⟨T, hT⟩ : ∃ T, sb t = T := ⟨_, rfl⟩
  obtain ⟨nk, hnk⟩ : ∃ nk, ks.length = nk := ⟨_, rfl⟩
  obtain ⟨M, hM⟩ : ∃ M, sb name = M := ⟨_, rfl⟩
  obtain ⟨X, hX⟩ : ∃ X, namedN name ks = X := ⟨_, rfl⟩
  rw [hN, hT, hnk, hM, hX]
  rw [hnk] at hc hkl
  have hnk2 : nk ≤ 16777216 := by omega
  have HKs := Lib.hid hks; have Hnk := Lib.hid hnk; have HM := Lib.hid hM; have HX := Lib.hid hX; have Hleaf := Lib.hid hleaf
  have Hi := Lib.hid hi
  clear hks hnk hM hX hN hT hE hleaf
  have HE0 := Lib.hid (Blk.new w [.string N, .string T, .slice A nk c] 24)
  have HB0 := Lib.hid ((Below.refl w.heap.size w).alloc (Nat.le_refl _) (.cells #[.string N, .string T, .slice A nk c] 24))
  go_enter Tryz.func16, Tryz.ntmps16
  go_wp2_with fail
  go_loopg [11, 5] nk (fun gk i out wr => ∃ (j q : Nat) (v : Value) (xs : List Value), i = .int .i64 j ∧ out = v ∧ j + gk = nk ∧ q ≤ j ∧ Hid (q = namedN name (ks.take j)) ∧ Hid (wr.ownsRow w.heap.size 24 3 v q xs) ∧ Hid (Below w.heap.size w wr))
  case atStart => exact ⟨0, 0, _, [], rfl, rfl, by omega, Nat.le_refl _, rfl, ⟨rfl, .inl ⟨rfl, rfl⟩⟩, HB0.out⟩
  case round =>
    clear HE0 HB0
    obtain ⟨j, q, v, xs, rfl, hv, hj, hqj, HQ, HOwn, HBr⟩ := hrel
    have hv2 := hv.symm
    subst hv2
    by_cases hjk : j < nk
    · have hnkk := Hnk.out
      obtain ⟨k, hk⟩ : ∃ k, ks[j]? = some k := ⟨ks[j]'(by omega), List.getElem?_eq_getElem (by omega)⟩
      have hbw : Below B w wr := HBr.out.mono hB
      obtain ⟨b', off', d0, d1, d2, hA, hbB, g0, g1, g2, gkR⟩ := (HKs.out.below hbw).at hk
      subst hA
      obtain ⟨A', cap', hcs', _, _⟩ := gkR.form
      injection hcs' with e0 e1
      injection e1 with e1 e2
      injection e2 with e2 _
      subst e0; subst e1; subst e2
      have hnm := namedN_take (name := name) hk
      obtain ⟨kN, hkN⟩ : ∃ kN, sb k.name = kN := ⟨_, rfl⟩
      obtain ⟨kT, hkT⟩ : ∃ kT, sb k.text = kT := ⟨_, rfl⟩
      have hBr := HBr.out.size
      have hjI : (j : Int) < (nk : Int) := by omega
      by_cases hkn : kN = M
      · have hnm2 : k.name = name := by
          have := congrArg bs (hkN.trans (hkn.trans HM.out.symm))
          rw [bs_sb, bs_sb] at this
          exact this
        have hk0 : k.kids = [] := Hleaf.out k (List.mem_of_getElem? hk) hnm2
        rw [hk0] at g2 gkR
        rw [hkN] at g0; rw [hkT] at g1
        rw [if_pos hnm2] at hnm
        subst hkn
        have g2 : wr.cell? ⟨b', off' + j * 3 + 2, none⟩ = some (.slice A' 0 cap') := g2
        have HB2 := Lib.hid (HBr.out.alloc hBr (.cells #[.string kN, .string kT, .slice A' 0 cap'] 24))
        have hown2 := HOwn.out.alloc (.cells #[.string kN, .string kT, .slice A' 0 cap'] 24)
        have Hown2 := Lib.hid hown2
        have htw := twin0_any kN kT A' cap' (wr.alloc (.cells #[.string kN, .string kT, .slice A' 0 cap'] 24))
        have HTw := Lib.hid htw
        have HNm := Lib.hid hnm
        clear hkN hkT gkR hk hnkk hbw hnm hnm2 HM hown2 htw hk0
        go_wp2_with fail
        refine HTw.out.mono ?_
        rintro en w5 ⟨A5, c5, rfl, hb5⟩
        have HB5 := Lib.hid (HB2.out.trans (hb5.mono HB2.out.size))
        have hown5 := (Keeps.fresh (D := fun _ => False) hb5).own Hown2.out (fun _ _ h => h)
        have Hown5 := Lib.hid hown5
        have hz5 : w.heap.size ≤ w5.heap.size := HB5.out.size
        clear hb5 HTw hown5 Hown2
        have hi := Hi.out
        go_wp2_with (at_builtin; refine wpList_append_lies _ rfl _ _ 22 rfl w.heap.size 24 i0 _ 3 56 Tryz.underlying22 hi hz0 hz1 hz2 rfl (by decide) _ _ _ rfl (Hown5.out.alloc _) ⟨w5.heap.size, 0, none⟩ 1 1 [.string kN, .string kT, .slice A5 0 c5] rfl rfl (World.news_of_block (heap_alloc_new w5 _)) (by simp [Value.oneCell']) (by decide) (by unfold maxLen; omega) (by omega) (by simp; omega) _ rfl ?_)
        intro gg cap wA hown hgrow hat hlt
        have HOwnA := Lib.hid hown
        have HBA := Lib.hid ((HB5.out.alloc hz5 _).grown hgrow (by simp; omega) (fun k hk => (own_lt Hown5.out hk).2))
        clear hown hgrow hat hlt hi
        go_wp2_with fail
        go_roundg (nk - (j + 1))
        case measure => omega
        case rel => exact ⟨j + 1, q + 1, _, _, by go_num, rfl, by omega, by omega, Lib.hid (by rw [HNm.out, ← HQ.out]), HOwnA.out, HBA.out⟩
      · have hnm2 : ¬ k.name = name := by
          intro h
          apply hkn
          rw [← hkN, ← HM.out, h]
        rw [if_neg hnm2] at hnm
        obtain ⟨kL, hkL⟩ : ∃ kL, k.kids.length = kL := ⟨_, rfl⟩
        rw [hkN] at g0; rw [hkT] at g1; rw [hkL] at g2
        have HB2 := Lib.hid (HBr.out.alloc hBr (.cells #[.string kN, .string kT, .slice A' kL cap'] 24))
        have hown2 := HOwn.out.alloc (.cells #[.string kN, .string kT, .slice A' kL cap'] 24)
        have Hown2 := Lib.hid hown2
        have hq := beq_bytes hkn
        have HNm := Lib.hid hnm
        clear hkN hkT hkL gkR hk hnkk hbw hnm hnm2 hkn hown2
        go_wp2_with fail
        go_roundg (nk - (j + 1))
        case measure => omega
        case rel => exact ⟨j + 1, q, _, _, by go_num, rfl, by omega, by omega, by rw [HNm.out, ← HQ.out]; rfl, Hown2.out, HB2.out⟩
    · have hjI : ¬ ((j : Int) < (nk : Int)) := by omega
      have hd : ks.take j = ks := List.take_of_length_le (by have := Hnk.out; omega)
      have hq := HQ.out
      rw [hd, HX.out] at hq
      subst hq
      obtain ⟨V, vc, rfl, _⟩ := own_slice HOwn.out
      clear hd
      go_wp2_with fail
      go_ret
      exact ⟨⟨_, _, rfl⟩, HBr.out⟩
end Go.Proofs.YtkjopcbleefioaaGreatDoor
