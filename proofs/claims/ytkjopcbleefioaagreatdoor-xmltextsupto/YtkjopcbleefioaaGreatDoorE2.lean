/- element: the walk. -/
import Derived.Test.YtkjopcbleefioaaGreatDoorE1
namespace Go.Proofs.YtkjopcbleefioaaGreatDoor
open Go Go.RowKit
set_option linter.unusedSimpArgs false
set_option linter.unusedVariables false

theorem beginS_true {s : List UInt8} {n k k' : Nat} {o : Option (Int × Int)} {on : Option (List UInt8)} (h : beginS s n ⟨k, none⟩ = (⟨k', o⟩, on, true)) : o = none := by
  unfold beginS at h
  dsimp only at h
  split at h
  · injection h with _ h; injection h with _ h; cases h
  split at h
  · injection h with _ h; injection h with _ h; cases h
  split at h
  · injection h with _ h; injection h with _ h; cases h
  split at h
  · injection h with _ h; injection h with _ h; cases h
  rename_i hc
  split at h
  · injection h with _ h; injection h with _ h; cases h
  · injection h with h _
    cases o with
    | none => rfl
    | some x => rw [show (attrS s (s.length + 1) (nameS [] s (wantS s [60] ⟨k, none⟩)).1).bad = some x from congrArg St.bad h] at hc; exact absurd rfl hc

theorem World.alloc_size' (w : World) (o : Obj) : (w.alloc o).heap.size = w.heap.size + 1 := by simp

/-- The end: the root is handed on. -/
theorem root_done {w w1 w2 w3 : World} {r k : Nat} {s : ByteArray} {pv : Value} {g : OG} (hw : w1.heap.size ≤ w2.heap.size) (hr : r < w.heap.size) (hb1 : w.heap.size + 1 = w1.heap.size)
    (hP : RdP w2 (w.heap.size + 1) r s ⟨k, none⟩ pv [g]) (k3 : Keeps (fun b => b = g.blk ∨ g.u.ownBlock = some b) w2 w3) :
    ∀ x0 x1 x2, Rd (((w3.setCell ⟨w.heap.size, 0, none⟩ x0).setCell ⟨w.heap.size, 1, none⟩ x1).setCell ⟨w.heap.size, 2, none⟩ x2) r s ⟨k, none⟩ pv ∧
      ElR (((w3.setCell ⟨w.heap.size, 0, none⟩ x0).setCell ⟨w.heap.size, 1, none⟩ x1).setCell ⟨w.heap.size, 2, none⟩ x2) (Own (((w3.setCell ⟨w.heap.size, 0, none⟩ x0).setCell ⟨w.heap.size, 1, none⟩ x1).setCell ⟨w.heap.size, 2, none⟩ x2) w.heap.size)
        (.mk g.name (elT g.text g.kids) g.kids) [.string (sb g.name), .string (sb (elT g.text g.kids)), g.kv] := by
  intro x0 x1 x2
  have o := hP.open_ g (by simp)
  have kS : Keeps (· = w.heap.size) w3 (((w3.setCell ⟨w.heap.size, 0, none⟩ x0).setCell ⟨w.heap.size, 1, none⟩ x1).setCell ⟨w.heap.size, 2, none⟩ x2) := (((Keeps.refl _ _).set1 _ _).set1 _ _).set1 _ _
  have e := o.elR k3
  constructor
  · obtain ⟨bad, hB0, hbad, hat⟩ := hP.rd
    have hbad' : bad = .pointer none := hbad
    have hB1 : Blk w3 r _ 60 := k3.blk hB0 (by
      rintro (e | e)
      · exact o.1.ne hB0 (by decide) e.symm
      · exact own_ne o.2.2.2.1 hB0 (by decide) e)
    exact ⟨bad, kS.blk hB1 (by omega), hbad', hat⟩
  · exact e.mono (Own.keepLt kS (by omega) (fun b hb e => by omega)) 

set_option maxHeartbeats 8000000 in
set_option maxRecDepth 100000 in
theorem element_any (r : Nat) (s : ByteArray) (k : Nat) (w : World) (hR : Rd w r s ⟨k, none⟩ (.slice none 0 0)) (hr3 : 3 < r) (hs : s.size ≤ 100000) (hg : Glob w) :
    Calls Tryz.prog 29 #[.pointer (some ⟨r, 0, none⟩)] w fun e w' => ElemPost w w' r s (elementS (bs s) k) e := by
  obtain ⟨c0, c1, c3, f1, f3, hl⟩ := hR.cells
  have hP0 : RdP (w.alloc (.cells #[.string ⟨#[]⟩, .string ⟨#[]⟩, .slice none 0 0] 24)) (w.heap.size + 1) r s ⟨k, none⟩ (.slice none 0 0) [] := by
    refine ⟨hR.keep (D := fun _ => False) ((Keeps.refl _ _).alloc _) (fun h => h) (fun _ _ _ h => h), hr3, by simp, ?_, by simp, ⟨by simp, by simp, by simp⟩⟩
    exact ⟨rfl, .inl ⟨rfl, rfl⟩⟩
  have hN0 : Blk (w.alloc (.cells #[.string ⟨#[]⟩, .string ⟨#[]⟩, .slice none 0 0] 24)) w.heap.size [.string ⟨#[]⟩, .string ⟨#[]⟩, .slice none 0 0] 24 := Blk.new w [.string ⟨#[]⟩, .string ⟨#[]⟩, .slice none 0 0] 24
  have hG0 : Glob (w.alloc (.cells #[.string ⟨#[]⟩, .string ⟨#[]⟩, .slice none 0 0] 24)) := hg.keep (D := fun _ => False) ((Keeps.refl _ _).alloc _) (fun _ _ h => h)
  have hK0 : Keeps (· = r) w (w.alloc (.cells #[.string ⟨#[]⟩, .string ⟨#[]⟩, .slice none 0 0] 24)) := (Keeps.refl _ _).alloc _
  have hz0 : (w.alloc (.cells #[.string ⟨#[]⟩, .string ⟨#[]⟩, .slice none 0 0] 24)).heap.size = w.heap.size + 1 := by simp
  have hbeg := begin_any (w.heap.size + 1) r s k _ [] _ hP0 hs (by simp)
  have HN0 := Lib.hid hN0; have HG0 := Lib.hid hG0; have HK0 := Lib.hid hK0; have Hz0 := Lib.hid hz0
  have HR := Lib.hid hR; have Hrl := Lib.hid (show r < w.heap.size from hl)
  clear hP0 hN0 hG0 hK0 hz0 hR hg c0 c1 c3 f1 f3 hl
  obtain ⟨⟨st, on, b⟩, hY⟩ : ∃ y, beginS (bs s) 0 ⟨k, none⟩ = y := ⟨_, rfl⟩
  simp only [List.length_nil] at hbeg
  rw [hY] at hbeg
  dsimp only at hbeg
  have HY := Lib.hid hY; have HBeg := Lib.hid hbeg
  clear hY hbeg
  obtain ⟨X, hX⟩ : ∃ X, elementS (bs s) k = X := ⟨_, rfl⟩
  rw [hX]
  have HX := Lib.hid hX
  clear hX
  go_enter Tryz.func29, Tryz.ntmps29
  go_wp2_with fail
  go_step3
  go_wp2_with fail
  refine HBeg.out.mono ?_
  rintro e w1 ⟨rfl, pv1, G1, hP1, hm1, hk1⟩
  have hN1 : Blk w1 w.heap.size _ 24 := hk1.blk HN0.out (by have := Hrl.out; omega)
  have hG1 : Glob w1 := HG0.out.keep hk1 (fun i hi h => by have := cell_lt (HG0.out.syn.choose_spec.1); have h4 := HR.out.at_le; rcases h with h | h; omega; have h5 := Hrl.out; omega)
  have hK1 : Keeps (· = r) w w1 := HK0.out.trans' hk1 (fun i hi h => by rcases h with h | h; exact h; omega)
  have hz1 : w.heap.size + 1 ≤ w1.heap.size := by rw [← Hz0.out]; exact hk1.size
  dsimp only at hP1 hm1
  have HP1 := Lib.hid hP1; have Hm1 := Lib.hid hm1; have HK1 := Lib.hid hK1; have HG1 := Lib.hid hG1; have HN1 := Lib.hid hN1; have Hz1 := Lib.hid hz1
  clear hP1 hm1 hk1 hN1 hG1 hK1 hz1 HBeg HK0 HG0 HN0 Hz0 HR
  obtain ⟨c0, c1, c3, f1, f3, hl⟩ := HP1.out.rd.cells
  obtain ⟨A1, cp1, rfl, _⟩ := own_slice HP1.out.pile
  obtain ⟨yk, yo⟩ := st
  cases b with
  | false =>
    cases yo with
    | some x =>
      obtain ⟨bb, c2⟩ := HP1.out.rd.some
      have hl2 := HN1.out.lt
      have r0 : w1.cell? ⟨w.heap.size, 0, none⟩ = some (.string ⟨#[]⟩) := HN1.out.cell 0
      have r1 : w1.cell? ⟨w.heap.size, 1, none⟩ = some (.string ⟨#[]⟩) := HN1.out.cell 1
      have r2 : w1.cell? ⟨w.heap.size, 2, none⟩ = some (.slice none 0 0) := HN1.out.cell 2
      have fr0 := HN1.out.free 0
      have fr1 := HN1.out.free 1
      have fr2 := HN1.out.free 2
      go_wp2_with fail
      rw [Exit.noGoto_ret]
      have hf := (((HN1.out.set 0 (.string ⟨#[]⟩)).set 1 (.string ⟨#[]⟩)).set 2 (.slice none 0 0))
      have e0 := hf.cell 0
      have e1 := hf.cell 1
      have e2 := hf.cell 2
      refine bodyPost_ret (v := .agg #[.string ⟨#[]⟩, .string ⟨#[]⟩, .slice none 0 0]) ?_ rfl ?_
      · simp [results, Tryz.results29, go_sem, e0, e1, e2]
      · rw [← HX.out, show elementS (bs s) k = (⟨yk, some x⟩, none) by unfold elementS; rw [HY.out]]
        refine ⟨_, _, _, _, rfl, HP1.out.rd.keep (D := (· = w.heap.size)) ((((Keeps.refl _ _).set1 _ _).set1 _ _).set1 _ _) (by have := Hrl.out; omega) (fun b cs hb e => hb.ne HN1.out (by decide) e), rfl, ?_⟩
        exact (((HK1.out.set (p := ⟨w.heap.size, 0, none⟩) (fun h => absurd h (Nat.lt_irrefl _)) _).set (p := ⟨w.heap.size, 1, none⟩) (fun h => absurd h (Nat.lt_irrefl _)) _).set (p := ⟨w.heap.size, 2, none⟩) (fun h => absurd h (Nat.lt_irrefl _)) _)
    | none =>
      have c2 := HP1.out.rd.none
      obtain ⟨nm, rfl, n1, n2, n3, n4, n5, _⟩ := beginS_none HY.out rfl
      have hm1 := Hm1.out
      have hG1l : G1.length = 1 := by have := congrArg List.length hm1; simpa [pushed] using this
      obtain ⟨g0, rfl⟩ := List.length_eq_one_iff.1 hG1l
      clear hG1l
      have hos : g0.os = ⟨nm, [], [], false⟩ := by injection hm1
      have HOs := Lib.hid hos
      clear hm1 hos Hm1
      obtain ⟨gb, gn, gt, gk, gs, ga, gu, gv⟩ := g0
      have ho := HP1.out.open_ ⟨gb, gn, gt, gk, gs, ga, gu, gv⟩ (by simp)
      obtain ⟨gcs, hgk, _⟩ := ho.2.2.2.2.2
      obtain ⟨gA, gc, egv, _⟩ := own_slice hgk
      dsimp only at egv
      subst egv
      have hpc : w1.ownsRow (w.heap.size + 1) 93 1 _ 1 [.pointer (some ⟨gb, 0, none⟩)] := HP1.out.pile
      obtain ⟨pb, cp, epv, _, _⟩ := hpc.form (by decide)
      rw [epv] at hpc HP1 c3
      have hp0 := hpc.cellAt 0 (by simp)
      dsimp only [List.getElem?_cons_zero] at hp0
      have helem := elem_any ⟨gb, gn, gt, gk, gs, ga, gu, .slice gA gk.length gc⟩ (w.heap.size + 1) _ w1 ho (by have hos := HOs.out; injection hos with hos1 hos2 hos3 _; dsimp only at hos3 ⊢; rw [hos3]; simp)
      dsimp only at helem
      have HElem := Lib.hid helem
      clear helem hpc ho epv hgk
      go_wp2_with fail
      refine HElem.out.mono ?_
      rintro e w9 ⟨rfl, hk9⟩
      have hN9 : Blk w9 w.heap.size _ 24 := hk9.blk HN1.out (by
        have ho := HP1.out.open_ ⟨gb, gn, gt, gk, gs, ga, gu, .slice gA gk.length gc⟩ (by simp)
        rintro (e | e)
        · exact ho.1.ne HN1.out (by decide) e.symm
        · exact own_ne ho.2.2.2.1 HN1.out (by decide) e)
      have HN9 := Lib.hid hN9; have HK9 := Lib.hid hk9
      clear hN9 hk9 HElem c0 c1 c2 c3 f1 f3 hl hp0
      have hl2 := HN9.out.lt
      have r0 : w9.cell? ⟨w.heap.size, 0, none⟩ = some (.string ⟨#[]⟩) := HN9.out.cell 0
      have r1 : w9.cell? ⟨w.heap.size, 1, none⟩ = some (.string ⟨#[]⟩) := HN9.out.cell 1
      have r2 : w9.cell? ⟨w.heap.size, 2, none⟩ = some (.slice none 0 0) := HN9.out.cell 2
      have fr0 := HN9.out.free 0
      have fr1 := HN9.out.free 1
      have fr2 := HN9.out.free 2
      go_wp2_with fail
      rw [Exit.noGoto_ret]
      have hf := (((HN9.out.set 0 (.string (sb gn))).set 1 (.string (sb (elT gt gk)))).set 2 (.slice gA gk.length gc))
      have e0 := hf.cell 0
      have e1 := hf.cell 1
      have e2 := hf.cell 2
      refine bodyPost_ret (v := .agg #[.string (sb gn), .string (sb (elT gt gk)), .slice gA gk.length gc]) ?_ rfl ?_
      · simp [results, Tryz.results29, go_sem, e0, e1, e2]
      · have hd := root_done (w1 := w.alloc (.cells #[.string ⟨#[]⟩, .string ⟨#[]⟩, .slice none 0 0] 24)) (w2 := w1) (w3 := w9) (by rw [World.alloc_size']; exact Hz1.out) Hrl.out (by rw [World.alloc_size']) HP1.out HK9.out (.string (sb gn)) (.string (sb (elT gt gk))) (.slice gA gk.length gc)
        dsimp only at hd
        have hos := HOs.out; injection hos with hos1 hos2 hos3 _
        dsimp only at hos1 hos2 hos3
        rw [← HX.out, show elementS (bs s) k = (⟨yk, none⟩, some (.mk nm [] [])) by unfold elementS; rw [HY.out]]
        rw [hos1, hos2, hos3] at hd
        rw [hos1, hos2, hos3]
        refine ⟨_, _, _, _, rfl, hd.1, hd.2, ?_⟩
        have kk : Keeps (· = r) w w9 := HK1.out.trans' HK9.out (fun i hi h => by
          have ho := HP1.out.open_ ⟨gb, gn, gt, gk, gs, ga, gu, .slice gA gk.length gc⟩ (by simp)
          rcases h with h | h
          · have := ho.2.1; dsimp only at h this; omega
          · have := (own_lt ho.2.2.2.1 h).2; omega)
        exact (((kk.set (p := ⟨w.heap.size, 0, none⟩) (fun h => absurd h (Nat.lt_irrefl _)) _).set (p := ⟨w.heap.size, 1, none⟩) (fun h => absurd h (Nat.lt_irrefl _)) _).set (p := ⟨w.heap.size, 2, none⟩) (fun h => absurd h (Nat.lt_irrefl _)) _)
  | true =>
    obtain rfl : yo = none := beginS_true HY.out
    obtain ⟨nm, rfl, n1, n2, n3, n4, n5, _⟩ := beginS_none HY.out rfl
    dsimp only at n3 n4
    have hm1 := Hm1.out
    have hG1l : G1.length = 1 := by have := congrArg List.length hm1; simpa [pushed] using this
    obtain ⟨g0, rfl⟩ := List.length_eq_one_iff.1 hG1l
    have hos : g0.os = ⟨nm, [], [], false⟩ := by injection hm1
    have hlp : loopS (bs s) (s.size + 1) yk g0.os [] = X := by
      rw [← HX.out, hos]; unfold elementS; rw [HY.out]; dsimp only; rw [bs_length]
    have hinv : Inv yk ([g0].map OG.os) := by rw [List.map_cons, hos]; exact Inv.first n2
    have HLp := Lib.hid hlp; have HInv := Lib.hid hinv
    have hyk : yk ≤ s.size := by rw [bs_length] at n4; exact n4
    clear hlp hinv hos hm1 hG1l Hm1 c0 c1 c3 f1 f3 hl
    go_wp2_with fail
    go_step3
    go_wp2_with fail
    go_loopg [] (s.size - yk) (fun gk wr => ∃ (k' f : Nat) (pv' : Value) (g : OG) (G : List OG), k' + gk = s.size ∧ s.size < k' + f ∧ Hid (RdP wr (w.heap.size + 1) r s ⟨k', none⟩ pv' (g :: G)) ∧ Hid (Keeps (· = r) w wr) ∧ Hid (Glob wr) ∧
      Hid (Blk wr w.heap.size [.string ⟨#[]⟩, .string ⟨#[]⟩, .slice none 0 0] 24) ∧ Hid (w.heap.size + 1 ≤ wr.heap.size) ∧ Hid (Inv k' ((g :: G).map OG.os)) ∧ Hid (loopS (bs s) f k' g.os (G.map OG.os) = X))
    case atStart => exact ⟨yk, s.size + 1, _, g0, [], by omega, by omega, HP1.out, HK1.out, HG1.out, HN1.out, Hz1.out, HInv.out, HLp.out⟩
    case round =>
      clear HP1 HK1 HG1 HN1 Hz1 HInv HLp HY n1 n2 n3 n4 n5 hyk
      obtain ⟨k', f, pv', g, G, hgk, hfk, HP, HK, HG, HN, Hz, HInv, HLp⟩ := hrel
      have hki := HInv.out
      obtain ⟨f, rfl⟩ : ∃ f', f = f' + 1 := ⟨f - 1, by omega⟩
      have hgl : G.length ≤ 19 := by have := hki.1; simp at this; omega
      have hkb : ∀ g' ∈ g :: G, g'.kids.length ≤ 500000 := fun g' hg' => by have := (hki.2 g'.os (List.mem_map_of_mem hg')).1; have e : g'.os.kids = g'.kids := rfl; rw [e] at this; omega
      have htb : g.text.length ≤ 400000 := by have := (hki.2 g.os (by simp)).2.1; have e : g.os.text = g.text := rfl; rw [e] at this; omega
      have hnb : g.name.length ≤ 100000 := by have := (hki.2 g.os (by simp)).2.2; have e : g.os.name = g.name := rfl; rw [e] at this; omega
      clear hki
      obtain ⟨A1, cp1, rfl, _⟩ := own_slice HP.out.pile
      obtain ⟨c0, c1, c3, f1, f3, hl⟩ := HP.out.rd.cells
      have hwith : ∀ w2 : World, Hid (RdP w2 (w.heap.size + 1) r s ⟨k', none⟩ (.slice A1 (g :: G).length cp1) (g :: G)) → Hid (Glob w2) → _ := fun w2 h1 h2 => within_any (w.heap.size + 1) r s k' _ g G w2 h1.out hs h2.out (by have := Hrl.out; omega) hgl hkb htb hnb
      obtain ⟨⟨⟨zk, zo⟩, Lz⟩, hZ⟩ : ∃ z, withinS (bs s) k' g.os (G.map OG.os) = z := ⟨_, rfl⟩
      rw [hZ] at hwith
      have HZ := Lib.hid hZ; have HWith := Lib.hid hwith
      clear hZ hwith hgl hkb htb hnb
      by_cases hG0 : G = []
      · subst hG0
        cases h47 : pre [60, 47] ((bs s).drop k') with
        | true =>
          have H47 := Lib.hid h47
          clear h47
          go_wp2_with fail
          refine (ahead_is (p := ⟨#[60, 47]⟩) HP.out.rd hs H47.out).mono ?_
          rintro e w2 ⟨rfl, hR2, hk2⟩
          have HP2 := Lib.hid (HP.out.reader hR2 hk2)
          have HK2 := Lib.hid (HK.out.trans hk2)
          have HG2 := Lib.hid (HG.out.keep hk2 (fun i hi h => by omega))
          have HN2 := Lib.hid (hk2.blk HN.out (by have := Hrl.out; omega))
          have Hz2 := Lib.hid (Nat.le_trans Hz.out hk2.size)
          clear hR2 hk2 c0 c1 c3 f1 f3 hl
          obtain ⟨c0, c1, c3, f1, f3, hl⟩ := HP2.out.rd.cells
          go_wp2_with fail
          refine (HWith.out w2 HP2 HG2).mono ?_
          rintro e w4 ⟨rfl, pv4, G4, hP4, hm4, hk4⟩
          have HN4 := Lib.hid (hk4.blk HN2.out (by have := Hrl.out; omega))
          have HG4 := Lib.hid (HG2.out.keep hk4 (fun i hi h => by have := Hrl.out; omega))
          have HK4 := Lib.hid (HK2.out.trans' hk4 (fun i hi h => by omega))
          have Hz4 := Lib.hid (Nat.le_trans Hz2.out hk4.size)
          dsimp only at hP4 hm4
          have HP4 := Lib.hid hP4; have HM4 := Lib.hid hm4
          clear hP4 hm4 hk4 c0 c1 c3 f1 f3 hl HWith
          obtain ⟨c0, c1, c3, f1, f3, hl⟩ := HP4.out.rd.cells
          obtain ⟨A4, cp4, rfl, _⟩ := own_slice HP4.out.pile
          cases zo with
          | some x =>
            obtain ⟨bb, c2⟩ := HP4.out.rd.some
            have hl2 := HN4.out.lt
            have r0 : w4.cell? ⟨w.heap.size, 0, none⟩ = some (.string ⟨#[]⟩) := HN4.out.cell 0
            have r1 : w4.cell? ⟨w.heap.size, 1, none⟩ = some (.string ⟨#[]⟩) := HN4.out.cell 1
            have r2 : w4.cell? ⟨w.heap.size, 2, none⟩ = some (.slice none 0 0) := HN4.out.cell 2
            have fr0 := HN4.out.free 0
            have fr1 := HN4.out.free 1
            have fr2 := HN4.out.free 2
            go_wp2_with fail
            rw [Exit.noGoto_ret]
            have hf := (((HN4.out.set 0 (.string ⟨#[]⟩)).set 1 (.string ⟨#[]⟩)).set 2 (.slice none 0 0))
            have e0 := hf.cell 0
            have e1 := hf.cell 1
            have e2 := hf.cell 2
            refine bodyPost_ret (v := .agg #[.string ⟨#[]⟩, .string ⟨#[]⟩, .slice none 0 0]) ?_ rfl ?_
            · simp [results, Tryz.results29, go_sem, e0, e1, e2]
            · rw [show X = (⟨zk, some x⟩, none) by rw [← HLp.out]; exact loopS_bad HZ.out]
              refine ⟨_, _, _, _, rfl, HP4.out.rd.keep (D := (· = w.heap.size)) ((((Keeps.refl _ _).set1 _ _).set1 _ _).set1 _ _) (by have := Hrl.out; omega) (fun b cs hb e => hb.ne HN4.out (by decide) e), rfl, ?_⟩
              exact (((HK4.out.set (p := ⟨w.heap.size, 0, none⟩) (fun h => absurd h (Nat.lt_irrefl _)) _).set (p := ⟨w.heap.size, 1, none⟩) (fun h => absurd h (Nat.lt_irrefl _)) _).set (p := ⟨w.heap.size, 2, none⟩) (fun h => absurd h (Nat.lt_irrefl _)) _)
          | none =>
            have c2 := HP4.out.rd.none
            obtain ⟨i1, i2, i3, i4, i5⟩ := withinS_inv HZ.out (by rw [bs_length]; omega) HInv.out
            rw [bs_length] at i2
            have hL := i5 rfl H47.out
            have hm4 := HM4.out
            rw [hL] at hm4
            have hG4l : G4.length = 1 := by have := congrArg List.length hm4; simpa using this
            obtain ⟨g0, rfl⟩ := List.length_eq_one_iff.1 hG4l
            have hos : g0.os = g.os := by injection hm4
            have HOs := Lib.hid hos
            have HX2 := Lib.hid (show X = (⟨zk, none⟩, some g.os.el) by rw [← HLp.out]; rw [hL] at HZ; exact loopS_last HZ.out H47.out)
            have HKI := Lib.hid (i3.2 g0.os (by rw [hL, hos]; simp)).1
            clear i1 i3 i4 i5 hL hm4 hG4l hos HM4
            obtain ⟨gb, gn, gt, gk, gs, ga, gu, gv⟩ := g0
            have ho := HP4.out.open_ ⟨gb, gn, gt, gk, gs, ga, gu, gv⟩ (by simp)
            obtain ⟨gcs, hgk, _⟩ := ho.2.2.2.2.2
            obtain ⟨gA, gc, egv, _⟩ := own_slice hgk
            dsimp only at egv
            subst egv
            have hpc : w4.ownsRow (w.heap.size + 1) 93 1 _ 1 [.pointer (some ⟨gb, 0, none⟩)] := HP4.out.pile
            obtain ⟨pb, cp, epv, _, _⟩ := hpc.form (by decide)
            rw [epv] at hpc HP4 c3
            have hp0 := hpc.cellAt 0 (by simp)
            dsimp only [List.getElem?_cons_zero] at hp0
            have helem := elem_any ⟨gb, gn, gt, gk, gs, ga, gu, .slice gA gk.length gc⟩ (w.heap.size + 1) _ w4 ho (by have := HKI.out; dsimp only [OG.os] at this ⊢; omega)
            dsimp only at helem
            have HElem := Lib.hid helem
            clear helem hpc ho epv hgk
            go_wp2_with fail
            refine HElem.out.mono ?_
            rintro e w9 ⟨rfl, hk9⟩
            have hN9 : Blk w9 w.heap.size _ 24 := hk9.blk HN4.out (by
              have ho := HP4.out.open_ ⟨gb, gn, gt, gk, gs, ga, gu, .slice gA gk.length gc⟩ (by simp)
              rintro (e | e)
              · exact ho.1.ne HN4.out (by decide) e.symm
              · exact own_ne ho.2.2.2.1 HN4.out (by decide) e)
            have HN9 := Lib.hid hN9; have HK9 := Lib.hid hk9
            clear hN9 hk9 HElem c0 c1 c2 c3 f1 f3 hl hp0
            have hl2 := HN9.out.lt
            have r0 : w9.cell? ⟨w.heap.size, 0, none⟩ = some (.string ⟨#[]⟩) := HN9.out.cell 0
            have r1 : w9.cell? ⟨w.heap.size, 1, none⟩ = some (.string ⟨#[]⟩) := HN9.out.cell 1
            have r2 : w9.cell? ⟨w.heap.size, 2, none⟩ = some (.slice none 0 0) := HN9.out.cell 2
            have fr0 := HN9.out.free 0
            have fr1 := HN9.out.free 1
            have fr2 := HN9.out.free 2
            go_wp2_with fail
            rw [Exit.noGoto_ret]
            have hf := (((HN9.out.set 0 (.string (sb gn))).set 1 (.string (sb (elT gt gk)))).set 2 (.slice gA gk.length gc))
            have e0 := hf.cell 0
            have e1 := hf.cell 1
            have e2 := hf.cell 2
            refine bodyPost_ret (v := .agg #[.string (sb gn), .string (sb (elT gt gk)), .slice gA gk.length gc]) ?_ rfl ?_
            · simp [results, Tryz.results29, go_sem, e0, e1, e2]
            · have hd := root_done (w1 := w.alloc (.cells #[.string ⟨#[]⟩, .string ⟨#[]⟩, .slice none 0 0] 24)) (w2 := w4) (w3 := w9) (by rw [World.alloc_size']; exact Hz4.out) Hrl.out (by rw [World.alloc_size']) HP4.out HK9.out (.string (sb gn)) (.string (sb (elT gt gk))) (.slice gA gk.length gc)
              dsimp only at hd
              have hos := HOs.out
              rw [show X = (⟨zk, none⟩, some (.mk gn (elT gt gk) gk)) by rw [HX2.out, ← hos]; rfl]
              refine ⟨_, _, _, _, rfl, hd.1, hd.2, ?_⟩
              have kk : Keeps (· = r) w w9 := HK4.out.trans' HK9.out (fun i hi h => by
                have ho := HP4.out.open_ ⟨gb, gn, gt, gk, gs, ga, gu, .slice gA gk.length gc⟩ (by simp)
                rcases h with h | h
                · have := ho.2.1; dsimp only at h this; omega
                · have := (own_lt ho.2.2.2.1 h).2; omega)
              exact (((kk.set (p := ⟨w.heap.size, 0, none⟩) (fun h => absurd h (Nat.lt_irrefl _)) _).set (p := ⟨w.heap.size, 1, none⟩) (fun h => absurd h (Nat.lt_irrefl _)) _).set (p := ⟨w.heap.size, 2, none⟩) (fun h => absurd h (Nat.lt_irrefl _)) _)
        | false =>
          have H47 := Lib.hid h47
          clear h47
          go_wp2_with fail
          refine (ahead_is (p := ⟨#[60, 47]⟩) HP.out.rd hs H47.out).mono ?_
          rintro e w2 ⟨rfl, hR2, hk2⟩
          have HP2 := Lib.hid (HP.out.reader hR2 hk2)
          have HK2 := Lib.hid (HK.out.trans hk2)
          have HG2 := Lib.hid (HG.out.keep hk2 (fun i hi h => by omega))
          have HN2 := Lib.hid (hk2.blk HN.out (by have := Hrl.out; omega))
          have Hz2 := Lib.hid (Nat.le_trans Hz.out hk2.size)
          clear hR2 hk2 c0 c1 c3 f1 f3 hl
          obtain ⟨c0, c1, c3, f1, f3, hl⟩ := HP2.out.rd.cells
          go_wp2_with fail
          refine (HWith.out w2 HP2 HG2).mono ?_
          rintro e w4 ⟨rfl, pv4, G4, hP4, hm4, hk4⟩
          have HN4 := Lib.hid (hk4.blk HN2.out (by have := Hrl.out; omega))
          have HG4 := Lib.hid (HG2.out.keep hk4 (fun i hi h => by have := Hrl.out; omega))
          have HK4 := Lib.hid (HK2.out.trans' hk4 (fun i hi h => by omega))
          have Hz4 := Lib.hid (Nat.le_trans Hz2.out hk4.size)
          dsimp only at hP4 hm4
          have HP4 := Lib.hid hP4; have HM4 := Lib.hid hm4
          clear hP4 hm4 hk4 c0 c1 c3 f1 f3 hl HWith
          obtain ⟨c0, c1, c3, f1, f3, hl⟩ := HP4.out.rd.cells
          obtain ⟨A4, cp4, rfl, _⟩ := own_slice HP4.out.pile
          cases zo with
          | some x =>
            obtain ⟨bb, c2⟩ := HP4.out.rd.some
            have hl2 := HN4.out.lt
            have r0 : w4.cell? ⟨w.heap.size, 0, none⟩ = some (.string ⟨#[]⟩) := HN4.out.cell 0
            have r1 : w4.cell? ⟨w.heap.size, 1, none⟩ = some (.string ⟨#[]⟩) := HN4.out.cell 1
            have r2 : w4.cell? ⟨w.heap.size, 2, none⟩ = some (.slice none 0 0) := HN4.out.cell 2
            have fr0 := HN4.out.free 0
            have fr1 := HN4.out.free 1
            have fr2 := HN4.out.free 2
            go_wp2_with fail
            rw [Exit.noGoto_ret]
            have hf := (((HN4.out.set 0 (.string ⟨#[]⟩)).set 1 (.string ⟨#[]⟩)).set 2 (.slice none 0 0))
            have e0 := hf.cell 0
            have e1 := hf.cell 1
            have e2 := hf.cell 2
            refine bodyPost_ret (v := .agg #[.string ⟨#[]⟩, .string ⟨#[]⟩, .slice none 0 0]) ?_ rfl ?_
            · simp [results, Tryz.results29, go_sem, e0, e1, e2]
            · rw [show X = (⟨zk, some x⟩, none) by rw [← HLp.out]; exact loopS_bad HZ.out]
              refine ⟨_, _, _, _, rfl, HP4.out.rd.keep (D := (· = w.heap.size)) ((((Keeps.refl _ _).set1 _ _).set1 _ _).set1 _ _) (by have := Hrl.out; omega) (fun b cs hb e => hb.ne HN4.out (by decide) e), rfl, ?_⟩
              exact (((HK4.out.set (p := ⟨w.heap.size, 0, none⟩) (fun h => absurd h (Nat.lt_irrefl _)) _).set (p := ⟨w.heap.size, 1, none⟩) (fun h => absurd h (Nat.lt_irrefl _)) _).set (p := ⟨w.heap.size, 2, none⟩) (fun h => absurd h (Nat.lt_irrefl _)) _)
          | none =>
            have c2 := HP4.out.rd.none
            obtain ⟨i1, i2, i3, i4, i5⟩ := withinS_inv HZ.out (by rw [bs_length]; omega) HInv.out
            rw [bs_length] at i2
            have hm4 := HM4.out
            obtain ⟨p, l', hL⟩ : ∃ p l', Lz = p :: l' := List.exists_cons_of_ne_nil i4
            rw [hL] at hm4 i3
            obtain ⟨g4, G5, rfl⟩ : ∃ g4 G5, G4 = g4 :: G5 := by
              cases G4 with
              | nil => simp at hm4
              | cons a b => exact ⟨a, b, rfl⟩
            have hX2 : loopS (bs s) f zk p l' = X := by rw [← HLp.out]; rw [hL] at HZ; exact (loopS_on HZ.out (by rintro ⟨_, h⟩; rw [H47.out] at h; cases h)).symm
            have HX2 := Lib.hid hX2; have HI4 := Lib.hid i3; have HMm := Lib.hid hm4
            clear hX2 i3 i4 i5 hL hm4 HM4
            go_wp2_with fail
            have hm4 := HMm.out
            rw [List.map_cons] at hm4
            injection hm4 with hm5 hm6
            go_roundg (s.size - zk)
            case measure => omega
            case rel =>
              refine ⟨zk, f, _, g4, G5, by omega, by omega, HP4.out, HK4.out, HG4.out, HN4.out, Hz4.out, ?_, ?_⟩
              · show Inv zk ((g4 :: G5).map OG.os)
                rw [List.map_cons, hm5, hm6]; exact HI4.out
              · show loopS (bs s) f zk g4.os (G5.map OG.os) = X
                rw [hm5, hm6]; exact HX2.out
      · have hlen : ((g :: G).length : Int) ≠ 1 := by
          intro e
          apply hG0
          have : G.length = 0 := by rw [List.length_cons] at e; omega
          exact List.length_eq_zero_iff.1 this
        obtain ⟨M, hM⟩ : ∃ M, (g :: G).length = M := ⟨_, rfl⟩
        have HM := Lib.hid hM
        rw [hM] at hlen c3
        have hlen' : ((M : Int) == 1) = false := by rw [beq_eq_false_iff_ne]; exact hlen
        have HG0 := Lib.hid hG0
        clear hlen hM hG0
        go_wp2_with fail
        refine (HWith.out wr HP HG).mono ?_
        rintro e w4 ⟨rfl, pv4, G4, hP4, hm4, hk4⟩
        have HN4 := Lib.hid (hk4.blk HN.out (by have := Hrl.out; omega))
        have HG4 := Lib.hid (HG.out.keep hk4 (fun i hi h => by have := Hrl.out; omega))
        have HK4 := Lib.hid (HK.out.trans' hk4 (fun i hi h => by omega))
        have Hz4 := Lib.hid (Nat.le_trans Hz.out hk4.size)
        dsimp only at hP4 hm4
        have HP4 := Lib.hid hP4; have HM4 := Lib.hid hm4
        clear hP4 hm4 hk4 c0 c1 c3 f1 f3 hl HWith
        obtain ⟨c0, c1, c3, f1, f3, hl⟩ := HP4.out.rd.cells
        obtain ⟨A4, cp4, rfl, _⟩ := own_slice HP4.out.pile
        cases zo with
        | some x =>
          obtain ⟨bb, c2⟩ := HP4.out.rd.some
          have hl2 := HN4.out.lt
          have r0 : w4.cell? ⟨w.heap.size, 0, none⟩ = some (.string ⟨#[]⟩) := HN4.out.cell 0
          have r1 : w4.cell? ⟨w.heap.size, 1, none⟩ = some (.string ⟨#[]⟩) := HN4.out.cell 1
          have r2 : w4.cell? ⟨w.heap.size, 2, none⟩ = some (.slice none 0 0) := HN4.out.cell 2
          have fr0 := HN4.out.free 0
          have fr1 := HN4.out.free 1
          have fr2 := HN4.out.free 2
          go_wp2_with fail
          rw [Exit.noGoto_ret]
          have hf := (((HN4.out.set 0 (.string ⟨#[]⟩)).set 1 (.string ⟨#[]⟩)).set 2 (.slice none 0 0))
          have e0 := hf.cell 0
          have e1 := hf.cell 1
          have e2 := hf.cell 2
          refine bodyPost_ret (v := .agg #[.string ⟨#[]⟩, .string ⟨#[]⟩, .slice none 0 0]) ?_ rfl ?_
          · simp [results, Tryz.results29, go_sem, e0, e1, e2]
          · rw [show X = (⟨zk, some x⟩, none) by rw [← HLp.out]; exact loopS_bad HZ.out]
            refine ⟨_, _, _, _, rfl, HP4.out.rd.keep (D := (· = w.heap.size)) ((((Keeps.refl _ _).set1 _ _).set1 _ _).set1 _ _) (by have := Hrl.out; omega) (fun b cs hb e => hb.ne HN4.out (by decide) e), rfl, ?_⟩
            exact (((HK4.out.set (p := ⟨w.heap.size, 0, none⟩) (fun h => absurd h (Nat.lt_irrefl _)) _).set (p := ⟨w.heap.size, 1, none⟩) (fun h => absurd h (Nat.lt_irrefl _)) _).set (p := ⟨w.heap.size, 2, none⟩) (fun h => absurd h (Nat.lt_irrefl _)) _)
        | none =>
          have c2 := HP4.out.rd.none
          obtain ⟨i1, i2, i3, i4, i5⟩ := withinS_inv HZ.out (by rw [bs_length]; omega) HInv.out
          rw [bs_length] at i2
          have hm4 := HM4.out
          obtain ⟨p, l', hL⟩ : ∃ p l', Lz = p :: l' := List.exists_cons_of_ne_nil i4
          rw [hL] at hm4 i3
          obtain ⟨g4, G5, rfl⟩ : ∃ g4 G5, G4 = g4 :: G5 := by
            cases G4 with
            | nil => simp at hm4
            | cons a b => exact ⟨a, b, rfl⟩
          have hX2 : loopS (bs s) f zk p l' = X := by rw [← HLp.out]; rw [hL] at HZ; exact (loopS_on HZ.out (by rintro ⟨h, _⟩; exact HG0.out (List.map_eq_nil_iff.1 h))).symm
          have HX2 := Lib.hid hX2; have HI4 := Lib.hid i3; have HMm := Lib.hid hm4
          clear hX2 i3 i4 i5 hL hm4 HM4
          go_wp2_with fail
          have hm4 := HMm.out
          rw [List.map_cons] at hm4
          injection hm4 with hm5 hm6
          go_roundg (s.size - zk)
          case measure => omega
          case rel =>
            refine ⟨zk, f, _, g4, G5, by omega, by omega, HP4.out, HK4.out, HG4.out, HN4.out, Hz4.out, ?_, ?_⟩
            · show Inv zk ((g4 :: G5).map OG.os)
              rw [List.map_cons, hm5, hm6]; exact HI4.out
            · show loopS (bs s) f zk g4.os (G5.map OG.os) = X
              rw [hm5, hm6]; exact HX2.out

end Go.Proofs.YtkjopcbleefioaaGreatDoor
