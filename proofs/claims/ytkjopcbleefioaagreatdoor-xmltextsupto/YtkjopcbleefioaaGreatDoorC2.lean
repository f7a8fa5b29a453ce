/- elem: an open element as it is handed on. -/
import Derived.Test.YtkjopcbleefioaaGreatDoorC1
import Derived.Outline
namespace Go.Proofs.YtkjopcbleefioaaGreatDoor
open Go Go.RowKit
set_option linter.unusedSimpArgs false
set_option linter.unusedVariables false

def elT (text : List UInt8) (kids : List El) : List UInt8 := if kids.length = 0 then text else []

set_option maxHeartbeats 4000000 in
set_option maxRecDepth 100000 in
theorem elem_any (g : OG) (base : Nat) (ok : Nat → Prop) (w : World) (h : OpenIs w base ok g) (hl : g.kids.length ≤ 1000000) :
    Calls Tryz.prog 41 #[.pointer (some ⟨g.blk, 0, none⟩)] w fun e w' => e = .returned (.agg #[.string (sb g.name), .string (sb (elT g.text g.kids)), g.kv]) ∧ Keeps (fun b => b = g.blk ∨ g.u.ownBlock = some b) w w' := by
  obtain ⟨blk, name, text, kids, solid, a, u, kv⟩ := g
  obtain ⟨hB, hbase, ha, hu, hun, cs, hkv, hks⟩ := h
  dsimp only at hB hbase ha hu hun hkv hks hl ⊢
  obtain ⟨A, cap, rfl, hcap⟩ := own_slice hkv
  have hlt := hB.lt
  have c0 : w.cell? ⟨blk, 0, none⟩ = some (.string (sb name)) := hB.cell 0
  have c1 : w.cell? ⟨blk, 1, none⟩ = some (.string (sb [])) := hB.cell 1
  have c2 : w.cell? ⟨blk, 2, none⟩ = some (.slice A kids.length cap) := hB.cell 2
  have HB := Lib.hid hB; have HU := Lib.hid hu; have Hun := Lib.hid hun
  clear hB hu hun hkv hks ha
  have hR : ∀ W : World, Blk (W.alloc (.cells #[.string ⟨#[]⟩, .string ⟨#[]⟩, .slice none 0 0] 24)) W.heap.size [.string ⟨#[]⟩, .string ⟨#[]⟩, .slice none 0 0] 24 := fun W => Blk.new W _ 24
  have HRn := Lib.hid hR; clear hR
  by_cases hk : kids.length = 0
  · have hz : ((kids.length : Int) == 0) = true := by rw [beq_iff_eq]; omega
    have hT : Hid (elT text kids = text) := by show _ = _; unfold elT; rw [if_pos hk]
    have hstr : ∀ o : Obj, Calls Tryz.prog 60 #[.pointer (some ⟨blk, 3, none⟩)] (w.alloc o) fun e w' => e = .returned (.string (sb text)) ∧ Keeps (fun b => u.ownBlock = some b) (w.alloc o) w' := by
      intro o
      by_cases ht : text = []
      · have hu0 := Hun.out ht
        refine (builderString_nil blk _ _ _ a solid _ (by have := HB.out.alloc o; rw [hu0] at this; exact this)).mono ?_
        rintro e w' ⟨rfl, hb⟩
        rw [ht]
        exact ⟨rfl, Keeps.fresh hb⟩
      · exact builderString blk _ _ _ a u solid text base _ (HB.out.alloc o) (HU.out.alloc o) ht
    have HS := Lib.hid hstr; clear hstr hk
    go_enter Tryz.func41, Tryz.ntmps41
    go_wp2_with fail
    refine (HS.out _).mono ?_
    rintro e w2 ⟨rfl, hk2⟩
    have hb2 : Blk w2 blk _ 103 := hk2.blk (HB.out.alloc _) (own_ne HU.out HB.out (by decide))
    have hR2 : Blk w2 w.heap.size _ 24 := hk2.blk (HRn.out w) (own_ne (HU.out.alloc _) (HRn.out w) (by decide))
    have hlt2 := hb2.lt
    have hltR := hR2.lt
    have d0 : w2.cell? ⟨blk, 0, none⟩ = some (.string (sb name)) := hb2.cell 0
    have d1 : w2.cell? ⟨blk, 1, none⟩ = some (.string (sb [])) := hb2.cell 1
    have d2 : w2.cell? ⟨blk, 2, none⟩ = some (.slice A kids.length cap) := hb2.cell 2
    have f1 := hb2.free 1
    have r0 : w2.cell? ⟨w.heap.size, 0, none⟩ = some (.string ⟨#[]⟩) := hR2.cell 0
    have r1 : w2.cell? ⟨w.heap.size, 1, none⟩ = some (.string ⟨#[]⟩) := hR2.cell 1
    have r2 : w2.cell? ⟨w.heap.size, 2, none⟩ = some (.slice none 0 0) := hR2.cell 2
    have fr0 := hR2.free 0
    have fr1 := hR2.free 1
    have fr2 := hR2.free 2
    have HK2 := Lib.hid hk2; have HR2 := Lib.hid hR2
    clear hk2 hR2 hb2
    go_wp2_with fail
    have hne : w.heap.size ≠ blk := by omega
    have hf := (((HR2.out.far (p := ⟨blk, 1, none⟩) hne (.string (sb text))).set 0 (.string (sb name))).set 1 (.string (sb text))).set 2 (.slice A kids.length cap)
    have e0 := hf.cell 0
    have e1 := hf.cell 1
    have e2 := hf.cell 2
    refine bodyPost_ret (v := .agg #[.string (sb name), .string (sb text), .slice A kids.length cap]) ?_ rfl ?_
    · simp [results, Tryz.results41, go_sem, e0, e1, e2]
    · rw [hT.out]
      refine ⟨rfl, ?_⟩
      have k1 : Keeps (fun b => b = blk ∨ u.ownBlock = some b) w w2 := ((Keeps.refl _ _).alloc _).trans (HK2.out.mono (fun i _ h => .inr h))
      refine (((k1.set (p := ⟨blk, 1, none⟩) (fun _ => .inl rfl) _).set (p := ⟨w.heap.size, 0, none⟩) ?_ _).set (p := ⟨w.heap.size, 1, none⟩) ?_ _).set (p := ⟨w.heap.size, 2, none⟩) ?_ _
      all_goals (intro h; exact absurd h (Nat.lt_irrefl _))
  · have hz : ((kids.length : Int) == 0) = false := by rw [beq_eq_false_iff_ne]; omega
    have hT : Hid (elT text kids = []) := by show _ = _; unfold elT; rw [if_neg hk]
    clear hk
    go_enter Tryz.func41, Tryz.ntmps41
    go_wp2_with fail
    refine bodyPost_ret (v := .agg #[.string (sb name), .string (sb []), .slice A kids.length cap]) ?_ rfl ?_
    · simp [results, Tryz.results41, go_sem]
    · rw [hT.out]
      exact ⟨rfl, (Keeps.refl _ _).alloc _⟩
end Go.Proofs.YtkjopcbleefioaaGreatDoor
