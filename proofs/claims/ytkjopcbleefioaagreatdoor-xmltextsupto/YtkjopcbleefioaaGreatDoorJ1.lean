/- What the row's list gives, and a world for the witness. -/
import Derived.Test.YtkjopcbleefioaaGreatDoorRows
import Derived.Test.YtkjopcbleefioaaGreatDoorR1
import Derived.Test.YtkjopcbleefioaaGreatDoorShelf
import Derived.PinnedBridge
import Derived.Lib.LaidU8
import Derived.Lib.LaidTab
import Derived.ProofKit
import Derived.OpenShut
import Derived.Deep.DeepHandedRow
import Derived.Deep.DeepWitnessRowRef
namespace Go.Proofs.YtkjopcbleefioaaGreatDoor
open Go Go.RowKit
set_option linter.unusedSimpArgs false
set_option linter.unusedVariables false

theorem iface_of_trod {H : Type} {enc : TypeId × Value → H} {P : Program} {w : World} {sp : Nat → Bool} {t : TypeId} {ms : Array (String × TypeId)} {cs : List Value} {f : Nat} {x : DataW H × List MemPlace}
    (hi : P.underlying t = some (.interface ms)) (h : DataW.trod enc P w 0 sp false f t cs = some x) : ∃ v, cs = [v] ∧ (v = .nilIface ∨ ∃ te pe, v = .iface te pe) := by
  cases f with
  | zero => simp [DataW.trod] at h
  | succ f =>
    rcases cs with _ | ⟨v, _ | ⟨v2, r⟩⟩
    · simp [DataW.trod, hi] at h
    · cases v <;> first | exact ⟨_, rfl, .inl rfl⟩ | exact ⟨_, rfl, .inr ⟨_, _, rfl⟩⟩ | simp [DataW.trod, hi] at h
    · cases v <;> simp [DataW.trod, hi] at h
theorem ownG : ownKnob Tryz.prog.godebug = none := by kernel_rfl
theorem accept_eq : (Rows.laid_unicode_utf8_acceptRanges : DataW Unit) = Lib.acceptData := by kernel_rfl
theorem synType : (Tryz.prog.globals[3]?).map (·.type) = some 30 := by kernel_rfl
theorem synName : Tryz.prog.globalNamed "strconv.ErrSyntax" = some 3 := by kernel_rfl
/-- THE LIST, as each of the seat's rows bears it. -/
def laidL : List (String × DataW Unit) := [("math/bits.deBruijn32tab", Rows.laid_math_bits_deBruijn32tab), ("math/bits.deBruijn64tab", Rows.laid_math_bits_deBruijn64tab), ("internal/strconv.uint64pow10", Rows.laid_internal_strconv_uint64pow10), ("unicode/utf8.acceptRanges", Rows.laid_unicode_utf8_acceptRanges), ("strconv.ErrRange", Rows.laid_strconv_ErrRange), ("strconv.ErrSyntax", Rows.laid_strconv_ErrSyntax), ("unicode/utf8.first", Rows.laid_unicode_utf8_first)]
theorem glob_of_laid {W : World} (h : laidMetH Tryz.prog laidL W) : Glob W ∧ 3 < W.heap.size := by
  have hu : Lib.Utf8Tabs 1 2 W := Go.Proofs.utf8Tabs_of_reads (P := Tryz.prog) (ρ := Tryz.lays161_ren) { Tryz.lays161 with } ⟨by kernel_rfl, by kernel_rfl, by kernel_rfl, by kernel_rfl, by kernel_rfl, by kernel_rfl, by kernel_rfl⟩
    (by rw [← Pinned.utf8First_eq]; exact Lib.laidMet.reads h (.tail _ (.tail _ (.tail _ (.tail _ (.tail _ (.tail _ (.head _))))))))
    (by rw [← accept_eq]; exact Lib.laidMet.reads h (.tail _ (.tail _ (.tail _ (.head _)))))
  obtain ⟨g, t, cs, fuel, p, hg, hty, hvar, hd⟩ := Lib.laidMet.reads (n := "strconv.ErrSyntax") (d := Rows.laid_strconv_ErrSyntax) h (.tail _ (.tail _ (.tail _ (.tail _ (.tail _ (.head _))))))
  obtain rfl := Option.some.inj (synName.symm.trans hg)
  obtain rfl := Option.some.inj (synType.symm.trans hty)
  obtain ⟨v, hcs, hv⟩ := iface_of_trod Tryz.underlying30 hd
  have hc : W.cell? ⟨3, 0, none⟩ = some v := by
    rw [World.var?_cell hg hvar 0, ← Array.getElem?_toList, hcs]; rfl
  exact ⟨⟨hu, v, hc, hv⟩, cell_lt hc⟩
end Go.Proofs.YtkjopcbleefioaaGreatDoor
