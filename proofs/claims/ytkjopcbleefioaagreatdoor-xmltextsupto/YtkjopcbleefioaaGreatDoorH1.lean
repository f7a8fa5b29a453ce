/- told: the walk. -/
import Derived.Test.YtkjopcbleefioaaGreatDoorE3
import Derived.Test.YtkjopcbleefioaaGreatDoorF0
namespace Go.Proofs.YtkjopcbleefioaaGreatDoor
open Go Go.RowKit
set_option linter.unusedSimpArgs false
set_option linter.unusedVariables false

set_option maxHeartbeats 4000000 in
set_option maxRecDepth 100000 in
theorem told_nil (w : World) : Calls Tryz.prog 11 #[.nilIface] w fun e w' => e = .returned (.tuple #[.int .i64 0, .int .i64 0, .bool true]) ∧ Below w.heap.size w w' := by
  go_enter Tryz.func11, Tryz.ntmps11
  go_wp2_with fail
  refine bodyPost_ret (v := .tuple #[.int .i64 0, .int .i64 0, .bool true]) (by simp [results, Tryz.results11, go_sem]) rfl ?_
  exact ⟨rfl, Below.refl _ _⟩
theorem assertFault (v : Value) (w : World) : (Instr.typeAssert (.iface 53 v) 30 53 true).run Tryz.prog w = .ok (.tuple #[v, .bool true]) w := by
  simp [Instr.typeAssert, run_underlying Tryz.underlying53]
set_option maxHeartbeats 4000000 in
set_option maxRecDepth 100000 in
theorem told_err (w : World) (N : Nat) (c a : Int) (hb : Blk w N [.int .i64 c, .int .i64 a, .nilIface] 55) (hc : c ≠ 0) : Calls Tryz.prog 11 #[.iface 53 (.pointer (some ⟨N, 0, none⟩))] w fun e w' => e = .returned (.tuple #[.int .i64 c, .int .i64 a, .bool true]) ∧ Below w.heap.size w w' := by
  have e0 : w.cell? ⟨N, 0, none⟩ = some (.int .i64 c) := hb.cell 0
  have e1 : w.cell? ⟨N, 1, none⟩ = some (.int .i64 a) := hb.cell 1
  have e2 : w.cell? ⟨N, 2, none⟩ = some .nilIface := hb.cell 2
  have hlt := hb.lt
  have hcz : (c == 0) = false := by rw [beq_eq_false_iff_ne]; exact hc
  have hta := assertFault
  clear hb hc
  go_enter Tryz.func11, Tryz.ntmps11
  go_wp2_with fail
  go_quiet (fail)
  go_wp2_with fail
  refine bodyPost_ret (v := .tuple #[.int .i64 c, .int .i64 a, .bool true]) (by simp [results, Tryz.results11, go_sem]) rfl ?_
  exact ⟨rfl, ((Keeps.refl (fun k => w.heap.size ≤ k) w).drewN _).below (Nat.le_refl _)⟩

/-- Parse, where it answers an element. -/
theorem parse_ok (s : ByteArray) (el : El) (w : World) (hg : Glob w) (h3 : 3 < w.heap.size) (hmax : s.size ≤ 9223372036854775807) (h : parseS (bs s) = .ok el) :
    Calls Tryz.prog 9 #[.string s] w fun e w' => ∃ A cap, e = .returned (.tuple #[.agg #[.string (sb el.name), .string (sb el.text), .slice A el.kids.length cap], .nilIface]) ∧ ElR w' (· < w'.heap.size) el [.string (sb el.name), .string (sb el.text), .slice A el.kids.length cap] ∧ Below w.heap.size w w' := by
  refine (parse_any s w hg h3 hmax).mono ?_
  rintro e w' hp
  rw [h] at hp
  obtain ⟨a0, a1, a2, rfl, hel, hb⟩ := hp
  obtain ⟨A, cap, hcs, hc, hks⟩ := hel.form
  injection hcs with h0 hcs
  injection hcs with h1 hcs
  injection hcs with h2 _
  subst h0; subst h1; subst h2
  exact ⟨A, cap, rfl, hel.mono (fun b hb => ⟨rfl, by obtain ⟨_, cs, fr, hh⟩ := hb; exact (Array.getElem?_eq_some_iff.1 hh).1⟩) _ _, hb⟩
/-- Parse, where it answers an error. -/
theorem parse_err (s : ByteArray) (c a : Int) (w : World) (hg : Glob w) (h3 : 3 < w.heap.size) (hmax : s.size ≤ 9223372036854775807) (h : parseS (bs s) = .error (c, a)) :
    Calls Tryz.prog 9 #[.string s] w fun e w' => ∃ N, e = .returned (.tuple #[.agg #[.string ⟨#[]⟩, .string ⟨#[]⟩, .slice none 0 0], .iface 53 (.pointer (some ⟨N, 0, none⟩))]) ∧ Blk w' N [.int .i64 c, .int .i64 a, .nilIface] 55 ∧ Below w.heap.size w w' := by
  refine (parse_any s w hg h3 hmax).mono ?_
  rintro e w' hp
  rw [h] at hp
  obtain ⟨N, rfl, hb, _, hbl⟩ := hp
  exact ⟨N, rfl, hb, hbl⟩
end Go.Proofs.YtkjopcbleefioaaGreatDoor
