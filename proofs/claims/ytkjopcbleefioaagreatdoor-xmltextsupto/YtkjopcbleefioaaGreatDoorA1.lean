/- Leaf functions of xml: contracts. -/
import Derived.Test.YtkjopcbleefioaaGreatDoorBase
namespace Go.Proofs.YtkjopcbleefioaaGreatDoor
open Go Go.RowKit
set_option linter.unusedSimpArgs false
set_option linter.unusedVariables false

def firstB (b : Int) : Bool := decide (97 ≤ Go.bits .or .u8 b 32) && decide (Go.bits .or .u8 b 32 ≤ 122) || b == 95

theorem first_any (b : Int) (w : World) : Calls Tryz.prog 49 #[.int .u8 b] w fun e w' => e = .returned (.bool (firstB b)) ∧ w = w' := by
  go_enter Tryz.func49, Tryz.ntmps49
  go_wp2
  all_goals go_ret
  all_goals refine ⟨ret_bool ?_, rfl⟩
  all_goals simp [firstB, *]
  all_goals omega

theorem stringslite_hasPrefix (s p : ByteArray) (w : World) :
    Calls Tryz.prog 56 #[.string s, .string p] w fun e w' => e = .returned (.bool (pre (bs p) (bs s))) ∧ w = w' := by
  have hr := Lib.hasPrefix_of_take (bs s) (bs p)
  rw [bs_length, bs_length] at hr
  have HR : Hid (_ = pre (bs p) (bs s)) := Lib.hid hr
  clear hr
  go_enter Tryz.func56, Tryz.ntmps56
  go_wp2
  · rename_i h
    go_ret
    refine ⟨?_, rfl⟩
    show Ending.returned (Value.bool ((s.extract 0 p.size).toList == p.toList)) = _
    rw [← HR.out, Lib.extract_toList, Lib.toList_data]
    simp [h, bs]
  · rename_i h
    go_ret
    refine ⟨?_, rfl⟩
    show Ending.returned (Value.bool false) = _
    rw [← HR.out]
    simp [h]

theorem hasPrefix_any (s p : ByteArray) (w : World) :
    Calls Tryz.prog 38 #[.string s, .string p] w fun e w' => e = .returned (.bool (pre (bs p) (bs s))) ∧ w = w' := by
  go_enter Tryz.func38, Tryz.ntmps38
  go_wp2_with (go_at_call 56; refine (stringslite_hasPrefix _ _ _).mono ?_; rintro e w' ⟨rfl, rfl⟩)
  go_ret
  exact ⟨rfl, rfl⟩

def moreB (b : Int) : Bool := firstB b || decide (48 ≤ b) && decide (b ≤ 57) || b == 45 || b == 46

theorem more_any (b : Int) (w : World) : Calls Tryz.prog 52 #[.int .u8 b] w fun e w' => e = .returned (.bool (moreB b)) ∧ w = w' := by
  unfold moreB
  generalize hg : firstB b = g
  have HG := Lib.hid hg; clear hg
  go_enter Tryz.func52, Tryz.ntmps52
  go_wp2_with (go_at_call 49; refine (first_any _ _).mono ?_; rintro e w' ⟨rfl, rfl⟩; rw [HG.out]; clear HG)
  all_goals go_ret
  all_goals refine ⟨ret_bool ?_, rfl⟩
  all_goals (try simp [*])
  all_goals (try omega)
  rename_i h; rw [decide_eq_false (by omega)]; simp

def validR (r : Int) : Bool := decide (0 ≤ r) && decide (r < 0xD800) || decide (0xDFFF < r) && decide (r ≤ 0x10FFFF)
theorem validRune_any (r : Int) (w : World) : Calls Tryz.prog 80 #[.int .i32 r] w fun e w' => e = .returned (.bool (validR r)) ∧ w = w' := by
  go_enter Tryz.func80, Tryz.ntmps80
  go_wp2
  all_goals go_ret
  all_goals refine ⟨ret_bool ?_, rfl⟩
  all_goals simp [validR, *]
  all_goals try omega

def knowsB (r : Int) : Bool := r == 9 || r == 10 || r == 13 || (!(r == 0xfffe || r == 0xffff) && (decide (32 ≤ r) && validR r))
theorem knows_any (r : Int) (w : World) : Calls Tryz.prog 64 #[.int .i32 r] w fun e w' => e = .returned (.bool (knowsB r)) ∧ w = w' := by
  by_cases h1 : r = 9
  · subst h1
    go_enter Tryz.func64, Tryz.ntmps64
    go_wp2_with fail
    go_ret
    exact ⟨rfl, rfl⟩
  by_cases h2 : r = 10
  · subst h2
    go_enter Tryz.func64, Tryz.ntmps64
    go_wp2_with fail
    go_ret
    exact ⟨rfl, rfl⟩
  by_cases h3 : r = 13
  · subst h3
    go_enter Tryz.func64, Tryz.ntmps64
    go_wp2_with fail
    go_ret
    exact ⟨rfl, rfl⟩
  by_cases h4 : r = 65534
  · subst h4
    go_enter Tryz.func64, Tryz.ntmps64
    go_wp2_with fail
    go_ret
    exact ⟨rfl, rfl⟩
  by_cases h5 : r = 65535
  · subst h5
    go_enter Tryz.func64, Tryz.ntmps64
    go_wp2_with fail
    go_ret
    exact ⟨rfl, rfl⟩
  have b1 : (r == 9) = false := by simpa using h1
  have b2 : (r == 10) = false := by simpa using h2
  have b3 : (r == 13) = false := by simpa using h3
  have b4 : (r == 65534) = false := by simpa using h4
  have b5 : (r == 65535) = false := by simpa using h5
  clear h1 h2 h3 h4 h5
  have hk : knowsB r = (decide (32 ≤ r) && validR r) := by simp [knowsB, b1, b2, b3, b4, b5]
  rw [hk]; clear hk
  by_cases h6 : 32 ≤ r
  · have d : decide (32 ≤ r) = true := decide_eq_true h6
    go_enter Tryz.func64, Tryz.ntmps64
    go_wp2_with (go_at_call 80; refine (validRune_any _ _).mono ?_; rintro e w' ⟨rfl, rfl⟩)
    go_ret
    exact ⟨ret_bool (by simp [d]), rfl⟩
  · have d : decide (32 ≤ r) = false := decide_eq_false h6
    go_enter Tryz.func64, Tryz.ntmps64
    go_wp2_with fail
    go_ret
    exact ⟨ret_bool (by simp [d]), rfl⟩

/-! The reader: block r. -/
structure St where
  at_ : Nat
  bad : Option (Int × Int) := none

def BadIs (w : World) (v : Value) : Option (Int × Int) → Prop
  | none => v = .pointer none
  | some (e, a) => ∃ b, v = .pointer (some ⟨b, 0, none⟩) ∧ Blk w b [.int .i64 e, .int .i64 a] 67
def Rd (w : World) (r : Nat) (s : ByteArray) (st : St) (pile : Value) : Prop :=
  ∃ bad, Blk w r [.string s, .int .i64 st.at_, bad, pile] 60 ∧ BadIs w bad st.bad ∧ st.at_ ≤ s.size

theorem BadIs.keeps {D : Nat → Prop} {w w' : World} {v : Value} {o : Option (Int × Int)} (h : BadIs w v o) (k : Keeps D w w') (hD : ∀ b cs, Blk w b cs 67 → ¬ D b) : BadIs w' v o := by
  cases o with
  | none => exact h
  | some x => obtain ⟨b, e, hb⟩ := h; exact ⟨b, e, k.blk hb (hD b _ hb)⟩

theorem ahead_any (r : Nat) (s p : ByteArray) (st : St) (pile : Value) (w : World) (hR : Rd w r s st pile) (hs : s.size ≤ 100000) :
    Calls Tryz.prog 26 #[.pointer (some ⟨r, 0, none⟩), .string p] w fun e w' => e = .returned (.bool (pre (bs p) ((bs s).drop st.at_))) ∧ ∃ n, w' = w.drewN n := by
  obtain ⟨bad, hR, -, hk⟩ := hR
  obtain ⟨k, b⟩ := st
  dsimp only at hR hk ⊢
  have c0 : w.cell? ⟨r, 0, none⟩ = some (.string s) := hR.cell 0
  have c1 : w.cell? ⟨r, 1, none⟩ = some (.int .i64 k) := hR.cell 1
  clear hR
  go_enter Tryz.func26, Tryz.ntmps26
  go_wp2
  go_quiet ((go_at_call 38; exact quietE (hasPrefix_any _ _ _)))
  go_wp2
  go_ret
  refine ⟨ret_bool ?_, _, rfl⟩
  rw [bs_extract, List.take_of_length_le (by rw [bs_length]; omega)]

def failS (e : Int) (a : Int) (st : St) : St := match st.bad with | none => { st with bad := some (e, a) } | some _ => st

theorem fail_any (r : Nat) (s : ByteArray) (st : St) (pile : Value) (e a : Int) (w : World) (hR : Rd w r s st pile) :
    Calls Tryz.prog 30 #[.pointer (some ⟨r, 0, none⟩), .int .i64 e, .int .i64 a] w fun en w' => en = .returned (.tuple #[]) ∧ Rd w' r s (failS e a st) pile ∧ Keeps (· = r) w w' := by
  obtain ⟨bad, hR, hb, hk⟩ := hR
  obtain ⟨k, o⟩ := st
  cases o with
  | none =>
    dsimp only [BadIs] at hR hk hb
    subst hb
    have c2 : w.cell? ⟨r, 2, none⟩ = some (.pointer none) := hR.cell 2
    have f2 := hR.free 2
    have hl := hR.lt
    have HR := Lib.hid hR; clear hR
    go_enter Tryz.func30, Tryz.ntmps30
    go_wp2
    go_end0
    exact ⟨rfl, ⟨_, (HR.out.set 2 _).alloc _, ⟨_, rfl, by have := Blk.new (w.setCell ⟨r, 2, none⟩ (.pointer (some ⟨w.heap.size, 0, none⟩))) [.int .i64 e, .int .i64 a] 67; simpa using this⟩, hk⟩, ((Keeps.refl _ _).set1 _ _).alloc _⟩
  | some x =>
    have hb' := hb
    obtain ⟨b, rfl, hb⟩ := hb
    have c2 : w.cell? ⟨r, 2, none⟩ = some (.pointer (some ⟨b, 0, none⟩)) := hR.cell 2
    have HR := Lib.hid hR; clear hR
    have HB := Lib.hid hb'; clear hb hb'
    go_enter Tryz.func30, Tryz.ntmps30
    go_wp2
    refine bodyPost_end (v := .tuple #[]) ?_ rfl ?_
    · exact results_none rfl _ _ _
    exact ⟨rfl, ⟨_, HR.out, HB.out, hk⟩, Keeps.refl _ _⟩
end Go.Proofs.YtkjopcbleefioaaGreatDoor
