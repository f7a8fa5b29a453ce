/- strings.IndexRune over two ASCII bytes, at a rune beyond ASCII. -/
import Derived.Test.YtkjopcbleefioaaGreatDoorA3
import Derived.Laws.RangeAny
import Derived.Laws.Runes
import Derived.Outline
namespace Go.Proofs.YtkjopcbleefioaaGreatDoor
open Go Go.RowKit
set_option linter.unusedSimpArgs false
set_option linter.unusedVariables false

set_option maxRecDepth 100000 in
set_option maxHeartbeats 4000000 in
theorem indexRune_valid2 (s rs : ByteArray) (r : Int) (h1 : s.size = 2) (h2 : 128 ≤ r) (h3 : validR r = true) (h4 : r ≠ 65533)
    (hs : s[1].toNat < 128) (he : Utf8.encode r = rs) (hz : rs.size = 2) (hl : 128 ≤ rs[1].toNat) (w : World) :
    Calls Tryz.prog 92 #[.string s, .int .i32 r] w fun e w' => e = .returned (.int .i64 (-1)) ∧ Below w.heap.size w w' := by
  have b1 : decide (r < 128) = false := decide_eq_false (by omega)
  have b0 : decide (0 ≤ r) = true := decide_eq_true (by omega)
  have b2 : (r == 65533) = false := by simpa using h4
  go_enter Tryz.func92, Tryz.ntmps92
  go_wp2_with (go_at_call 80; refine (validRune_any _ _).mono ?_; rintro e w' ⟨rfl, rfl⟩)
  go_step3
  go_wp2_with fail
  go_loopg [9] 1 (fun g i wr => g = 1 ∧ i = .int .i64 1 ∧ w = wr)
  case atStart => exact ⟨rfl, rfl, rfl⟩
  case round =>
    obtain ⟨rfl, rfl, rfl⟩ := hrel
    have hne : ((s[1].toNat : Int) != (rs[1].toNat : Int)) = true := by rw [bne_iff_ne]; omega
    have hix : ∀ c : Nat, ixB (bs ByteArray.empty) c = -1 := fun c => rfl
    go_wp2_with fail
    go_step3
    go_wp2_with fail
    go_quiet (fail)
    generalize hw2 : w.drewN nq = w2
    have HW2 := Lib.hid hw2; clear hw2
    go_wp2_with fail
    go_quiet ((go_at_call 28; exact quietE (indexByte_any _ _ _)))
    go_wp2_with fail
    repeat (first | rw [Exit.noGoto_ret] | (simp only [Exit.inBlock, Exit.then]))
    go_ret
    exact ⟨rfl, by rw [← HW2.out]; exact (Keeps.below (((Keeps.refl _ _).drewN _).drewN _) (Nat.le_refl _))⟩

set_option maxRecDepth 100000 in
set_option maxHeartbeats 4000000 in
theorem indexRune_valid34 (s rs : ByteArray) (r : Int) (h1 : s.size = 2) (h2 : 128 ≤ r) (h3 : validR r = true) (h4 : r ≠ 65533)
    (he : Utf8.encode r = rs) (hz : 3 ≤ rs.size) (hz' : rs.size ≤ 4) (w : World) :
    Calls Tryz.prog 92 #[.string s, .int .i32 r] w fun e w' => e = .returned (.int .i64 (-1)) ∧ Below w.heap.size w w' := by
  have b1 : decide (r < 128) = false := decide_eq_false (by omega)
  have b0 : decide (0 ≤ r) = true := decide_eq_true (by omega)
  have b2 : (r == 65533) = false := by simpa using h4
  go_enter Tryz.func92, Tryz.ntmps92
  go_wp2_with (go_at_call 80; refine (validRune_any _ _).mono ?_; rintro e w' ⟨rfl, rfl⟩)
  go_step3
  go_wp2_with fail
  go_loopg [9] 1 (fun g i wr => g = 1 ∧ i = .int .i64 ((rs.size : Int) - 1) ∧ w = wr)
  case atStart => exact ⟨rfl, rfl, rfl⟩
  case round =>
    obtain ⟨rfl, rfl, rfl⟩ := hrel
    go_wp2_with fail
    repeat (first | rw [Exit.noGoto_ret] | (simp only [Exit.inBlock, Exit.then]))
    go_ret
    exact ⟨rfl, Below.refl _ _⟩

set_option maxRecDepth 100000 in
set_option maxHeartbeats 4000000 in
theorem indexRune_error (s : ByteArray) (h1 : s.size = 2) (ha : s[0].toNat < 128) (hb : s[1].toNat < 128) (w : World) :
    Calls Tryz.prog 92 #[.string s, .int .i32 65533] w fun e w' => e = .returned (.int .i64 (-1)) ∧ Below w.heap.size w w' := by
  have hd0 : Utf8.decode s 0 = (s[0].toNat, 1) := decode_ascii s 0 (by omega) ha
  have hd1 : Utf8.decode s 1 = (s[1].toNat, 1) := decode_ascii s 1 (by omega) hb
  have n0 := fun ty => run_next_any (P := Tryz.prog) w s 0 ty (by omega)
  have n1 := fun ty => run_next_any (P := Tryz.prog) w s 1 ty (by omega)
  have n2 := fun ty => run_next_end (P := Tryz.prog) w s 2 ty (by omega)
  rw [hd0] at n0
  rw [hd1] at n1
  have t0 : ((s[0].toNat : Int) == 65533) = false := by rw [beq_eq_false_iff_ne]; omega
  have t1 : ((s[1].toNat : Int) == 65533) = false := by rw [beq_eq_false_iff_ne]; omega
  have N0 := Lib.hid n0
  have N1 := Lib.hid n1
  have N2 := Lib.hid n2
  clear hd0 hd1 n0 n1 n2
  go_enter Tryz.func92, Tryz.ntmps92
  go_wp2_with fail
  go_loopg [5, 6] 2 (fun g _ _ wr => g ≤ 2 ∧ wr = w.iter s (2 - g))
  case atStart => exact ⟨Nat.le_refl _, rfl⟩
  case round =>
    obtain ⟨hg, rfl⟩ := hrel
    match gk, hg with
    | 2, _ =>
      have n0 := N0.out
      go_wp2_with fail
      go_roundg 1
      case measure => omega
      case rel => exact ⟨by omega, rfl⟩
    | 1, _ =>
      have n1 := N1.out
      go_wp2_with fail
      go_roundg 0
      case measure => omega
      case rel => exact ⟨by omega, rfl⟩
    | 0, _ =>
      have n2 := N2.out
      go_wp2_with fail
      go_ret
      exact ⟨rfl, (Below.refl _ _).alloc (Nat.le_refl _) _⟩

set_option maxRecDepth 100000 in
set_option maxHeartbeats 4000000 in
theorem indexRune_invalid (s : ByteArray) (r : Int) (h2 : 128 ≤ r) (h3 : validR r = false) (w : World) :
    Calls Tryz.prog 92 #[.string s, .int .i32 r] w fun e w' => e = .returned (.int .i64 (-1)) ∧ Below w.heap.size w w' := by
  have b1 : decide (r < 128) = false := decide_eq_false (by omega)
  have b0 : decide (0 ≤ r) = true := decide_eq_true (by omega)
  have b2 : (r == 65533) = false := by
    rw [beq_eq_false_iff_ne]; rintro rfl; simp [validR] at h3
  go_enter Tryz.func92, Tryz.ntmps92
  go_wp2_with (go_at_call 80; refine (validRune_any _ _).mono ?_; rintro e w' ⟨rfl, rfl⟩)
  go_ret
  exact ⟨rfl, Below.refl _ _⟩

theorem encode_facts (r : Int) (h2 : 128 ≤ r) (h3 : validR r = true) : ((Utf8.encode r).size = 2 ∧ ∀ h : 1 < (Utf8.encode r).size, 128 ≤ ((Utf8.encode r)[1]'h).toNat) ∨ (3 ≤ (Utf8.encode r).size ∧ (Utf8.encode r).size ≤ 4) := by
  have hv : Utf8.valid r = true := by
    unfold validR at h3; unfold Utf8.valid
    simp only [Bool.or_eq_true, Bool.and_eq_true, decide_eq_true_eq] at h3 ⊢
    omega
  have c0 : ¬ r.toNat < 0x80 := by omega
  by_cases c1 : r.toNat < 0x800
  · left
    have e : Utf8.encode r = ⟨#[UInt8.ofNat (0xC0 + r.toNat / 64), UInt8.ofNat (0x80 + r.toNat % 64)]⟩ := by
      unfold Utf8.encode; simp [hv, c1]; omega
    rw [e]
    refine ⟨rfl, fun h => ?_⟩
    show 128 ≤ (UInt8.ofNat (128 + r.toNat % 64)).toNat
    rw [UInt8.toNat_ofNat']
    omega
  · right
    by_cases c2 : r.toNat < 0x10000
    · have e : Utf8.encode r = ⟨#[UInt8.ofNat (0xE0 + r.toNat / 4096), UInt8.ofNat (0x80 + r.toNat / 64 % 64), UInt8.ofNat (0x80 + r.toNat % 64)]⟩ := by
        unfold Utf8.encode; simp [hv, c1, c2]; omega
      rw [e]; exact ⟨Nat.le_refl 3, (by decide : 3 ≤ 4)⟩
    · have e : Utf8.encode r = ⟨#[UInt8.ofNat (0xF0 + r.toNat / 262144), UInt8.ofNat (0x80 + r.toNat / 4096 % 64), UInt8.ofNat (0x80 + r.toNat / 64 % 64), UInt8.ofNat (0x80 + r.toNat % 64)]⟩ := by
        unfold Utf8.encode; simp [hv, c1, c2]; omega
      rw [e]; exact ⟨(by decide : 3 ≤ 4), Nat.le_refl 4⟩

/-- strings.IndexRune of a rune beyond ASCII in two ASCII bytes: there is none. -/
theorem indexRune_high (s : ByteArray) (r : Int) (h1 : s.size = 2) (ha : s[0].toNat < 128) (hb : s[1].toNat < 128) (h2 : 128 ≤ r) (w : World) :
    Calls Tryz.prog 92 #[.string s, .int .i32 r] w fun e w' => e = .returned (.int .i64 (-1)) ∧ Below w.heap.size w w' := by
  by_cases h4 : r = 65533
  · subst h4; exact indexRune_error s h1 ha hb w
  cases h3 : validR r with
  | false => exact indexRune_invalid s r h2 h3 w
  | true =>
    rcases encode_facts r h2 h3 with ⟨hz, hl⟩ | ⟨hz, hz'⟩
    · exact indexRune_valid2 s _ r h1 h2 h3 h4 hb rfl hz (hl (by omega)) w
    · exact indexRune_valid34 s _ r h1 h2 h3 h4 rfl hz hz' w
end Go.Proofs.YtkjopcbleefioaaGreatDoor
