/- strconv.ParseInt of decimal and hexadecimal digits; strings.TrimLeft of digits. -/
import Derived.Test.YtkjopcbleefioaaGreatDoorBase
import Derived.Test.YtkjopcbleefioaaGreatDoorShelf
import Derived.Shelf.Strings.SlTrimAscii
import Derived.Lib.ConvBytes
import Derived.Lib.AtoiErrMem
import Derived.Lib.ParseIntBCases
import Derived.Outline
namespace Go.Proofs.YtkjopcbleefioaaGreatDoor
open Go Go.RowKit
set_option linter.unusedSimpArgs false
set_option linter.unusedVariables false

/-- A digit's value, of sixteenths. -/
def hexD (c : UInt8) : Nat := if c.toNat ≤ 57 then c.toNat - 48 else if c.toNat ≤ 70 then c.toNat - 55 else c.toNat - 87
def isHex (c : UInt8) : Bool := decide (48 ≤ c.toNat) && decide (c.toNat ≤ 57) || decide (65 ≤ c.toNat) && decide (c.toNat ≤ 70) || decide (97 ≤ c.toNat) && decide (c.toNat ≤ 102)
/-- Digits' value: base b. -/
def digV (b : Nat) : Nat → List UInt8 → Nat
  | a, [] => a
  | a, c :: l => digV b (a * b + hexD c) l

theorem lower_hex : ∀ c : Nat, (65 ≤ c ∧ c ≤ 70 ∨ 97 ≤ c ∧ c ≤ 102) → Go.bits .or .u8 (c : Int) 32 = (if c ≤ 70 then (c : Int) + 32 else c) := by
  intro c h
  have : c = 65 ∨ c = 66 ∨ c = 67 ∨ c = 68 ∨ c = 69 ∨ c = 70 ∨ c = 97 ∨ c = 98 ∨ c = 99 ∨ c = 100 ∨ c = 101 ∨ c = 102 := by omega
  rcases this with rfl | rfl | rfl | rfl | rfl | rfl | rfl | rfl | rfl | rfl | rfl | rfl <;> decide

theorem lower_any (c : Int) (w : World) : Calls Tryz.prog 128 #[.int .u8 c] w fun e w' => e = .returned (.int .u8 (Go.bits .or .u8 c 32)) ∧ w = w' := by
  go_enter Tryz.func128, Tryz.ntmps128
  go_wp2
  go_ret
  exact ⟨rfl, rfl⟩

theorem hexD_lt (c : UInt8) (h : isHex c = true) : hexD c ≤ 15 := by
  unfold isHex at h; unfold hexD
  simp only [Bool.or_eq_true, Bool.and_eq_true, decide_eq_true_eq] at h
  split
  · omega
  · split <;> omega

/-- Values stay small. -/
theorem digV_le : ∀ (l : List UInt8) (a : Nat), (∀ c ∈ l, isHex c = true) → digV 16 a l < (a + 1) * 16 ^ l.length
  | [], a, _ => by simp [digV]
  | c :: l, a, h => by
    have ih := digV_le l (a * 16 + hexD c) (fun x hx => h x (List.mem_cons_of_mem _ hx))
    have hc := hexD_lt c (h c (List.mem_cons_self ..))
    rw [digV, List.length_cons, Nat.pow_succ]
    have : (a * 16 + hexD c + 1) * 16 ^ l.length ≤ (a + 1) * 16 * 16 ^ l.length := Nat.mul_le_mul_right _ (by omega)
    rw [Nat.mul_comm (16 ^ l.length) 16, ← Nat.mul_assoc]
    omega

set_option maxHeartbeats 4000000 in
set_option maxRecDepth 100000 in
theorem parseUint16 (t : ByteArray) (hne : t.size ≠ 0) (hmax : t.size ≤ 6) (hh : ∀ c ∈ bs t, isHex c = true) (w : World) :
    Calls Tryz.prog 114 #[.string t, .int .i64 16, .int .i64 32] w fun e w' => e = .returned (.tuple #[.int .u64 (digV 16 0 (bs t)), .nilIface]) ∧ Below w.heap.size w w' := by
  have hemp : t.toList.isEmpty = false := by
    rw [← decide_eq_emptyBytes]
    exact decide_eq_false (fun h => hne (by rw [h]; rfl))
  have hcv := Lib.run_convert_string_bytes (P := Tryz.prog) w 9 51 5 t (u := .string) Tryz.underlying9 Tryz.underlying51 Tryz.underlying5
  have hB : ∀ j, j < t.size → (Lib.bytesWorld w 5 t).cell? ⟨w.heap.size, j, none⟩ = some (.int .u8 ((bs t).getD j 0).toNat) := fun j hj => Lib.bytesWorld_cell w 5 t j hj
  have hbel : Below w.heap.size w (Lib.bytesWorld w 5 t) := Lib.bytesWorld_below w 5 t
  obtain ⟨W1, hW1⟩ : ∃ W1, W1 = Lib.bytesWorld w 5 t := ⟨_, rfl⟩
  rw [← hW1] at hcv hB hbel
  clear hW1
  have HBel := Lib.hid hbel; clear hbel
  have hLn : (bs t).length = t.size := bs_length t
  have HH := Lib.hid hh; clear hh
  obtain ⟨l, hL⟩ : ∃ l, l = bs t := ⟨_, rfl⟩
  rw [← hL] at hB hLn HH ⊢
  clear hL
  have hmv : IntKind.u64.wrap (IntKind.u64.wrap 4294967296 - 1) = 4294967295 := by
    rw [IntKind.wrap_u64, IntKind.wrap_u64]
    decide
  have HLn := Lib.hid hLn; clear hLn
  have HBn := Lib.hid hB; clear hB
  go_enter Tryz.func114, Tryz.ntmps114
  go_wp2
  go_loop [12, 13, 101] (fun vu vn vi => ∃ (k acc : Nat) (a : Int), vu = .bool false ∧ vn = .int .u64 a ∧ vi = .int .i64 k ∧ k ≤ t.size ∧ Hid (a = (acc : Int) ∧ acc < 16 ^ k ∧ digV 16 acc (l.drop k) = digV 16 0 l))
    (fun _ _ vi => t.size - (intOf vi).toNat)
  case atStart => exact ⟨0, 0, 0, rfl, rfl, rfl, by omega, rfl, by decide, rfl⟩
  case round =>
    obtain ⟨k, acc, a, rfl, rfl, rfl, hk, hh⟩ := hrel
    by_cases hkn : k < t.size
    · obtain ⟨ha, hacc, hdec⟩ := hh.out
      clear hh
      have hln := HLn.out
      have hc := HBn.out k hkn
      have hget : ∃ c, l[k]? = some c ∧ l.getD k 0 = c := ⟨l[k]'(by omega), List.getElem?_eq_getElem (by omega), by simp [List.getD, List.getElem?_eq_getElem (show k < l.length by omega)]⟩
      obtain ⟨c, hg1, hg2⟩ := hget
      have hdrop := drop_get hg1
      rw [hdrop, digV] at hdec
      rw [hg2] at hc
      have hx := HH.out c (List.mem_of_getElem? hg1)
      have hd15 := hexD_lt c hx
      have hdd : ∃ d, hexD c = d := ⟨_, rfl⟩
      obtain ⟨d, hd⟩ := hdd
      rw [hd] at hdec hd15
      have hpow : (acc * 16 + d) < 16 ^ (k + 1) := by rw [Nat.pow_succ]; omega
      have hk5 : k ≤ 5 := by omega
      have hpk : 16 ^ k ≤ 16 ^ 5 := Nat.pow_le_pow_right (by decide) hk5
      have hacc2 : acc < 1048576 := Nat.lt_of_lt_of_le hacc hpk
      have a0 : 0 ≤ a := by omega
      have a1 : a ≤ 1048575 := by omega
      have HN : Hid (a * 16 + (d : Int) = ((acc * 16 + d : Nat) : Int) ∧ acc * 16 + d < 16 ^ (k + 1) ∧ digV 16 (acc * 16 + d) (l.drop (k + 1)) = digV 16 0 l) := ⟨by omega, hpow, hdec⟩
      clear ha hacc hdec hg1 hg2 hdrop hpow hpk hacc2 hln
      unfold isHex at hx
      simp only [Bool.or_eq_true, Bool.and_eq_true, decide_eq_true_eq] at hx
      unfold hexD at hd
      by_cases h57 : c.toNat ≤ 57
      · rw [if_pos h57] at hd
        have h48 : 48 ≤ c.toNat := by omega
        obtain ⟨n, hn⟩ : ∃ n, c.toNat = n := ⟨_, rfl⟩
        rw [hn] at hc hd h57 h48
        have hd' : (n : Int) - 48 = (d : Int) := by omega
        clear hx hd hn
        have e95 : ((n : Int) == 95) = false := by rw [beq_eq_false_iff_ne]; omega
        go_wp2
        refine ⟨⟨k + 1, acc * 16 + d, a * 16 + d, rfl, rfl, by go_num, by omega, HN⟩, by simp [intOf]; omega⟩
      · rw [if_neg h57] at hd
        obtain ⟨n, hn⟩ : ∃ n, c.toNat = n := ⟨_, rfl⟩
        rw [hn] at hc hd h57
        have hx' : 65 ≤ n ∧ n ≤ 70 ∨ 97 ≤ n ∧ n ≤ 102 := by omega
        have hlow := lower_hex n hx'
        obtain ⟨m, hm⟩ : ∃ m : Int, (if n ≤ 70 then (n : Int) + 32 else n) = m := ⟨_, rfl⟩
        rw [hm] at hlow
        have hm1 : 97 ≤ m ∧ m ≤ 102 ∧ m - 87 = (d : Int) := by
          split at hm <;> split at hd <;> omega
        obtain ⟨hm1, hm2, hm3⟩ := hm1
        have e95 : ((n : Int) == 95) = false := by rw [beq_eq_false_iff_ne]; omega
        clear hx hd hn hm hx'
        go_wp2
        refine ⟨⟨k + 1, acc * 16 + d, a * 16 + (m - 97 + 10), rfl, rfl, by go_num, by omega, ?_⟩, by simp [intOf]; omega⟩
        rw [show m - 97 + 10 = (d : Int) by omega]
        exact HN
    · go_wp2
      obtain ⟨h1, h2, h3⟩ := hh.out
      have hke : k = t.size := by omega
      rw [hke, List.drop_of_length_le (by rw [HLn.out]; omega), digV] at h3
      rw [h3] at h1
      clear h3
      go_ret2
      rw [h1]
      exact ⟨rfl, HBel.out⟩

set_option maxHeartbeats 4000000 in
set_option maxRecDepth 100000 in
theorem intParseInt16 (t : ByteArray) (hne : t.size ≠ 0) (hmax : t.size ≤ 6) (hh : ∀ c ∈ bs t, isHex c = true) (w : World) :
    Calls Tryz.prog 100 #[.string t, .int .i64 16, .int .i64 32] w fun e w' => e = .returned (.tuple #[.int .i64 (digV 16 0 (bs t)), .nilIface]) ∧ Below w.heap.size w w' := by
  have hemp : t.toList.isEmpty = false := by
    rw [← decide_eq_emptyBytes]
    exact decide_eq_false (fun h => hne (by rw [h]; rfl))
  have hLn : (bs t).length = t.size := bs_length t
  have hlt := digV_le (bs t) 0 hh
  rw [hLn] at hlt
  have hpk : 16 ^ t.size ≤ 16 ^ 6 := Nat.pow_le_pow_right (by decide) hmax
  obtain ⟨c, hg⟩ : ∃ c, (bs t)[0]? = some c := ⟨(bs t)[0]'(by omega), List.getElem?_eq_getElem (by omega)⟩
  have hx := hh c (List.mem_of_getElem? hg)
  have hs0 : 0 < t.size := by omega
  have hs1 : t.size ≤ 6 := hmax
  have hget : t[0]'hs0 = c := by
    have := bs_get t 0 (by omega)
    rw [hg] at this
    exact ((Option.some.inj this).symm)
  unfold isHex at hx
  simp only [Bool.or_eq_true, Bool.and_eq_true, decide_eq_true_eq] at hx
  have hP := parseUint16 t hne hmax hh w
  obtain ⟨n, hn⟩ : ∃ n, digV 16 0 (bs t) = n := ⟨_, rfl⟩
  rw [hn] at hP hlt ⊢
  have hn2 : n < 16777216 := by omega
  clear hpk hlt hn hLn
  obtain ⟨m, hm⟩ : ∃ m, c.toNat = m := ⟨_, rfl⟩
  have h43 : ((m : Int) == 43) = false := by rw [beq_eq_false_iff_ne]; omega
  have h45 : ((m : Int) == 45) = false := by rw [beq_eq_false_iff_ne]; omega
  have hmv : IntKind.u64.wrap 2147483648 = 2147483648 := by rw [IntKind.wrap_u64]; decide
  obtain ⟨a, ha⟩ : ∃ a : Int, (n : Int) = a := ⟨_, rfl⟩
  rw [ha] at hP ⊢
  have a0 : 0 ≤ a := by omega
  have a1 : a < 16777216 := by omega
  have hwn : IntKind.i64.wrap a = a := by
    rw [IntKind.wrap_i64]; omega
  have hge : ¬ (2147483648 ≤ a) := by omega
  have hge2 : ¬ (a ≥ 2147483648) := by omega
  have hdge : decide (a ≥ 2147483648) = false := decide_eq_false hge
  have hdge2 : decide (2147483648 ≤ a) = false := decide_eq_false hge
  clear ha hn2
  go_enter Tryz.func100, Tryz.ntmps100
  go_wp2_with fail
  refine hP.mono ?_
  rintro e w1 ⟨rfl, hb⟩
  have HB := Lib.hid hb; clear hb hP
  go_wp2
  go_ret2
  exact ⟨rfl, HB.out⟩

set_option maxHeartbeats 4000000 in
set_option maxRecDepth 100000 in
theorem parseInt16 (t : ByteArray) (hne : t.size ≠ 0) (hmax : t.size ≤ 6) (hh : ∀ c ∈ bs t, isHex c = true) (w : World) :
    Calls Tryz.prog 79 #[.string t, .int .i64 16, .int .i64 32] w fun e w' => e = .returned (.tuple #[.int .i64 (digV 16 0 (bs t)), .nilIface]) ∧ Below w.heap.size w w' := by
  have hP := intParseInt16 t hne hmax hh w
  go_enter Tryz.func79, Tryz.ntmps79
  go_wp2_with fail
  refine hP.mono ?_
  rintro e w1 ⟨rfl, hb⟩
  have HB := Lib.hid hb; clear hb hP
  go_wp2
  go_ret2
  exact ⟨rfl, HB.out⟩

def isDec (c : UInt8) : Bool := decide (48 ≤ c.toNat) && decide (c.toNat ≤ 57)

theorem isDec_hex {c : UInt8} (h : isDec c = true) : isHex c = true := by
  unfold isDec at h; unfold isHex
  simp only [Bool.and_eq_true, decide_eq_true_eq, Bool.or_eq_true] at h ⊢
  exact Or.inl (Or.inl h)

theorem digV10_M (M : Nat) (hM : 99999999 ≤ M) : ∀ (l : List UInt8) (a : Nat), (∀ c ∈ l, isDec c = true) → (a + 1) * 10 ^ l.length ≤ 100000000 → Lib.parseUintM M a l = .ok (digV 10 a l) ∧ digV 10 a l < (a + 1) * 10 ^ l.length
  | [], a, _, _ => by simp [Lib.parseUintM, digV]
  | c :: l, a, h, hb => by
    have hc := h c (List.mem_cons_self ..)
    unfold isDec at hc
    simp only [Bool.and_eq_true, decide_eq_true_eq] at hc
    have hd : hexD c = c.toNat - 48 := by unfold hexD; rw [if_pos hc.2]
    rw [List.length_cons, Nat.pow_succ] at hb
    have hmul : (a * 10 + hexD c + 1) * 10 ^ l.length ≤ (a + 1) * 10 * 10 ^ l.length := Nat.mul_le_mul_right _ (by omega)
    have heq : (a + 1) * (10 ^ l.length * 10) = (a + 1) * 10 * 10 ^ l.length := by
      rw [Nat.mul_comm (10 ^ l.length) 10, ← Nat.mul_assoc]
    have ih := digV10_M M hM l (a * 10 + hexD c) (fun x hx => h x (List.mem_cons_of_mem _ hx)) (by omega)
    have h1 : 0 < 10 ^ l.length := Nat.pow_pos (by decide)
    have hsm : a * 10 + hexD c + 1 ≤ (a * 10 + hexD c + 1) * 10 ^ l.length := Nat.le_mul_of_pos_right _ h1
    rw [Lib.parseUintM, if_pos hc, if_neg (by omega), if_neg (by omega), ← hd, digV, List.length_cons, Nat.pow_succ]
    exact ⟨ih.1, by omega⟩

theorem parseInt10 (t : ByteArray) (hne : t.size ≠ 0) (hmax : t.size ≤ 7) (hh : ∀ c ∈ bs t, isDec c = true) (w : World) :
    Calls Tryz.prog 79 #[.string t, .int .i64 10, .int .i64 32] w fun e w' => e = .returned (.tuple #[.int .i64 (digV 10 0 (bs t)), .nilIface]) ∧ Below w.heap.size w w' := by
  have hLn : (bs t).length = t.size := bs_length t
  have hpk : 10 ^ (bs t).length ≤ 10 ^ 7 := Nat.pow_le_pow_right (by decide) (by omega)
  have hM := digV10_M (2 ^ 32 - 1) (by decide) (bs t) 0 hh (by omega)
  have hp : Lib.parseIntB 32 t.data.toList = .ok (digV 10 0 (bs t) : Nat) := by
    change Lib.parseIntB 32 (bs t) = _
    obtain ⟨l, hl⟩ : ∃ l, bs t = l := ⟨_, rfl⟩
    rw [hl] at hM hh hLn hpk ⊢
    cases l with
    | nil => exact absurd hLn (fun h => hne h.symm)
    | cons c r =>
      have hc := hh c (List.mem_cons_self ..)
      unfold isDec at hc
      simp only [Bool.and_eq_true, decide_eq_true_eq] at hc
      rw [Lib.parseIntB_plain 32 c r (by omega) (by omega), Lib.parseUintB, if_neg (by simp), hM.1, Lib.signlessC, if_neg]
      have := hM.2
      have h2 : (2 ^ (32 - 1) : Nat) = 2147483648 := by decide
      rw [h2]
      omega
  refine (Tryz.strconv_ParseInt_10_at32_ok t (by omega) _ hp w).mono ?_
  rintro e w' ⟨rfl, h⟩
  refine ⟨rfl, ?_⟩
  rcases h with rfl | ⟨u, rfl⟩
  · exact Below.refl _ _
  · exact Lib.bytesWorld_below w 5 u

set_option maxHeartbeats 4000000 in
set_option maxRecDepth 100000 in
/-- No digit at all: an error. -/
theorem parseIntNo (base : Int) (ev : Value) (w : World) (hv : w.cell? ⟨3, 0, none⟩ = some ev) (hev : ev = .nilIface ∨ ∃ te pe, ev = .iface te pe) :
    Calls Tryz.prog 79 #[.string ⟨#[]⟩, .int .i64 base, .int .i64 32] w fun e w' => (∃ N, e = .returned (.tuple #[.int .i64 0, .iface 185 (.pointer (some ⟨N, 0, none⟩))])) ∧ Below w.heap.size w w' := by
  have hP := Tryz.internal_strconv_ParseInt_empty base 32 w
  have hT := Tryz.strconv_toError_syntax ⟨#[80, 97, 114, 115, 101, 73, 110, 116]⟩ ⟨#[]⟩ base 32 ev w (by decide) hv hev
  go_enter Tryz.func79, Tryz.ntmps79
  go_wp2_with fail
  refine hP.mono ?_
  rintro e w1 ⟨rfl, hw⟩
  subst hw
  go_wp2_with fail
  refine hT.mono ?_
  rintro e w1 ⟨N, rfl, hN, hc, hb⟩
  have HB := Lib.hid hb; clear hb hP hT hN hc
  go_wp2
  go_ret2
  exact ⟨⟨N, rfl⟩, HB.out⟩
end Go.Proofs.YtkjopcbleefioaaGreatDoor
