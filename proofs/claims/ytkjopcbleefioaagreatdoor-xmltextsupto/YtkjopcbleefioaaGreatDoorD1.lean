/- What the rune decoder gives at the head of a list of bytes. -/
import Derived.Test.YtkjopcbleefioaaGreatDoorW1
import Derived.Lib.MapLaws
import Derived.Lib.ValidU
import Derived.Lib.TrimAscii
namespace Go.Proofs.YtkjopcbleefioaaGreatDoor
open Go Go.RowKit
set_option linter.unusedSimpArgs false
set_option linter.unusedVariables false

theorem decR_nil : decR [] = (65533, 0) := rfl
theorem decR_L {l : List UInt8} (h : l ≠ []) : decR l = Lib.decodeL l := by
  unfold decR Lib.decodeGo
  rw [if_neg (by rw [sb_size]; simpa using h)]
  rfl
theorem decR_N {l : List UInt8} (h : l ≠ []) : decR l = Lib.decodeN l.length (l.getD 0 0).toNat (l.getD 1 0).toNat (l.getD 2 0).toNat (l.getD 3 0).toNat := by
  rw [decR_L h, Lib.decodeL_N]
theorem decR_max (l : List UInt8) : (decR l).1 ≤ 1114111 := by
  by_cases h : l = []
  · rw [h, decR_nil]; decide
  · rw [decR_L h]; exact Lib.decodeL_rune l
theorem decR_le (l : List UInt8) : (decR l).2 ≤ l.length := by
  by_cases h : l = []
  · rw [h, decR_nil]; decide
  · rw [decR_L h]; exact Lib.decodeL_le l h
theorem decR_le4 (l : List UInt8) : (decR l).2 ≤ 4 := by
  by_cases h : l = []
  · rw [h, decR_nil]; decide
  · rw [decR_N h]
    unfold Lib.decodeN
    repeat' split
    all_goals simp
theorem decR_pos {l : List UInt8} (h : l ≠ []) : 1 ≤ (decR l).2 := by rw [decR_L h]; exact Lib.decodeL_width l
theorem decR_zero {l : List UInt8} : (decR l).2 = 0 ↔ l = [] := by
  constructor
  · intro h
    by_cases hl : l = []
    · exact hl
    · have := decR_pos hl; omega
  · rintro rfl; rfl
theorem decR_ascii {b : UInt8} {l : List UInt8} (h : b.toNat < 128) : decR (b :: l) = (b.toNat, 1) := by
  rw [decR_L (by simp), Lib.decodeL_ascii b l h]
/-- What was decoded soundly stands there. -/
theorem decR_enc {l : List UInt8} (hne : l ≠ []) (hv : ¬ ((decR l).1 = 65533 ∧ (decR l).2 = 1)) : encR (decR l).1 = l.take (decR l).2 := by
  rw [decR_L hne] at hv ⊢
  exact Lib.encode_decode l hne hv
theorem encR_len (c : Nat) : (encR c).length = (Lib.encodeRuneZ (c : Int)).length := by unfold encR Lib.encodeRune; rw [List.length_map]

/-- A rune that is one. -/
def isRune (c : Nat) : Prop := c < 55296 ∨ 57344 ≤ c ∧ c ≤ 1114111
theorem ofz (z : Int) (n : Nat) (h : z = n) (hn : n < 256) : z.toNat.toUInt8.toNat = n := by
  subst h
  simp
  omega
theorem encR_cases {c : Nat} (h : isRune c) :
    (c ≤ 127 ∧ encR c = [UInt8.ofNat c]) ∨ (128 ≤ c ∧ c ≤ 2047 ∧ ∃ a b : UInt8, encR c = [a, b] ∧ a.toNat = 192 + c / 64 ∧ b.toNat = 128 + c % 64) ∨
    (2048 ≤ c ∧ c ≤ 65535 ∧ ∃ a b d : UInt8, encR c = [a, b, d] ∧ a.toNat = 224 + c / 4096 ∧ b.toNat = 128 + c / 64 % 64 ∧ d.toNat = 128 + c % 64) ∨
    (65536 ≤ c ∧ c ≤ 1114111 ∧ ∃ a b d e : UInt8, encR c = [a, b, d, e] ∧ a.toNat = 240 + c / 262144 ∧ b.toNat = 128 + c / 4096 % 64 ∧ d.toNat = 128 + c / 64 % 64 ∧ e.toNat = 128 + c % 64) := by
  unfold isRune at h
  unfold encR Lib.encodeRune
  by_cases h1 : c ≤ 127
  · left
    rw [Lib.encodeRuneZ_one (by omega) (by omega)]
    exact ⟨h1, by simp [Nat.toUInt8]⟩
  right
  by_cases h2 : c ≤ 2047
  · left
    rw [Lib.encodeRuneZ_two (by omega) (by omega)]
    exact ⟨by omega, h2, _, _, rfl, ofz _ _ (by omega) (by omega), ofz _ _ (by omega) (by omega)⟩
  right
  by_cases h3 : c ≤ 65535
  · left
    rw [Lib.encodeRuneZ_three (by omega)]
    exact ⟨by omega, h3, _, _, _, rfl, ofz _ _ (by omega) (by omega), ofz _ _ (by omega) (by omega), ofz _ _ (by omega) (by omega)⟩
  right
  rw [Lib.encodeRuneZ_four (by omega) (by omega)]
  exact ⟨by omega, by omega, _, _, _, _, rfl, ofz _ _ (by omega) (by omega), ofz _ _ (by omega) (by omega), ofz _ _ (by omega) (by omega), ofz _ _ (by omega) (by omega)⟩

theorem decodeN_1 {n b0 b1 b2 b3 : Nat} (h : b0 < 128) : Lib.decodeN n b0 b1 b2 b3 = (b0, 1) := by unfold Lib.decodeN; rw [if_pos h]
theorem decodeN_2 {n b0 b1 b2 b3 c : Nat} (hn : 1 < n) (h1 : 128 ≤ c) (h2 : c ≤ 2047) (e0 : b0 = 192 + c / 64) (e1 : b1 = 128 + c % 64) : Lib.decodeN n b0 b1 b2 b3 = (c, 2) := by
  unfold Lib.decodeN
  rw [if_neg (by omega), if_pos (by omega), if_pos (by omega)]
  congr 1; omega
theorem decodeN_3 {n b0 b1 b2 b3 c : Nat} (hn : 2 < n) (h1 : 2048 ≤ c) (h2 : c ≤ 65535) (hs : c < 55296 ∨ 57344 ≤ c) (e0 : b0 = 224 + c / 4096) (e1 : b1 = 128 + c / 64 % 64) (e2 : b2 = 128 + c % 64) : Lib.decodeN n b0 b1 b2 b3 = (c, 3) := by
  have e : b0 % 16 * 4096 + b1 % 64 * 64 + b2 % 64 = c := by omega
  unfold Lib.decodeN
  rw [if_neg (by omega), if_neg (by omega), if_pos (by omega), e, if_pos (by omega)]
theorem decodeN_4 {n b0 b1 b2 b3 c : Nat} (hn : 3 < n) (h1 : 65536 ≤ c) (h2 : c ≤ 1114111) (e0 : b0 = 240 + c / 262144) (e1 : b1 = 128 + c / 4096 % 64) (e2 : b2 = 128 + c / 64 % 64) (e3 : b3 = 128 + c % 64) : Lib.decodeN n b0 b1 b2 b3 = (c, 4) := by
  have e : b0 % 8 * 262144 + b1 % 64 * 4096 + b2 % 64 * 64 + b3 % 64 = c := by omega
  unfold Lib.decodeN
  rw [if_neg (by omega), if_neg (by omega), if_neg (by omega), if_pos (by omega), e, if_pos (by omega)]

/-- A rune's bytes are decoded to it, whatever stands behind. -/
theorem decR_encR {c : Nat} (h : isRune c) (l : List UInt8) : decR (encR c ++ l) = (c, (encR c).length) := by
  rcases encR_cases h with ⟨h1, e⟩ | ⟨h1, h2, a, b, e, ea, eb⟩ | ⟨h1, h2, a, b, d, e, ea, eb, ed⟩ | ⟨h1, h2, a, b, d, f, e, ea, eb, ed, ef⟩
  · rw [e]
    have hc : (UInt8.ofNat c).toNat = c := by rw [UInt8.toNat_ofNat']; omega
    show decR (UInt8.ofNat c :: l) = _
    rw [decR_ascii (by rw [hc]; omega), hc]; rfl
  · rw [e, decR_N (by simp)]
    exact decodeN_2 (by simp) h1 h2 ea eb
  · rw [e, decR_N (by simp)]
    exact decodeN_3 (by simp) h1 h2 (by unfold isRune at h; omega) ea eb ed
  · rw [e, decR_N (by simp)]
    exact decodeN_4 (by simp) h1 h2 ea eb ed ef

theorem decR_isRune {l : List UInt8} (hne : l ≠ []) : isRune (decR l).1 := by
  rw [decR_N hne]
  have k0 := (l.getD 0 0).toNat_lt
  unfold isRune
  rcases Lib.decodeN_shape l.length (l.getD 0 0).toNat (l.getD 1 0).toNat (l.getD 2 0).toNat (l.getD 3 0).toNat with ⟨c, e⟩ | ⟨c1, c2, c3, cv, e⟩ | ⟨c1, c2, c3, c4, cv, cs, e⟩ | ⟨c1, c2, c3, c4, c5, cv, cw, e⟩ | e <;> rw [e] <;> dsimp only <;> omega

theorem decodeN_same {n n' b0 b1 b2 b3 c1 c2 c3 : Nat} (h1 : 1 < n ∧ b1 / 64 = 2 ↔ 1 < n' ∧ c1 / 64 = 2) (e1 : b1 / 64 = 2 → b1 = c1)
    (h2 : 1 < n ∧ b1 / 64 = 2 → (2 < n ∧ b2 / 64 = 2 ↔ 2 < n' ∧ c2 / 64 = 2)) (e2 : 1 < n ∧ b1 / 64 = 2 → 2 < n ∧ b2 / 64 = 2 → b2 = c2)
    (h3 : 1 < n ∧ b1 / 64 = 2 → 2 < n ∧ b2 / 64 = 2 → (3 < n ∧ b3 / 64 = 2 ↔ 3 < n' ∧ c3 / 64 = 2)) (e3 : 1 < n ∧ b1 / 64 = 2 → 2 < n ∧ b2 / 64 = 2 → 3 < n ∧ b3 / 64 = 2 → b3 = c3) :
    Lib.decodeN n b0 b1 b2 b3 = Lib.decodeN n' b0 c1 c2 c3 := by
  unfold Lib.decodeN
  by_cases k1 : 1 < n ∧ b1 / 64 = 2
  · obtain rfl := e1 k1.2
    by_cases k2 : 2 < n ∧ b2 / 64 = 2
    · obtain rfl := e2 k1 k2
      by_cases k3 : 3 < n ∧ b3 / 64 = 2
      · obtain rfl := e3 k1 k2 k3
        have g1 := h1.1 k1
        have g2 := (h2 k1).1 k2
        have g3 := (h3 k1 k2).1 k3
        simp only [k1, k2, k3, g1, g2, g3]
      · have g1 := h1.1 k1
        have g2 := (h2 k1).1 k2
        have g3 : ¬ (3 < n' ∧ c3 / 64 = 2) := fun g => k3 ((h3 k1 k2).2 g)
        simp only [k1, k2, k3, g1, g2, g3, and_false, if_false]
    · have g1 := h1.1 k1
      have g2 : ¬ (2 < n' ∧ c2 / 64 = 2) := fun g => k2 ((h2 k1).2 g)
      simp only [k1, k2, g1, g2, and_false, false_and, if_false]
  · have g1 : ¬ (1 < n' ∧ c1 / 64 = 2) := fun g => k1 (h1.2 g)
    simp only [k1, g1, and_false, false_and, if_false]

/-- The decoder looks no further than a byte below 128. -/
theorem decR_stop {l t t' : List UInt8} {a : UInt8} (hl : l ≠ []) (ha : a.toNat < 128) : decR (l ++ a :: t) = decR (l ++ a :: t') := by
  rw [decR_N (by simp), decR_N (by simp)]
  match l, hl with
  | [x0], _ =>
    simp only [List.cons_append, List.nil_append, List.length_cons, List.getD_cons_zero, List.getD_cons_succ]
    exact decodeN_same (by omega) (by omega) (by omega) (by omega) (by omega) (by omega)
  | [x0, x1], _ =>
    simp only [List.cons_append, List.nil_append, List.length_cons, List.getD_cons_zero, List.getD_cons_succ]
    exact decodeN_same (by omega) (by omega) (by omega) (by omega) (by omega) (by omega)
  | [x0, x1, x2], _ =>
    simp only [List.cons_append, List.nil_append, List.length_cons, List.getD_cons_zero, List.getD_cons_succ]
    exact decodeN_same (by omega) (by omega) (by omega) (by omega) (by omega) (by omega)
  | x0 :: x1 :: x2 :: x3 :: l, _ =>
    simp only [List.cons_append, List.nil_append, List.length_cons, List.getD_cons_zero, List.getD_cons_succ, List.length_append]
    exact decodeN_same (by omega) (by omega) (by omega) (by omega) (by omega) (by omega)
/-- .. and what it takes ends ahead of it. -/
theorem decR_short {l t : List UInt8} {a : UInt8} (hl : l ≠ []) (ha : a.toNat < 128) : (decR (l ++ a :: t)).2 ≤ l.length := by
  rw [decR_stop (t' := []) hl ha, decR_N (by simp)]
  match l, hl with
  | [x0], _ =>
    simp only [List.cons_append, List.nil_append, List.length_cons, List.getD_cons_zero, List.getD_cons_succ]
    unfold Lib.decodeN
    split
    · simp
    · rw [if_neg (by omega), if_neg (by omega), if_neg (by omega)]; simp
  | [x0, x1], _ =>
    simp only [List.cons_append, List.nil_append, List.length_cons, List.getD_cons_zero, List.getD_cons_succ]
    unfold Lib.decodeN
    split
    · simp
    · split
      · split <;> simp
      · rw [if_neg (by omega), if_neg (by omega)]; simp
  | [x0, x1, x2], _ =>
    simp only [List.cons_append, List.nil_append, List.length_cons, List.getD_cons_zero, List.getD_cons_succ]
    unfold Lib.decodeN
    split
    · simp
    · split
      · split <;> simp
      · split
        · split <;> simp
        · rw [if_neg (by omega)]; simp
  | x0 :: x1 :: x2 :: x3 :: l, _ =>
    have := decR_le4 ((x0 :: x1 :: x2 :: x3 :: l) ++ [a])
    rw [decR_N (by simp)] at this
    simp only [List.length_cons]
    omega
end Go.Proofs.YtkjopcbleefioaaGreatDoor
