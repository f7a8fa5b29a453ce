/- A replacer of single bytes: (*byteStringReplacer).Replace. -/
import Derived.Test.YtkjopcbleefioaaGreatDoorB1
import Derived.Deep.DeepCutAuto
import Derived.Deep.RegionLaw
import Derived.Laws.CopyOwn
import Derived.Laws.OwnMore
import Derived.Laws.BytesArg
import Derived.IntWalk
import Derived.Lib.SlBytesRow
namespace Go.Proofs.YtkjopcbleefioaaGreatDoor
open Go Go.RowKit
set_option linter.unusedSimpArgs false
set_option linter.unusedVariables false

/-- What a byte is written as, if not as itself. -/
def repl (c : Nat) : Option (List UInt8) :=
  if c = 38 then some [38, 97, 109, 112, 59] else if c = 60 then some [38, 108, 116, 59] else if c = 62 then some [38, 103, 116, 59] else if c = 34 then some [38, 113, 117, 111, 116, 59] else if c = 13 then some [38, 35, 49, 51, 59] else none
def olds : List UInt8 := [13, 34, 62, 60, 38]
def escB (c : UInt8) : List UInt8 := (repl c.toNat).getD [c]
def escS (l : List UInt8) : List UInt8 := l.flatMap escB
theorem repl_some {c : Nat} {l : List UInt8} (h : repl c = some l) : 4 ≤ l.length ∧ l.length ≤ 6 ∧ c < 256 := by
  unfold repl at h
  split at h
  · injection h with h; subst h; subst_vars; decide
  split at h
  · injection h with h; subst h; subst_vars; decide
  split at h
  · injection h with h; subst h; subst_vars; decide
  split at h
  · injection h with h; subst h; subst_vars; decide
  split at h
  · injection h with h; subst h; subst_vars; decide
  · cases h
theorem escS_cons (c : UInt8) (l : List UInt8) : escS (c :: l) = escB c ++ escS l := by unfold escS; rw [List.flatMap_cons]
theorem escS_append (l m : List UInt8) : escS (l ++ m) = escS l ++ escS m := by unfold escS; rw [List.flatMap_append]
theorem escB_len (c : UInt8) : 1 ≤ (escB c).length ∧ (escB c).length ≤ 6 := by
  unfold escB
  cases h : repl c.toNat with
  | none => simp
  | some l => have := repl_some h; simp; omega
theorem escS_len_ge : ∀ l : List UInt8, l.length ≤ (escS l).length ∧ (escS l).length ≤ 6 * l.length
  | [] => by simp [escS]
  | c :: l => by
    have := escS_len_ge l
    have h := escB_len c
    rw [escS_cons, List.length_append, List.length_cons]; omega
theorem escS_none : ∀ {l : List UInt8}, l.any (fun c => (repl c.toNat).isSome) = false → escS l = l
  | [], _ => rfl
  | c :: l, h => by
    rw [List.any_cons, Bool.or_eq_false_iff] at h
    have h1 : escB c = [c] := by
      unfold escB
      cases hr : repl c.toNat with
      | none => rfl
      | some x => rw [hr] at h; exact absurd h.1 (by simp)
    rw [escS_cons, escS_none h.2, h1]; rfl
/-- How many bytes more. -/
def moreN (o : UInt8) : Nat := (escB o).length - 1
def partN (l os : List UInt8) : Nat := (os.map fun o => Lib.countByte l o * moreN o).sum
theorem partN_nil (os : List UInt8) : partN [] os = 0 := by
  unfold partN Lib.countByte
  induction os with
  | nil => rfl
  | cons o os ih => simp at ih ⊢; exact ih
theorem partN_cons (c : UInt8) (l : List UInt8) : ∀ os : List UInt8, os.Nodup → partN (c :: l) os = partN l os + if c ∈ os then moreN c else 0
  | [], _ => by simp [partN]
  | o :: os, h => by
    rw [List.nodup_cons] at h
    have ih := partN_cons c l os h.2
    have e : ∀ l, partN l (o :: os) = Lib.countByte l o * moreN o + partN l os := fun l => by unfold partN; simp
    rw [e, e, ih]
    unfold Lib.countByte
    rw [List.count_cons]
    by_cases hc : c = o
    · subst hc
      rw [if_neg h.1]
      simp [Nat.add_mul]
      omega
    · have : (c == o) = false := by simpa using hc
      rw [this]
      simp [hc]
      omega
theorem olds_iff (c : UInt8) : c ∈ olds ↔ (repl c.toNat).isSome = true := by
  unfold olds repl
  simp only [List.mem_cons, List.not_mem_nil, or_false]
  have e : ∀ n : UInt8, c = n ↔ c.toNat = n.toNat := fun n => UInt8.toNat_inj.symm
  rw [e 13, e 34, e 62, e 60, e 38]
  show c.toNat = 13 ∨ c.toNat = 34 ∨ c.toNat = 62 ∨ c.toNat = 60 ∨ c.toNat = 38 ↔ _
  constructor
  · rintro (h | h | h | h | h) <;> rw [h] <;> decide
  · intro h
    split at h; omega
    split at h; omega
    split at h; omega
    split at h; omega
    split at h; omega
    cases h
theorem escS_len : ∀ l : List UInt8, (escS l).length = l.length + partN l olds
  | [] => by rw [partN_nil]; rfl
  | c :: l => by
    have ih := escS_len l
    rw [escS_cons, List.length_append, List.length_cons, partN_cons c l olds (by decide), ih]
    have h1 := escB_len c
    by_cases hc : c ∈ olds
    · rw [if_pos hc]; unfold moreN; omega
    · rw [if_neg hc]
      have : escB c = [c] := by
        have hn : ¬ (repl c.toNat).isSome = true := fun h => hc ((olds_iff c).2 h)
        unfold escB
        cases hr : repl c.toNat with
        | none => rfl
        | some x => rw [hr] at hn; exact absurd rfl hn
      rw [this]; simp; omega
theorem any_olds (l : List UInt8) : (olds.any fun o => decide (Lib.countByte l o ≠ 0)) = l.any (fun c => (repl c.toNat).isSome) := by
  rw [Bool.eq_iff_iff, List.any_eq_true, List.any_eq_true]
  constructor
  · rintro ⟨o, ho, h⟩
    have h : Lib.countByte l o ≠ 0 := by simpa using h
    unfold Lib.countByte at h
    exact ⟨o, List.count_pos_iff.1 (by omega), (olds_iff o).1 ho⟩
  · rintro ⟨c, hc, h⟩
    refine ⟨c, (olds_iff c).2 h, ?_⟩
    unfold Lib.countByte
    have := List.count_pos_iff.2 hc
    simp; omega

theorem mul_le_five {a b : Nat} (ha : a ≤ 2097152) (hb : b ≤ 5) : a * b ≤ 10485760 := by
  have h : b = 0 ∨ b = 1 ∨ b = 2 ∨ b = 3 ∨ b = 4 ∨ b = 5 := by omega
  rcases h with rfl | rfl | rfl | rfl | rfl | rfl <;> omega
def bndA (j : Nat) : Nat := 2097152 + j * 10485760
theorem bndA_0 {m : Nat} (h : m ≤ 2097152) : m ≤ bndA 0 := by unfold bndA; omega
theorem bndA_le {j m : Nat} (hj : j ≤ 5) (h : m ≤ bndA j) : m ≤ 60000000 := by unfold bndA at h; omega
theorem bndA_on {j m p : Nat} (h : m ≤ bndA j) (hp : p ≤ 10485760) : m + p ≤ bndA (j + 1) := by unfold bndA at h ⊢; omega
/-- Bytes in a row. -/
def Row (w : World) (g : Nat) (l : List UInt8) : Prop := ∀ j u, l[j]? = some u → w.cell? ⟨g, j, none⟩ = some (.int .u8 u.toNat)
/-- The table of a replacer, in blocks of F. -/
def TabB (w : World) (F : Nat → Prop) (B : Nat) : Prop :=
  F B ∧ ∃ cs, Blk w B cs 150 ∧ cs.length = 257 ∧ (∀ c, c < 256 → repl c = none → cs[c]? = some (.slice none 0 0)) ∧
    (∀ c l, repl c = some l → ∃ g cap, cs[c]? = some (.slice (some ⟨g, 0, none⟩) l.length cap) ∧ F g ∧ Row w g l) ∧
    ∃ h cap, cs[256]? = some (.slice (some ⟨h, 0, none⟩) 5 cap) ∧ F h ∧ ∀ j u, olds[j]? = some u → w.cell? ⟨h, j, none⟩ = some (.string ⟨#[u]⟩)
theorem TabB.keep {w w' : World} {F : Nat → Prop} {B : Nat} {D : Nat → Prop} (h : TabB w F B) (k : Keeps D w w') (hD : ∀ b, F b → ¬ D b) : TabB w' F B := by
  obtain ⟨hB, cs, h1, h2, h3, h4, g, cap, h5, h6, h7⟩ := h
  have cell : ∀ {b o : Nat} {v : Value}, F b → w.cell? ⟨b, o, none⟩ = some v → w'.cell? ⟨b, o, none⟩ = some v := fun {b o v} hb hc => by
    have hlt : b < w.heap.size := by
      rcases Nat.lt_or_ge b w.heap.size with h' | h'
      · exact h'
      · simp [World.cell?, Array.getElem?_eq_none h'] at hc
    exact (World.cell?_of_block (a := ⟨b, o, none⟩) (k.block b hlt (hD b hb))).trans hc
  refine ⟨hB, cs, k.blk h1 (hD B hB), h2, h3, ?_, g, cap, h5, h6, fun j u hu => cell h6 (h7 j u hu)⟩
  intro c l hc
  obtain ⟨g, cap, e1, e2, e3⟩ := h4 c l hc
  exact ⟨g, cap, e1, e2, fun j u hu => cell e2 (e3 j u hu)⟩

theorem Keeps.below' {B : Nat} {D : Nat → Prop} {w w' : World} (h : Keeps D w w') (hD : ∀ k, k < B → D k → False) (hB : B ≤ w.heap.size := by exact Nat.le_refl _) : Below B w w' :=
  ⟨h.os, h.tape, h.output, h.size, fun k hk => h.block k (by omega) (fun hd => hD k hk hd)⟩
set_option maxHeartbeats 16000000 in
set_option maxRecDepth 100000 in
theorem replaceB_any (B : Nat) (F : Nat → Prop) (s : ByteArray) (w : World) (hT : TabB w F B) (hs : s.size ≤ 2097152) :
    Calls Tryz.prog 184 #[.pointer (some ⟨B, 0, none⟩), .string s] w fun e w' => e = .returned (.string (sb (escS (bs s)))) ∧ Below w.heap.size w w' := by
  obtain ⟨hFB, cs, hB, hcl, hno, hyes, h, cap5, hc256, hFh, hold⟩ := hT
  obtain ⟨l, hl⟩ : ∃ l, bs s = l := ⟨_, rfl⟩
  have hll : l.length = s.size := by rw [← hl, bs_length]
  obtain ⟨X, hX⟩ : ∃ X, sb (escS l) = X := ⟨_, rfl⟩
  rw [hl, hX]
  have c256 : w.cell? ⟨B, 256, none⟩ = some (.slice (some ⟨h, 0, none⟩) 5 cap5) := (hB.cell 256).trans hc256
  have HX := Lib.hid hX; have Hl := Lib.hid hl; have Hll := Lib.hid hll; have HB := Lib.hid hB; have Hno := Lib.hid hno; have Hyes := Lib.hid hyes; have Hold := Lib.hid hold
  clear hX hl hll hB hno hyes hold hFB hFh hc256
  obtain ⟨d, hd⟩ : ∃ d, decide ((40 : Int) ≤ (s.size : Int)) = d := ⟨_, rfl⟩
  go_enter Tryz.func184, Tryz.ntmps184
  go_upto_if 26 with (fail)
  go_cut [5, 6] (fun s5 s6 wx => ∃ (mm : Int) (aa : Bool), s5 = .int .i64 mm ∧ s6 = .bool aa ∧ Hid (mm = (escS l).length) ∧ Hid (aa = l.any (fun c => (repl c.toNat).isSome)) ∧ Hid (Keeps (fun _ => False) w wx))
  case first =>
    clear hd
    cases d with
    | true =>
      go_wp2_with fail
      go_loopg [32, 5, 6] 5 (fun gk i s5 s6 wr => ∃ (j mm : Nat) (aa : Bool), i = .int .i64 j ∧ j + gk = 5 ∧ s5 = .int .i64 mm ∧ s6 = .bool aa ∧ Hid (mm ≤ bndA j) ∧ Hid (mm = l.length + partN l (olds.take j)) ∧ Hid (aa = (olds.take j).any (fun o => decide (Lib.countByte l o ≠ 0))) ∧ Hid (Keeps (fun _ => False) w wr))
      case atStart => exact ⟨0, s.size, false, rfl, by omega, rfl, rfl, bndA_0 hs, (show _ = _ by rw [Hll.out]; rfl), (show _ = _ from rfl), Keeps.refl _ _⟩
      case round =>
        obtain ⟨j, mm, aa, rfl, hj, rfl, rfl, Hmb, Hmm, Haa, HKr⟩ := hrel
        have hmb : mm ≤ 60000000 := bndA_le (by omega) Hmb.out
        by_cases hj5 : j < 5
        · obtain ⟨o, ho⟩ : ∃ o, olds[j]? = some o := ⟨olds[j]'hj5, List.getElem?_eq_getElem hj5⟩
          have hcellw := Hold.out j o ho
          have hcell : wr.cell? ⟨h, j, none⟩ = some (.string ⟨#[o]⟩) := (World.cell?_of_block (HKr.out.block h (by
            rcases Nat.lt_or_ge h w.heap.size with h' | h'
            · exact h'
            · simp [World.cell?, Array.getElem?_eq_none h'] at hcellw) (fun h => h))).trans hcellw
          have hji : (j : Int) < 5 := by omega
          have hcnt := fun W => Tryz.strings_Count_one s o W
          rw [show s.data.toList = l from Hl.out] at hcnt
          obtain ⟨q, hq⟩ : ∃ q, Lib.countByte l o = q := ⟨_, rfl⟩
          rw [hq] at hcnt
          have hql : q ≤ s.size := by rw [← hq, ← Hll.out]; exact List.count_le_length
          have hro := (olds_iff o).1 (List.mem_of_getElem? ho)
          obtain ⟨ro, hro⟩ := Option.isSome_iff_exists.1 hro
          obtain ⟨rg, rcap, hcs, _, _⟩ := Hyes.out _ _ hro
          have hBr : wr.cell? ⟨B, o.toNat, none⟩ = some (.slice (some ⟨rg, 0, none⟩) ro.length rcap) := ((HKr.out.blk HB.out (fun h => h)).cell _).trans hcs
          have hrl := repl_some hro
          have hmo : moreN o = ro.length - 1 := by unfold moreN escB; rw [hro]; rfl
          obtain ⟨xs, hxs⟩ : ∃ xs : ByteArray, (⟨#[o]⟩ : ByteArray) = xs := ⟨_, rfl⟩
          have hx1 : 0 < xs.size := by rw [← hxs]; exact Nat.one_pos
          have hx1' : (0 : Int) < (xs.size : Int) := by omega
          have hx0 : xs[0] = o := by subst hxs; rfl
          rw [← hx0] at hBr
          have hx256 : (xs[0].toNat : Int) < 256 := by have := xs[0].toNat_lt; omega
          have hx256n : xs[0].toNat < 256 := xs[0].toNat_lt
          rw [hxs] at hcell hcnt
          clear hxs hx0
          obtain ⟨rn, hrn⟩ : ∃ rn, ro.length = rn := ⟨_, rfl⟩
          rw [hrn] at hBr hrl hmo
          have htk : olds.take (j + 1) = olds.take j ++ [o] := by rw [List.take_add_one, ho]; rfl
          have Hpart := Lib.hid (show partN l (olds.take (j + 1)) = partN l (olds.take j) + q * (rn - 1) by rw [htk]; unfold partN; rw [List.map_append, List.sum_append]; simp [hq, hmo])
          have Hany := Lib.hid (show (olds.take (j + 1)).any (fun o => decide (Lib.countByte l o ≠ 0)) = ((olds.take j).any (fun o => decide (Lib.countByte l o ≠ 0)) || decide (q ≠ 0)) by rw [htk, List.any_append]; simp [hq])
          have HCnt := Lib.hid hcnt; have Hq := Lib.hid hq
          clear hcnt hq ho hcellw hro hcs hmo hrn htk
          by_cases hq0 : q = 0
          · have hq0' : ((q : Int) != 0) = false := by subst hq0; rfl
            go_wp2_with (go_at_call 186; refine (HCnt.out _).mono ?_; rintro e w' ⟨rfl, rfl⟩)
            go_roundg (5 - (j + 1))
            case measure => omega
            case rel => exact ⟨j + 1, mm, aa, by go_num, by omega, rfl, rfl, (show _ ≤ _ from bndA_on (p := 0) Hmb.out (by omega)), (show _ = _ by rw [Hmm.out, Hpart.out, hq0]; omega), (show _ = _ by rw [Haa.out, Hany.out, hq0]; simp), HKr.out⟩
          · have hq0' : ((q : Int) != 0) = true := by rw [bne_iff_ne]; omega
            obtain ⟨rm, hrm⟩ : ∃ rm, rn - 1 = rm := ⟨_, rfl⟩
            obtain ⟨p, hp⟩ : ∃ p, q * rm = p := ⟨_, rfl⟩
            have hpb : p ≤ 10485760 := by rw [← hp]; exact mul_le_five (by omega) (by omega)
            have hmulI : (q : Int) * (rm : Int) = (p : Int) := by rw [← hp]; exact (Int.natCast_mul q rm).symm
            have z1 : IntKind.i64.wrap ((rn : Int) - 1) = (rm : Int) := by rw [IntWalk.i64_in _ (by omega)]; omega
            have z2 : IntKind.i64.wrap ((q : Int) * (rm : Int)) = (p : Int) := by rw [hmulI, IntWalk.i64_in _ (by omega)]
            have z3 : IntKind.i64.wrap ((mm : Int) + (p : Int)) = (mm : Int) + (p : Int) := by rw [IntWalk.i64_in _ (by omega)]
            have Hrm := Lib.hid hrm; have Hp := Lib.hid hp
            clear hmulI hrm hp
            go_wp2_with (go_at_call 186; refine (HCnt.out _).mono ?_; rintro e w' ⟨rfl, rfl⟩)
            go_quiet (fail)
            clear z1 z2 z3
            have HK2 := Lib.hid (HKr.out.drewN nq)
            go_wp2_with fail
            go_roundg (5 - (j + 1))
            case measure => omega
            case rel => exact ⟨j + 1, mm + p, true, by go_num, by omega, by go_num, rfl, (show _ ≤ _ from bndA_on Hmb.out hpb), (show _ = _ by rw [Hmm.out, Hpart.out, Hrm.out, Hp.out]; omega), (show _ = _ by rw [Hany.out, decide_eq_true hq0]; simp), HK2.out⟩
        · have hji : ¬ ((j : Int) < 5) := by omega
          go_wp2_with fail
          go_meet
          have hj5' : j = 5 := by omega
          subst hj5'
          refine ⟨mm, aa, rfl, rfl, ?_, ?_, HKr.out⟩
          · show _ = _
            rw [Hmm.out, escS_len]; rfl
          · show _ = _
            rw [Haa.out, ← any_olds]; rfl
    | false =>
      go_wp2_with fail
      go_loopg [10, 5, 6] s.size (fun gk i s5 s6 wr => ∃ (j mm : Nat) (aa : Bool), i = .int .i64 j ∧ j + gk = s.size ∧ s5 = .int .i64 mm ∧ s6 = .bool aa ∧ mm ≤ 2097152 + j * 5 ∧ Hid (mm + j = (escS (l.take j)).length + s.size) ∧ Hid (aa = (l.take j).any (fun c => (repl c.toNat).isSome)) ∧ Hid (Keeps (fun _ => False) w wr))
      case atStart => exact ⟨0, s.size, false, rfl, by omega, rfl, rfl, by omega, (show _ = _ by rw [List.take_zero]; simp [escS]), (show _ = _ by rw [List.take_zero]; rfl), Keeps.refl _ _⟩
      case round =>
        obtain ⟨j, mm, aa, rfl, hj, rfl, rfl, hmb, Hmm, Haa, HKr⟩ := hrel
        by_cases hjn : j < s.size
        · have hji : (j : Int) < (s.size : Int) := by omega
          have hjg : l[j]? = some s[j] := by rw [← Hl.out]; exact bs_get s j hjn
          have htk : l.take (j + 1) = l.take j ++ [s[j]] := by rw [List.take_add_one, hjg]; rfl
          have Hlen := Lib.hid (show (escS (l.take (j + 1))).length = (escS (l.take j)).length + (escB s[j]).length by rw [htk, escS_append, List.length_append]; simp [escS])
          have Hany := Lib.hid (show (l.take (j + 1)).any (fun c => (repl c.toNat).isSome) = ((l.take j).any (fun c => (repl c.toNat).isSome) || (repl s[j].toNat).isSome) by rw [htk, List.any_append]; simp)
          have hx256 : (s[j].toNat : Int) < 256 := by have := s[j].toNat_lt; omega
          have hx256n : s[j].toNat < 256 := s[j].toNat_lt
          clear hjg htk
          cases hr : repl s[j].toNat with
          | none =>
            have hBr : wr.cell? ⟨B, s[j].toNat, none⟩ = some (.slice none 0 0) := ((HKr.out.blk HB.out (fun h => h)).cell _).trans (Hno.out _ hx256n hr)
            have Hr := Lib.hid hr
            have Hb := Lib.hid (show (escB s[j]).length = 1 by unfold escB; rw [Hr.out]; rfl)
            have hnn := fun W => run_neq_slice_nil_any (P := Tryz.prog) W 51 5 none 0 0 0 0 Tryz.underlying51
            clear hr
            go_wp2_with fail
            go_roundg (s.size - (j + 1))
            case measure => omega
            case rel => exact ⟨j + 1, mm, aa, by go_num, by omega, rfl, rfl, by omega, (show _ = _ by have := Hmm.out; rw [Hlen.out, Hb.out]; omega), (show _ = _ by rw [Haa.out, Hany.out, Hr.out]; simp), HKr.out⟩
          | some ro =>
            obtain ⟨rg, rcap, hcs, _, _⟩ := Hyes.out _ _ hr
            have hBr : wr.cell? ⟨B, s[j].toNat, none⟩ = some (.slice (some ⟨rg, 0, none⟩) ro.length rcap) := ((HKr.out.blk HB.out (fun h => h)).cell _).trans hcs
            have hrl := repl_some hr
            obtain ⟨rn, hrn⟩ : ∃ rn, ro.length = rn := ⟨_, rfl⟩
            rw [hrn] at hBr hrl
            have Hr := Lib.hid hr
            have Hb := Lib.hid (show (escB s[j]).length = rn by unfold escB; rw [Hr.out, ← hrn]; rfl)
            have hnn := fun W => run_neq_slice_nil_any (P := Tryz.prog) W 51 5 (some ⟨rg, 0, none⟩) rn rcap 0 0 Tryz.underlying51
            have z1 : IntKind.i64.wrap ((rn : Int) - 1) = ((rn - 1 : Nat) : Int) := by rw [IntWalk.i64_in _ (by omega)]; omega
            have z3 : IntKind.i64.wrap ((mm : Int) + ((rn - 1 : Nat) : Int)) = ((mm + (rn - 1) : Nat) : Int) := by rw [IntWalk.i64_in _ (by omega)]; omega
            clear hr hcs hrn
            go_wp2_with fail
            go_roundg (s.size - (j + 1))
            case measure => omega
            case rel => exact ⟨j + 1, mm + (rn - 1), true, by go_num, by omega, by go_num, rfl, by omega, (show _ = _ by have := Hmm.out; rw [Hlen.out, Hb.out]; omega), (show _ = _ by rw [Hany.out, Hr.out]; simp), HKr.out⟩
        · have hji : ¬ ((j : Int) < (s.size : Int)) := by omega
          go_wp2_with fail
          go_meet
          have htk : l.take j = l := List.take_of_length_le (by have := Hll.out; omega)
          refine ⟨mm, aa, rfl, rfl, ?_, ?_, HKr.out⟩
          · show _ = _
            have := Hmm.out
            rw [htk] at this
            omega
          · show _ = _
            rw [Haa.out, htk]
  case rest =>
    obtain ⟨mm, aa, rfl, rfl, Hm, Ha, HKc⟩ := hcut
    clear hd
    obtain ⟨m, hm⟩ : ∃ m, (escS l).length = m := ⟨_, rfl⟩
    obtain rfl : mm = (m : Int) := by rw [Hm.out, hm]
    have hml := escS_len_ge l
    rw [hm, Hll.out] at hml
    have HM := Lib.hid hm
    clear Hm hm Hold hcl c256
    cases aa with
    | false =>
      go_wp2_with fail
      go_ret
      have he : X = s := by
        rw [← HX.out, escS_none Ha.out.symm, ← Hl.out, sb_bs]
      rw [he]
      exact ⟨rfl, HKc.out.below' (fun _ _ h => h)⟩
    | true =>
      have hmk : ∀ W : World, (Instr.makeSlice 51 (.int .i64 (m : Int)) (.int .i64 (m : Int))).run Tryz.prog W = .ok (.slice (some ⟨W.heap.size, 0, none⟩) m m) (W.alloc (.cells (List.replicate m (Value.int .u8 0)).toArray 5)) := fun W => by
        obtain ⟨i0, hi, hz0, hz1, hz2⟩ := info_parts infoByte
        have h := run_make (P := Tryz.prog) W 51 5 i0 (.int .u8 0) Tryz.underlying51 hi hz0 .i64 .i64 (m : Int) (m : Int) (by omega) (Int.le_refl _) (by rw [hz2]; omega) (by omega)
        have hmc : madeCells #[Value.int .u8 0] (m * 1) = (List.replicate m (Value.int .u8 0)).toArray := by apply Array.ext <;> simp [madeCells, Nat.mod_one]
        rw [hz1, Int.toNat_natCast] at h
        rw [← hmc]
        exact h
      obtain ⟨G, hG⟩ : ∃ G, wc.heap.size = G := ⟨_, rfl⟩
      have HGz := Lib.hid hG
      have hB0 : Hid ((wc.alloc (.cells (List.replicate m (Value.int .u8 0)).toArray 5)).heap[G]? = some (.cells (u8s (escS (l.take 0)) ++ List.replicate (m - (escS (l.take 0)).length) (Value.int .u8 0)).toArray 5 (0, 0))) := by
        show _ = _
        rw [← hG, List.take_zero]
        exact heap_alloc_new wc _
      have hK0 : Hid (Below w.heap.size w (wc.alloc (.cells (List.replicate m (Value.int .u8 0)).toArray 5))) := (HKc.out.below' (fun _ _ h => h)).alloc (HKc.out.size) _
      have hGw : w.heap.size ≤ G := by have := HKc.out.size; omega
      go_wp2_with fail
      clear hmk hG
      go_loopg [13, 14] s.size (fun gk s13 s14 wr => ∃ (i : Nat), i + gk = s.size ∧ s14 = .int .i64 i ∧ s13 = .int .i64 (escS (l.take i)).length ∧ Hid (wr.heap[G]? = some (.cells (u8s (escS (l.take i)) ++ List.replicate (m - (escS (l.take i)).length) (Value.int .u8 0)).toArray 5 (0, 0))) ∧ Hid (Below w.heap.size w wr))
      case atStart => exact ⟨0, by omega, rfl, rfl, hB0.out, hK0.out⟩
      case round =>
        clear hB0 hK0 HKc Ha
        obtain ⟨i, hi, rfl, rfl, HBf, HKr⟩ := hrel
        by_cases hin : i < s.size
        · have hii : (i : Int) < (s.size : Int) := by omega
          have hjg : l[i]? = some s[i] := by rw [← Hl.out]; exact bs_get s i hin
          have htk : l.take (i + 1) = l.take i ++ [s[i]] := by rw [List.take_add_one, hjg]; rfl
          have hes : escS (l.take (i + 1)) = escS (l.take i) ++ escB s[i] := by rw [htk, escS_append]; simp [escS]
          have hle : (escS (l.take (i + 1))).length ≤ m := by
            rw [← HM.out]
            conv => rhs; rw [← List.take_append_drop (i + 1) l, escS_append, List.length_append]
            omega
          have hel := congrArg List.length hes
          rw [List.length_append] at hel
          obtain ⟨E, hE⟩ : ∃ E, escS (l.take i) = E := ⟨_, rfl⟩
          rw [hE] at hes hel HBf ⊢
          obtain ⟨k, hk⟩ : ∃ k, E.length = k := ⟨_, rfl⟩
          rw [hk] at hel HBf ⊢
          have hx256 : (s[i].toNat : Int) < 256 := by have := s[i].toNat_lt; omega
          have hx256n : s[i].toNat < 256 := s[i].toNat_lt
          have HEs := Lib.hid hes; have Hk := Lib.hid hk
          have hBr0 := (HKr.out.cell (p := ⟨B, s[i].toNat, none⟩) HB.out.lt).trans (HB.out.cell s[i].toNat)
          clear hjg htk hes hk hE
          cases hr : repl s[i].toNat with
          | none =>
            have hBr : wr.cell? ⟨B, s[i].toNat, none⟩ = some (.slice none 0 0) := hBr0.trans (Hno.out _ hx256n hr)
            have hb1 : escB s[i] = [s[i]] := by unfold escB; rw [hr]; rfl
            rw [hb1] at hel HEs
            have hkm : k < m := by simp at hel; omega
            have hkmI : (k : Int) < (m : Int) := by omega
            have Hel := Lib.hid hel
            have hnn := fun W => run_neq_slice_nil_any (P := Tryz.prog) W 51 5 none 0 0 0 0 Tryz.underlying51
            have hcG : wr.cell? ⟨G, k, none⟩ = some (.int .u8 0) := by
              rw [cell_of_row wr G k _ 5 (0, 0) HBf.out]
              simp [List.getElem?_append_right, u8s_length, Hk.out, List.getElem?_replicate]
              omega
            have hfG : wr.frozen? ⟨G, k, none⟩ = false := by have h' := HBf.out; simp [World.frozen?, h']
            have hGl : G < wr.heap.size := (Array.getElem?_eq_some_iff.1 HBf.out).1
            clear hr hel hBr0 hb1
            go_wp2_with fail
            go_roundg (s.size - (i + 1))
            case measure => omega
            case rel =>
              refine ⟨i + 1, by omega, by go_num, ?_, ?_, HKr.out.setCell hGw _⟩
              · rw [HEs.out, List.length_append, Hk.out]; simp
              · show _ = _
                rw [HEs.out, List.length_append, Hk.out]
                have hset : (u8s E ++ List.replicate (m - k) (Value.int .u8 0)).set k (.int .u8 s[i].toNat) = u8s (E ++ [s[i]]) ++ List.replicate (m - (k + [s[i]].length)) (Value.int .u8 0) := by
                  rw [List.set_append_right _ _ (by rw [u8s_length, Hk.out]; exact Nat.le_refl _), u8s_length, Hk.out, Nat.sub_self, show m - k = (m - (k + 1)) + 1 by omega, List.replicate_succ, List.set_cons_zero, u8s_append]
                  simp [u8s]
                rw [← hset]
                exact Blk.set (show Blk wr G _ 5 from HBf.out) k _
          | some ro =>
            obtain ⟨rg, rcap, hcs, _, hrow⟩ := Hyes.out _ _ hr
            have hBr := hBr0.trans hcs
            have hrl := repl_some hr
            have hb1 : escB s[i] = ro := by unfold escB; rw [hr]; rfl
            rw [hb1] at hel HEs
            obtain ⟨rn, hrn⟩ : ∃ rn, ro.length = rn := ⟨_, rfl⟩
            rw [hrn] at hBr hrl hel
            have hkm : k + rn ≤ m := by omega
            have hkmI : (k : Int) ≤ (m : Int) := by omega
            have hmk : ¬ m = k := by omega
            have hnn := fun W => run_neq_slice_nil_any (P := Tryz.prog) W 51 5 (some ⟨rg, 0, none⟩) rn rcap 0 0 Tryz.underlying51
            have hsz : (Tryz.prog.info? 5).map (·.size) = some 1 := by kernel_rfl
            have hrowr : ∀ j v, (u8s ro)[j]? = some v → wr.cell? ⟨rg, j, none⟩ = some v := by
              intro j v hv
              unfold u8s at hv
              rw [List.getElem?_map] at hv
              cases hj : ro[j]? with
              | none => rw [hj] at hv; cases hv
              | some x =>
                rw [hj] at hv
                injection hv with hv
                have hc := hrow j x hj
                exact ((HKr.out.cell (p := ⟨rg, j, none⟩) (by
                  rcases Nat.lt_or_ge rg w.heap.size with h' | h'
                  · exact h'
                  · simp [World.cell?, Array.getElem?_eq_none h'] at hc)).trans hc).trans (by rw [← hv])
            have z3 : IntKind.i64.wrap ((k : Int) + (rn : Int)) = ((k + rn : Nat) : Int) := by rw [IntWalk.i64_in _ (by omega)]; omega
            have Hrow := Lib.hid hrowr; have Hrn := Lib.hid hrn; have Hel := Lib.hid hel; have Hsz := Lib.hid hsz
            have Hcl := Lib.hid (show (u8s ro).length = rn by rw [u8s_length]; exact hrn)
            have Hcur := Lib.hid (show (u8s E ++ List.replicate (m - k) (Value.int .u8 0)).length = m by rw [List.length_append, u8s_length, Hk.out, List.length_replicate]; omega)
            have Hsrc := Lib.hid (show ∀ j v, (u8s ro)[j]? = some v → wr.cell? ((⟨rg, 0, none⟩ : Addr).add j) = some v by
              intro j v hv
              have := hrowr j v hv
              cases j with
              | zero => exact this
              | succ j => unfold Addr.add; simpa using this)
            clear hr hel hBr0 hb1 hrow hcs hrowr hrn hsz
            go_wp2_with fail
            go_region_law (refine step_copy_splice rfl (.tmp 105) (.tmp 111) 51 51 rfl 5 Tryz.underlying51 Hsz.out (some ⟨G, k, none⟩) (some ⟨rg, 0, none⟩) (m - k) (m - k) rn rcap (by simp [Act.eval, Act.put]) (by simp [Act.eval, Act.put]) G k (u8s E ++ List.replicate (m - k) (Value.int .u8 0)) 5 HBf.out (u8s ro) (by rw [Hcl.out]; exact (Nat.min_eq_left (by omega)).symm) (fun _ => ⟨rfl, _, rfl, Hsrc.out⟩) (by rw [Hcl.out, Hcur.out]; omega) (by intro v hv; unfold u8s at hv; obtain ⟨x, _, rfl⟩ := List.mem_map.1 hv; rfl) w.heap.size w HKr.out.drew hGw ?_; intro w2 HB2 hK2; have HK2 := Lib.hid hK2; clear hK2)
            have hclI : ((u8s ro).length : Int) = (rn : Int) := by rw [Hcl.out]
            go_wp2_with fail
            go_roundg (s.size - (i + 1))
            case measure => omega
            case rel =>
              refine ⟨i + 1, by omega, by go_num, ?_, ?_, HK2.out⟩
              · rw [HEs.out, List.length_append, Hk.out, Hrn.out]; simp
              · show _ = _
                rw [HEs.out, List.length_append, Hk.out, Hrn.out]
                have hsp : splice (u8s E ++ List.replicate (m - k) (Value.int .u8 0)) k (u8s ro) = u8s (E ++ ro) ++ List.replicate (m - (k + rn)) (Value.int .u8 0) := by
                  unfold splice
                  rw [Hcl.out, List.take_left' (by rw [u8s_length, Hk.out]), ← List.drop_drop, List.drop_left' (by rw [u8s_length, Hk.out]), List.drop_replicate, u8s_append, List.append_assoc, Nat.sub_sub]
                rw [← hsp]
                exact HB2.out
        · have hii : ¬ ((i : Int) < (s.size : Int)) := by omega
          have htk : l.take i = l := List.take_of_length_le (by have := Hll.out; omega)
          have hbf := HBf.out
          rw [htk, HM.out, Nat.sub_self, List.replicate_zero, List.append_nil] at hbf
          have hXs : X.size = m := by rw [← HX.out, sb_size, HM.out]
          have hcv := Lib.run_convert_whole (P := Tryz.prog) wr 51 5 9 Tryz.underlying51 Tryz.underlying5 Tryz.underlying9 G 0 X (by
            intro j hj
            rw [Nat.zero_add, cell_of_row wr G j _ 5 (0, 0) hbf]
            have hb : (escS l)[j]? = some X[j] := by
              have h1 := bs_get X j hj
              have h2 : bs X = escS l := by rw [← HX.out, bs_sb]
              rw [h2] at h1
              exact h1
            simp [u8s, List.getElem?_map, hb]) m
          rw [hXs] at hcv
          clear hXs hbf htk
          go_wp2_with fail
          go_ret
          exact ⟨rfl, HKr.out⟩
end Go.Proofs.YtkjopcbleefioaaGreatDoor
