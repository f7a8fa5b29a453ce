/- A replacer is built: its table. -/
import Derived.Test.YtkjopcbleefioaaGreatDoorY1
import Derived.Test.YtkjopcbleefioaaGreatDoorY2
import Derived.Test.YtkjopcbleefioaaGreatDoorQ1
import Derived.Outline
import Derived.Lib.SliceRun
namespace Go.Proofs.YtkjopcbleefioaaGreatDoor
open Go Go.RowKit
set_option linter.unusedSimpArgs false
set_option linter.unusedVariables false

/-- What is written as what, in the order in which it was given. -/
def prs : List (UInt8 × List UInt8) := [(38, [38, 97, 109, 112, 59]), (60, [38, 108, 116, 59]), (62, [38, 103, 116, 59]), (34, [38, 113, 117, 111, 116, 59]), (13, [38, 35, 49, 51, 59])]
theorem prs_repl : ∀ {j : Nat} {c : UInt8} {l : List UInt8}, prs[j]? = some (c, l) → repl c.toNat = some l ∧ j < 5
  | 0, c, l, h => by injection h with h; injection h with h1 h2; subst h1; subst h2; decide
  | 1, c, l, h => by injection h with h; injection h with h1 h2; subst h1; subst h2; decide
  | 2, c, l, h => by injection h with h; injection h with h1 h2; subst h1; subst h2; decide
  | 3, c, l, h => by injection h with h; injection h with h1 h2; subst h1; subst h2; decide
  | 4, c, l, h => by injection h with h; injection h with h1 h2; subst h1; subst h2; decide
  | j + 5, c, l, h => by simp [prs] at h

/-- Bytes in a block of bytes. -/
def RowT (w : World) (g : Nat) (l : List UInt8) : Prop := Row w g l ∧ ∃ cs fr, w.heap[g]? = some (.cells cs 5 fr)
theorem RowT.keep {w w' : World} {g : Nat} {l : List UInt8} (h : RowT w g l) (k : w'.heap[g]? = w.heap[g]?) : RowT w' g l := by
  obtain ⟨h1, cs, fr, h2⟩ := h
  exact ⟨fun j u hu => (World.cell?_of_block (a := ⟨g, j, none⟩) k).trans (h1 j u hu), cs, fr, k.trans h2⟩
theorem RowT.lt {w : World} {g : Nat} {l : List UInt8} (h : RowT w g l) : g < w.heap.size := by
  obtain ⟨_, cs, fr, h2⟩ := h
  exact (Array.getElem?_eq_some_iff.1 h2).1
theorem RowT.ne {w : World} {g g' : Nat} {l : List UInt8} {cs : List Value} {T : TypeId} (h : RowT w g l) (hb : Blk w g' cs T) (hT : T ≠ 5) : g ≠ g' := by
  obtain ⟨_, cs', fr, h2⟩ := h
  rintro rfl
  unfold Blk at hb
  rw [h2] at hb; injection hb with hb; injection hb with _ hb _; exact hT hb.symm
theorem RowT.ne_own {w : World} {g base n size : Nat} {l : List UInt8} {v : Value} {xs : List Value} {e : TypeId} (h : RowT w g l) (ho : w.ownsRow base e size v n xs) (hT : e ≠ 5) : v.ownBlock ≠ some g := by
  obtain ⟨_, cs', fr, h2⟩ := h
  intro hg
  obtain ⟨c, hc⟩ : ∃ cs, w.heap[g]? = some (.cells cs e (0, 0)) := by
    rcases ho.2 with ⟨rfl, _⟩ | ⟨g', cap, cur, rfl, _, hg', _⟩
    · simp [Value.ownBlock] at hg
    · simp only [Value.ownBlock, Option.some.injEq] at hg; subst hg; exact ⟨cur, hg'⟩
  rw [h2] at hc; injection hc with hc; injection hc with _ hc _; exact hT hc.symm
/-- The table while it is laid: j of five are in it, the last first. -/
def Tabbing (N j : Nat) (v : Value) (w : World) : Prop :=
  ∃ cs, Blk w (N + 1) cs 150 ∧ cs.length = 257 ∧ cs[256]? = some v ∧ w.ownsRow N 9 1 v j ((olds.take j).map fun c => .string ⟨#[c]⟩) ∧ (∀ c, c < 256 → repl c = none → cs[c]? = some (.slice none 0 0)) ∧
    ∀ i c l, prs[i]? = some (c, l) → (5 ≤ i + j → ∃ g cap, cs[c.toNat]? = some (.slice (some ⟨g, 0, none⟩) l.length cap) ∧ N ≤ g ∧ RowT w g l) ∧ (i + j < 5 → cs[c.toNat]? = some (.slice none 0 0))
theorem prs_olds : ∀ {j : Nat} {c : UInt8} {l : List UInt8}, j < 5 → prs[4 - j]? = some (c, l) → olds[j]? = some c
  | 0, c, l, _, h => by injection h with h; injection h with h1 h2; subst h1; rfl
  | 1, c, l, _, h => by injection h with h; injection h with h1 h2; subst h1; rfl
  | 2, c, l, _, h => by injection h with h; injection h with h1 h2; subst h1; rfl
  | 3, c, l, _, h => by injection h with h; injection h with h1 h2; subst h1; rfl
  | 4, c, l, _, h => by injection h with h; injection h with h1 h2; subst h1; rfl
  | j + 5, c, l, h, _ => by omega
theorem prs_inj : ∀ {i j : Nat} {c : UInt8} {l m : List UInt8}, prs[i]? = some (c, l) → prs[j]? = some (c, m) → i = j := by
  intro i j c l m h1 h2
  have a := (prs_repl h1).2
  have b := (prs_repl h2).2
  have e : ∀ i : Nat, i < 5 → (prs[i]?).map (·.1) = some ([38, 60, 62, 34, 13].getD i 0) := by
    intro i hi
    have : i = 0 ∨ i = 1 ∨ i = 2 ∨ i = 3 ∨ i = 4 := by omega
    rcases this with rfl | rfl | rfl | rfl | rfl <;> rfl
  have e1 := e i a
  have e2 := e j b
  rw [h1] at e1; rw [h2] at e2
  simp only [Option.map_some, Option.some.injEq] at e1 e2
  have e3 : ([38, 60, 62, 34, 13] : List UInt8).getD i 0 = ([38, 60, 62, 34, 13] : List UInt8).getD j 0 := by rw [← e1, ← e2]
  have hi : i = 0 ∨ i = 1 ∨ i = 2 ∨ i = 3 ∨ i = 4 := by omega
  have hj : j = 0 ∨ j = 1 ∨ j = 2 ∨ j = 3 ∨ j = 4 := by omega
  rcases hi with rfl | rfl | rfl | rfl | rfl <;> rcases hj with rfl | rfl | rfl | rfl | rfl <;> first | rfl | exact absurd e3 (by decide)
theorem repl_prs : ∀ {c : Nat} {l : List UInt8}, repl c = some l → ∃ i : Nat, prs[i]? = some (UInt8.ofNat c, l) := by
  intro c l h
  unfold repl at h
  split at h
  · injection h with h; subst h; subst_vars; exact ⟨0, rfl⟩
  split at h
  · injection h with h; subst h; subst_vars; exact ⟨1, rfl⟩
  split at h
  · injection h with h; subst h; subst_vars; exact ⟨2, rfl⟩
  split at h
  · injection h with h; subst h; subst_vars; exact ⟨3, rfl⟩
  split at h
  · injection h with h; subst h; subst_vars; exact ⟨4, rfl⟩
  · cases h
theorem infoStr9 : (Tryz.prog.info? 9).map (fun i => (i.zero, i.size, i.bytes)) = some (some (.string ⟨#[]⟩), 1, 16) := by kernel_rfl
theorem World.alloc_size2 (w : World) (o : Obj) : (w.alloc o).heap.size = w.heap.size + 1 := by simp
theorem zero150 : Tryz.zeroCells150 = Array.replicate 257 (.slice none 0 0) := by kernel_rfl
theorem Blk.setRow {w : World} {g : Nat} {cs : List Value} {T : TypeId} (h : Blk w g cs T) (vs : List Value) : Blk (w.setRow g vs.toArray) g vs T := setRow_heap w g _ _ _ _ h
theorem below_setRow' {B g : Nat} {w : World} (hBg : B ≤ g) (cs : Array Value) : Below B w (w.setRow g cs) := below_setRow (Below.refl B w) hBg cs

set_option maxHeartbeats 16000000 in
set_option maxRecDepth 100000 in
theorem build_any (e o cap : Nat) (w : World) (c4 : w.cell? ⟨e, 4, none⟩ = some (.slice (some ⟨o, 0, none⟩) 10 cap))
    (hp : ∀ j c l, prs[j]? = some (c, l) → w.cell? ⟨o, 2 * j, none⟩ = some (.string ⟨#[c]⟩) ∧ w.cell? ⟨o, 2 * j + 1, none⟩ = some (.string (sb l))) (hol : o < w.heap.size) :
    Calls Tryz.prog 73 #[.pointer (some ⟨e, 0, none⟩)] w fun e w' => ∃ B, e = .returned (.iface 151 (.pointer (some ⟨B, 0, none⟩))) ∧ TabB w' (fun b => w.heap.size ≤ b ∧ b < w'.heap.size) B ∧ Below w.heap.size w w' := by
  have HP := Lib.hid hp
  clear hp
  go_enter Tryz.func73, Tryz.ntmps73
  go_wp2_with fail
  go_loopg [5, 4] 5 (fun gk i b wr => ∃ j : Nat, i = .int .i64 ((2 * j : Nat) : Int) ∧ j + gk = 5 ∧ b = .bool (decide (j = 0)) ∧ Hid (wr = w))
  case atStart => exact ⟨0, rfl, by omega, rfl, rfl⟩
  case round =>
    obtain ⟨j, rfl, hj, rfl, Hw⟩ := hrel
    by_cases hj5 : j < 5
    · obtain ⟨⟨c, l⟩, hcl⟩ : ∃ x, prs[j]? = some x := ⟨prs[j]'hj5, List.getElem?_eq_getElem hj5⟩
      obtain ⟨g0, g1⟩ := HP.out j c l hcl
      rw [← Hw.out] at g0 g1
      obtain ⟨xs, hxs⟩ : ∃ xs : ByteArray, (⟨#[c]⟩ : ByteArray) = xs := ⟨_, rfl⟩
      obtain ⟨ys, hys⟩ : ∃ ys : ByteArray, sb l = ys := ⟨_, rfl⟩
      have hx1 : ((xs.size : Int) != 1) = false := by rw [← hxs]; rfl
      have hl4 := (repl_some (prs_repl hcl).1).1
      have hy1 : ((ys.size : Int) != 1) = true := by rw [← hys, sb_size, bne_iff_ne]; omega
      rw [hxs] at g0; rw [hys] at g1
      clear hxs hys hcl hl4
      obtain ⟨i, hi⟩ : ∃ i, 2 * j = i := ⟨_, rfl⟩
      rw [hi] at g0 g1 ⊢
      have hiI : (i : Int) < 10 := by omega
      have hiI1 : (i : Int) + 1 < 10 := by omega
      have Hi := Lib.hid hi
      clear hi
      go_wp2_with fail
      go_roundg (5 - (j + 1))
      case measure => omega
      case rel =>
        refine ⟨j + 1, ?_, by omega, ?_, Hw.out⟩
        · have := Hi.out
          rw [show 2 * (j + 1) = i + 2 by omega]; rfl
        · rw [decide_eq_false (by omega)]
    · obtain rfl : j = 5 := by omega
      have hmk : ∀ W : World, (Instr.makeSlice 74 (.int .i64 0) (.int .i64 5)).run Tryz.prog W = .ok (.slice (some ⟨W.heap.size, 0, none⟩) 0 5) (W.alloc (.cells #[.string ⟨#[]⟩, .string ⟨#[]⟩, .string ⟨#[]⟩, .string ⟨#[]⟩, .string ⟨#[]⟩] 9)) := fun W => by kernel_rfl
      obtain ⟨N, hN⟩ : ∃ N, wr.heap.size = N := ⟨_, rfl⟩
      obtain ⟨Wa, hWa⟩ : ∃ Wa, (wr.alloc (.cells #[.string ⟨#[]⟩, .string ⟨#[]⟩, .string ⟨#[]⟩, .string ⟨#[]⟩, .string ⟨#[]⟩] 9)).alloc (.cells Tryz.zeroCells150 150) = Wa := ⟨_, rfl⟩
      have hNa : Blk Wa (N + 1) Tryz.zeroCells150.toList 150 := by
        rw [← hWa, ← hN]
        have := Blk.new (wr.alloc (.cells #[.string ⟨#[]⟩, .string ⟨#[]⟩, .string ⟨#[]⟩, .string ⟨#[]⟩, .string ⟨#[]⟩] 9)) Tryz.zeroCells150.toList 150
        simpa using this
      have hSa : Blk Wa N [.string ⟨#[]⟩, .string ⟨#[]⟩, .string ⟨#[]⟩, .string ⟨#[]⟩, .string ⟨#[]⟩] 9 := by
        rw [← hWa, ← hN]; exact (Blk.new wr [.string ⟨#[]⟩, .string ⟨#[]⟩, .string ⟨#[]⟩, .string ⟨#[]⟩, .string ⟨#[]⟩] 9).alloc _
      have hBa : Below w.heap.size w Wa := by
        rw [← hWa, Hw.out]; exact ((Below.refl _ _).alloc (Nat.le_refl _) _).alloc (by simp) _
      have hst := run_storeCells_from (P := Tryz.prog) (N + 1) 150 (Tryz.zeroCells150.toList.set 256 (.slice (some ⟨N, 0, none⟩) 0 5)) 0 Tryz.zeroCells150 Wa (by have := hNa; unfold Blk at this; rw [Array.toArray_toList] at this; exact this) (by simp) (by
        intro v hv
        rcases List.mem_or_eq_of_mem_set hv with h | h
        · rw [zero150] at h; simp at h; rw [h]; rfl
        · rw [h]; rfl)
      rw [List.take_zero, List.nil_append] at hst
      obtain ⟨wb, hwb⟩ : ∃ wb, Wa.setRow (N + 1) (Tryz.zeroCells150.toList.set 256 (.slice (some ⟨N, 0, none⟩) 0 5)).toArray = wb := ⟨_, rfl⟩
      rw [hwb] at hst
      have hNw : w.heap.size = N := by rw [← hN, Hw.out]
      have HBb : Hid (Blk wb (N + 1) (Tryz.zeroCells150.toList.set 256 (.slice (some ⟨N, 0, none⟩) 0 5)) 150) := by
        show Blk wb _ _ _
        rw [← hwb]; exact hNa.setRow _
      have HSb : Hid (Blk wb N [.string ⟨#[]⟩, .string ⟨#[]⟩, .string ⟨#[]⟩, .string ⟨#[]⟩, .string ⟨#[]⟩] 9) := by
        show Blk wb _ _ _
        rw [← hwb]; exact (below_setRow' (B := N + 1) (Nat.le_refl _) _).block N (by omega) |>.trans hSa
      have HKb : Hid (Below w.heap.size w wb) := by
        show Below _ _ _
        rw [← hwb]; exact hBa.trans (below_setRow' (by omega) _)
      rw [← hWa] at hst
      have HNw := Lib.hid hNw
      have HT0 : Hid (Tabbing N 0 (.slice (some ⟨N, 0, none⟩) 0 5) wb) := by
        show Tabbing _ _ _ _
        refine ⟨_, HBb.out, by rw [List.length_set, zero150]; simp, by rw [List.getElem?_set_self]; rw [zero150]; simp, ⟨rfl, .inr ⟨N, 5, #[.string ⟨#[]⟩, .string ⟨#[]⟩, .string ⟨#[]⟩, .string ⟨#[]⟩, .string ⟨#[]⟩], rfl, Nat.le_refl _, HSb.out, by omega, by unfold maxLen; omega, rfl, rfl⟩⟩, ?_, ?_⟩
        · intro c hc _
          rw [List.getElem?_set_ne (by omega), zero150, Array.toList_replicate, List.getElem?_replicate, if_pos (by omega)]
        · intro i c l h
          have := (prs_repl h).2
          refine ⟨fun h5 => by omega, fun _ => ?_⟩
          have := c.toNat_lt
          rw [List.getElem?_set_ne (by omega), zero150, Array.toList_replicate, List.getElem?_replicate, if_pos (by omega)]
      clear hWa hwb hNw hNa hSa hBa
      go_wp2_with fail
      clear hst hmk HBb HSb hN
      go_loopg [12] 5 (fun gk i wr => ∃ (j : Nat) (v : Value), i = .int .i64 (8 - 2 * (j : Int)) ∧ j + gk = 5 ∧ Hid (Tabbing N j v wr) ∧ Hid (Below w.heap.size w wr))
      case atStart => exact ⟨0, _, rfl, by omega, HT0.out, HKb.out⟩
      case round =>
        clear HT0 HKb Hw c4
        obtain ⟨j, v, rfl, hj, HT, HK⟩ := hrel
        by_cases hj5 : j < 5
        · obtain ⟨⟨c, l⟩, hcl⟩ : ∃ x, prs[4 - j]? = some x := ⟨prs[4 - j]'(by show _ < 5; omega), List.getElem?_eq_getElem (by show _ < 5; omega)⟩
          obtain ⟨g0, g1⟩ := HP.out _ c l hcl
          have g0 := (HK.out.cell (p := ⟨o, 2 * (4 - j), none⟩) hol).trans g0
          have g1 := (HK.out.cell (p := ⟨o, 2 * (4 - j) + 1, none⟩) hol).trans g1
          obtain ⟨i, hi⟩ : ∃ i, 2 * (4 - j) = i := ⟨_, rfl⟩
          have hiI : (8 : Int) - 2 * (j : Int) = (i : Int) := by omega
          rw [hi] at g0 g1
          obtain ⟨xs, hxs⟩ : ∃ xs : ByteArray, (⟨#[c]⟩ : ByteArray) = xs := ⟨_, rfl⟩
          obtain ⟨ys, hys⟩ : ∃ ys : ByteArray, sb l = ys := ⟨_, rfl⟩
          have hxs1 : xs.size = 1 := by rw [← hxs]; rfl
          have hx1 : 0 < xs.size := by omega
          have hx1' : (0 : Int) < (xs.size : Int) := by omega
          have hx0 : xs[0] = c := by subst hxs; rfl
          have hxb : bs xs = [c] := by rw [← hxs]; rfl
          have hysb : bs ys = l := by rw [← hys, bs_sb]
          have hx256 : (xs[0].toNat : Int) < 256 := by have := xs[0].toNat_lt; omega
          have hx256n : xs[0].toNat < 256 := xs[0].toNat_lt
          rw [hxs] at g0; rw [hys] at g1
          have HXs := Lib.hid hxs
          obtain ⟨cs, hB, hcl2, hv, hown, hnil, htab⟩ := HT.out
          have hcB : wr.cell? ⟨N + 1, xs[0].toNat, none⟩ = some (.slice none 0 0) := by rw [hx0]; exact (hB.cell _).trans ((htab _ _ _ hcl).2 (by omega))
          have hvB : wr.cell? ⟨N + 1, 256, none⟩ = some v := (hB.cell 256).trans hv
          obtain ⟨A, cp, rfl, hcp⟩ := own_slice hown
          have hnn := fun W => Lib.run_eql_slice_nil (P := Tryz.prog) W 51 5 none 0 0 0 0 Tryz.underlying51
          have hi10 : (i : Int) < 10 := by omega
          have hi10' : (i : Int) + 1 < 10 := by omega
          have hi0 : (0 : Int) ≤ (i : Int) := by omega
          have hlB := hB.lt
          rw [hiI]
          have HB := Lib.hid hB; have Hcl := Lib.hid hcl; have Hhi := Lib.hid hi; have Hx0 := Lib.hid hx0; have Hxb := Lib.hid hxb; have Hysb := Lib.hid hysb; have Hv := Lib.hid hv; have Hown := Lib.hid hown; have Hnil := Lib.hid hnil; have Htab := Lib.hid htab; have Hxs1 := Lib.hid hxs1; have Hcl2 := Lib.hid hcl2; have HiI := Lib.hid hiI
          clear hxs hys hcl hi hB hx0 hxb hysb hv hown hnil htab hxs1 hcl2 hiI HT
          go_upto_region 33 with (fail)
          clear hnn hcB g0 g1 hi10 hi10' hi0
          obtain ⟨M, hM⟩ : ∃ M, wr.heap.size = M := ⟨_, rfl⟩
          have hcv : (convert 51 9 (.slice (some ⟨M, 0, none⟩) 1 1)).run Tryz.prog (wr.alloc (.cells #[.int .u8 xs[0].toNat] 5)) = .ok (.string xs) (wr.alloc (.cells #[.int .u8 xs[0].toNat] 5)) := by
            have h := Lib.run_convert_whole (P := Tryz.prog) (wr.alloc (.cells #[.int .u8 xs[0].toNat] 5)) 51 5 9 Tryz.underlying51 Tryz.underlying5 Tryz.underlying9 M 0 xs (by
              intro j hj
              obtain rfl : j = 0 := by have := Hxs1.out; omega
              rw [← hM]
              exact (Blk.new wr [.int .u8 xs[0].toNat] 5).cell 0) 1
            rw [Hxs1.out] at h
            exact h
          obtain ⟨i0, hi, hz0, hz1, hz2⟩ := info_parts infoStr9
          have hown2 := (Hown.out.alloc (.cells #[.int .u8 xs[0].toNat] 5)).alloc (.cells #[.string xs] 9)
          have hnew2 : ∀ j u, [Value.string xs][j]? = some u → ((wr.alloc (.cells #[.int .u8 xs[0].toNat] 5)).alloc (.cells #[.string xs] 9)).cell? ((⟨M + 1, 0, none⟩ : Addr).add j) = some u := by
            intro j u hu
            have h := Blk.new (wr.alloc (.cells #[.int .u8 xs[0].toNat] 5)) [.string xs] 9
            rw [World.alloc_size2, hM] at h
            cases j with
            | zero => exact (h.cell 0).trans hu
            | succ j => simp at hu
          have hbase2 : N ≤ ((wr.alloc (.cells #[.int .u8 xs[0].toNat] 5)).alloc (.cells #[.string xs] 9)).heap.size := by simp; omega
          have HB2 := Lib.hid ((HB.out.alloc (.cells #[.int .u8 xs[0].toNat] 5)).alloc (.cells #[.string xs] 9))
          have HK2 := Lib.hid ((HK.out.alloc (by have := HK.out.size; omega) (.cells #[.int .u8 xs[0].toNat] 5)).alloc (by simp; have := HK.out.size; omega) (.cells #[.string xs] 9))
          have HKr := Lib.hid (((Below.refl wr.heap.size wr).alloc (Nat.le_refl _) (.cells #[.int .u8 xs[0].toNat] 5)).alloc (by simp) (.cells #[.string xs] 9))
          have Hown2 := Lib.hid hown2; have Hnew2 := Lib.hid hnew2; have Hbase2 := Lib.hid hbase2
          clear hown2 hnew2 hbase2
          go_wp2_with (at_builtin; refine wpList_append_lies _ rfl _ _ 74 rfl N 9 i0 (.string ⟨#[]⟩) 1 16 Tryz.underlying74 hi hz0 hz1 hz2 rfl (by decide) _ _ _ rfl Hown2.out ⟨M + 1, 0, none⟩ 1 1 [.string xs] rfl rfl Hnew2.out (by intro u hu; rw [List.mem_singleton.1 hu]; rfl) (by decide) (by unfold maxLen; omega) (by omega) Hbase2.out _ rfl ?_)
          intro g cp' w2 hown' hgrow hat hgl
          have hne : (Value.slice A j cp).ownBlock ≠ some (N + 1) := own_ne Hown.out HB.out (by decide)
          have hB3 : Blk w2 (N + 1) cs 150 := (hgrow.block (N + 1) HB2.out.lt (fun e => hne e.symm)).trans HB2.out
          have HKg := Lib.hid (HK2.out.grown hgrow (by have := Hbase2.out; have := HNw.out; omega) (fun k hk => by have := (Hown.out.lt k hk).1; have := HNw.out; omega))
          have Hgr := Lib.hid hgrow; have Hat := Lib.hid hat; have Hown3 := Lib.hid hown'
          have hv3 : w2.cell? ⟨N + 1, 256, none⟩ = some (.slice A j cp) := (hB3.cell 256).trans Hv.out
          have hf3 := hB3.free 256
          have hl3 := hB3.lt
          have HB3 := Lib.hid hB3
          clear hne hB3 hgrow hat hown' hcv hi hz0 hz1 hz2
          go_upto_region 34 with (fail)
          clear hv3 hf3 hl3
          obtain ⟨w3, hw3⟩ : ∃ w3, w2.setCell ⟨N + 1, 256, none⟩ (.slice (some ⟨g, 0, none⟩) (j + 1) cp') = w3 := ⟨_, rfl⟩
          have HB4 : Hid (Blk w3 (N + 1) (cs.set 256 (.slice (some ⟨g, 0, none⟩) (j + 1) cp')) 150) := by
            show Blk w3 _ _ _
            rw [← hw3]; exact HB3.out.set 256 _
          have hk3 : Keeps (· = N + 1) w2 w3 := by rw [← hw3]; exact (Keeps.refl _ _).set1 _ _
          have HK3 := Lib.hid hk3
          rw [hw3]
          clear hw3 hk3
          have hcv := Lib.run_convert_string_bytes (P := Tryz.prog) w3 9 51 5 ys (u := .string) Tryz.underlying9 Tryz.underlying51 Tryz.underlying5
          obtain ⟨w4, hw4⟩ : ∃ w4, Lib.bytesWorld w3 5 ys = w4 := ⟨_, rfl⟩
          have hb4 : Below w3.heap.size w3 w4 := by rw [← hw4]; exact Lib.bytesWorld_below w3 5 ys
          have HR4 : Hid (RowT w4 w3.heap.size l) := by
            show RowT _ _ _
            rw [← hw4]
            refine ⟨fun q u hu => ?_, _, _, Lib.bytesWorld_at_new w3 5 ys⟩
            have hyl : ys.size = l.length := by rw [← bs_length, Hysb.out]
            obtain ⟨hq, hu⟩ := List.getElem?_eq_some_iff.1 hu
            rw [Lib.bytesWorld_cell w3 5 ys q (by omega)]
            have hget : ys.data.toList = l := Hysb.out
            rw [hget]; simp [List.getD, List.getElem?_eq_getElem hq, hu]
          have HB5 := Lib.hid ((Keeps.fresh hb4 (D := fun _ => False)).blk HB4.out (fun h => h))
          have HK4 := Lib.hid hb4
          rw [hw4] at hcv
          clear hw4 hb4
          have hc5 : w4.cell? ⟨N + 1, xs[0].toNat, none⟩ = some (.slice none 0 0) := by
            have h1 := HB5.out.cell xs[0].toNat
            rw [List.getElem?_set_ne (by omega), Hx0.out, (Htab.out _ _ _ Hcl.out).2 (by have := Hhi.out; omega)] at h1
            rw [Hx0.out]; exact h1
          have hf5 := HB5.out.free xs[0].toNat
          have hl5 := HB5.out.lt
          have zi : IntKind.i64.wrap ((i : Int) - 2) = (i : Int) - 2 := by have := Hhi.out; rw [IntWalk.i64_in _ (by omega)]
          go_wp2_with fail
          go_roundg (5 - (j + 1))
          case measure => omega
          case rel =>
            obtain ⟨w5, hw5⟩ : ∃ w5, w4.setCell ⟨N + 1, xs[0].toNat, none⟩ (.slice (some ⟨w3.heap.size, 0, none⟩) ys.size (grownCap w3 ys.size 0 5)) = w5 := ⟨_, rfl⟩
            have hB6 : Blk w5 (N + 1) ((cs.set 256 (.slice (some ⟨g, 0, none⟩) (j + 1) cp')).set xs[0].toNat (.slice (some ⟨w3.heap.size, 0, none⟩) ys.size (grownCap w3 ys.size 0 5))) 150 := by rw [← hw5]; exact HB5.out.set _ _
            have hk5 : Keeps (· = N + 1) w4 w5 := by rw [← hw5]; exact (Keeps.refl _ _).set1 _ _
            have hk25 : Keeps (· = N + 1) w2 w5 := (HK3.out.trans (Keeps.fresh HK4.out)).trans hk5
            have hcs := prs_olds hj5 Hcl.out
            have hyl : ys.size = l.length := by rw [← bs_length, Hysb.out]
            have hNs : N ≤ w3.heap.size := by have := HKg.out.size; have := HK3.out.size; have := HNw.out; omega
            rw [hw5]
            refine ⟨j + 1, .slice (some ⟨g, 0, none⟩) (j + 1) cp', ?_, by omega, ?_, ?_⟩
            · have := Hhi.out
              rw [show (i : Int) - 2 = 8 - 2 * ((j + 1 : Nat) : Int) by omega]
            · show Tabbing _ _ _ _
              refine ⟨_, hB6, by rw [List.length_set, List.length_set]; exact Hcl2.out, ?_, ?_, ?_, ?_⟩
              · rw [List.getElem?_set_ne (by omega), List.getElem?_set_self (by rw [Hcl2.out]; omega)]
              · have ho := hk25.own Hown3.out (fun k hk e => own_ne Hown3.out HB3.out (by decide) (by rw [hk, e]))
                have e : (olds.take (j + 1)).map (fun c => Value.string ⟨#[c]⟩) = List.take j (olds.map fun c => Value.string ⟨#[c]⟩) ++ [.string xs] := by
                  rw [List.take_add_one, hcs, List.map_append, List.map_take]
                  rw [← HXs.out]; rfl
                rw [e]; exact ho
              · intro c' hc' hr
                have h1 : xs[0].toNat ≠ c' := by
                  intro e
                  rw [Hx0.out] at e
                  rw [← e, (prs_repl Hcl.out).1] at hr; cases hr
                rw [List.getElem?_set_ne h1, List.getElem?_set_ne (by omega)]
                exact Hnil.out c' hc' hr
              · intro i' c' l' h'
                have hc256 := c'.toNat_lt
                have hother : i' ≠ 4 - j → ((cs.set 256 (.slice (some ⟨g, 0, none⟩) (j + 1) cp')).set xs[0].toNat (.slice (some ⟨w3.heap.size, 0, none⟩) ys.size (grownCap w3 ys.size 0 5)))[c'.toNat]? = cs[c'.toNat]? := by
                  intro hi'
                  have h1 : xs[0].toNat ≠ c'.toNat := by
                    intro e
                    rw [Hx0.out] at e
                    have e2 : c = c' := UInt8.toNat_inj.1 e
                    subst e2
                    exact hi' (prs_inj h' Hcl.out)
                  rw [List.getElem?_set_ne h1, List.getElem?_set_ne (by omega)]
                refine ⟨fun h5 => ?_, fun h5 => by rw [hother (by omega)]; exact (Htab.out _ _ _ h').2 (by omega)⟩
                by_cases hi' : i' = 4 - j
                · subst hi'
                  have e := h'.symm.trans Hcl.out
                  injection e with e
                  injection e with e1 e2
                  subst e1; subst e2
                  refine ⟨w3.heap.size, grownCap w3 ys.size 0 5, ?_, hNs, HR4.out.keep (hk5.block _ HR4.out.lt (by have := HB4.out.lt; omega))⟩
                  rw [← Hx0.out, List.getElem?_set_self (by rw [List.length_set, Hcl2.out]; omega), hyl]
                · obtain ⟨g2, cap2, e1, e2, e3⟩ := (Htab.out _ _ _ h').1 (by omega)
                  refine ⟨g2, cap2, by rw [hother hi']; exact e1, e2, ?_⟩
                  have r1 : RowT ((wr.alloc (.cells #[.int .u8 xs[0].toNat] 5)).alloc (.cells #[.string xs] 9)) g2 l' := e3.keep (HKr.out.block g2 e3.lt)
                  have r2 : RowT w2 g2 l' := r1.keep (Hgr.out.block g2 r1.lt (fun e => e3.ne_own Hown.out (by decide) e.symm))
                  exact r2.keep (hk25.block g2 r2.lt (r2.ne HB3.out (by decide)))
            · show Below _ _ _
              exact (Keeps.of_below (HKg.out) |>.trans (hk25.mono (fun k _ h => by have := HNw.out; omega))).below (Nat.le_refl _)
        · obtain rfl : j = 5 := by omega
          rw [show (8 : Int) - 2 * ((5 : Nat) : Int) = -2 from rfl]
          go_wp2_with fail
          go_ret
          refine ⟨N + 1, rfl, ?_, HK.out⟩
          obtain ⟨cs, hB, hcl2, hv, hown, hnil, htab⟩ := HT.out
          have hNw := HNw.out
          obtain ⟨hh, cp, rfl, hh1, hh2⟩ := hown.form (by decide)
          refine ⟨⟨by omega, hB.lt⟩, cs, hB, hcl2, hnil, ?_, hh, cp, hv, ⟨by omega, hh2⟩, ?_⟩
          · intro c l hc
            obtain ⟨i, hi⟩ := repl_prs hc
            have h256 := (repl_some hc).2.2
            obtain ⟨g, cap, e1, e2, e3⟩ := (htab _ _ _ hi).1 (by omega)
            rw [show (UInt8.ofNat c).toNat = c by rw [UInt8.toNat_ofNat']; omega] at e1
            exact ⟨g, cap, e1, ⟨by omega, e3.lt⟩, e3.1⟩
          · intro j u hu
            have hj5 : j < 5 := (List.getElem?_eq_some_iff.1 hu).1
            have h2 := hown.cells (g := hh) rfl j (.string ⟨#[u]⟩) (by
              rw [show olds.take 5 = olds from rfl, List.getElem?_map, hu]; rfl)
            cases j with
            | zero => exact h2
            | succ j => unfold Addr.add at h2; simpa using h2
end Go.Proofs.YtkjopcbleefioaaGreatDoor
