/- Write: the walk. -/
import Derived.Test.YtkjopcbleefioaaGreatDoorF2
import Derived.Test.YtkjopcbleefioaaGreatDoorF4
import Derived.Lib.SlBytesRow
import Derived.Lib.SlBytesConst
namespace Go.Proofs.YtkjopcbleefioaaGreatDoor
open Go Go.RowKit
set_option linter.unusedSimpArgs false
set_option linter.unusedVariables false

def headL : List UInt8 := [60, 63, 120, 109, 108, 32, 118, 101, 114, 115, 105, 111, 110, 61, 34, 49, 46, 48, 34, 32, 101, 110, 99, 111, 100, 105, 110, 103, 61, 34, 85, 84, 70, 45, 56, 34, 63, 62, 10]
/-- What Write answers. -/
def writeS (e : El) : List UInt8 × Int :=
  if (rightS e 0 20000).1 then
    if 1000000 < (writeL headL e).length then ([], 56) else (writeL headL e, 0)
  else ([], 55)

mutual
theorem writeL_ge : ∀ (e : El) (b : List UInt8), b.length ≤ (writeL b e).length
  | .mk n t ks, b => by
    rw [writeL]
    have h1 := writesL_ge ks (b ++ (60 :: (n ++ (62 :: escS t))))
    split
    · omega
    · split
      · simp
      · simp at h1 ⊢; omega
theorem writesL_ge : ∀ (ks : List El) (b : List UInt8), b.length ≤ (writesL b ks).length
  | [], b => by rw [writesL]; omega
  | k :: ks, b => by
    rw [writesL]
    have h1 := writesL_ge ks (writeL b k)
    have h2 := writeL_ge k b
    omega
end
/-- A row's bytes, where they lie. -/
theorem ownS_bytes {w : World} {base pb n cp : Nat} {l : List UInt8} (h : OwnS base w (.slice (some ⟨pb, 0, none⟩) n cp) l) : Lib.Bytes w pb 0 (sb l) := by
  intro i hi
  have hi' := hi
  rw [sb_size] at hi'
  have hc := h.bytes i (.int .u8 (l[i].toNat : Int)) (by simp [u8s, hi'])
  have hj : (⟨pb, 0, none⟩ : Addr).add i = ⟨pb, 0 + i, none⟩ := by
    by_cases h : i = 0
    · subst h; rfl
    · simp [Addr.add, h]
  rw [hj] at hc
  rw [hc]
  congr 1

set_option maxHeartbeats 8000000 in
set_option maxRecDepth 100000 in
theorem writeTop_any (B : Nat) (e : El) (c0 c1 c2 : Value) (w : World) (hE : ElR w (· < B) e [c0, c1, c2]) (hs : El.size e ≤ 2097152) (hB : B ≤ w.heap.size) (hB3 : 3 < w.heap.size) (hg : Glob w) :
    Calls Tryz.prog 8 #[.agg #[c0, c1, c2]] w fun en w' => en = .returned (.tuple #[.string (sb (writeS e).1), .int .i64 (writeS e).2]) ∧ Below w.heap.size w w' := by
  obtain ⟨A, cap, hcs, _, _⟩ := hE.form
  injection hcs with q0 q1
  injection q1 with q1 q2
  injection q2 with q2 _
  subst q0; subst q1; subst q2
  obtain ⟨N, hN⟩ : ∃ N, sb e.name = N := ⟨_, rfl⟩
  obtain ⟨T, hT⟩ : ∃ T, sb e.text = T := ⟨_, rfl⟩
  obtain ⟨nk, hnk⟩ : ∃ nk, e.kids.length = nk := ⟨_, rfl⟩
  rw [hN, hT, hnk] at hE ⊢
  clear hN hT hnk
  obtain ⟨W0, hW0⟩ : ∃ W0, w.alloc (.cells #[.string N, .string T, .slice A nk cap] 24) = W0 := ⟨_, rfl⟩
  have hb0 : Below w.heap.size w W0 := by rw [← hW0]; exact (Below.refl _ _).alloc (Nat.le_refl _) _
  have hs0 : W0.heap.size = w.heap.size + 1 := by rw [← hW0]; simp
  have hE0 : Blk W0 w.heap.size [.string N, .string T, .slice A nk cap] 24 := by rw [← hW0]; exact Blk.new w _ _
  have hk0 : Keeps (fun _ => False) w W0 := Keeps.fresh hb0
  have hr := isRight_any B e _ _ _ W0 (hE.below (hb0.mono hB)) (by omega) (by omega) (by omega) (hg.keep hk0 (fun _ _ h => h))
  have e0 : W0.cell? ⟨w.heap.size, 0, none⟩ = some (.string N) := hE0.cell 0
  have e1 : W0.cell? ⟨w.heap.size, 1, none⟩ = some (.string T) := hE0.cell 1
  have e2 : W0.cell? ⟨w.heap.size, 2, none⟩ = some (.slice A nk cap) := hE0.cell 2
  obtain ⟨g, hgr⟩ : ∃ g, (rightS e 0 20000).1 = g := ⟨_, rfl⟩
  obtain ⟨R, hR⟩ : ∃ R, writeS e = R := ⟨_, rfl⟩
  rw [hR]
  rw [writeS, hgr] at hR
  rw [hgr] at hr
  have HR := Lib.hid hR; have Hr := Lib.hid hr; have HE := Lib.hid hE; have HG := Lib.hid hg; have HB0 := Lib.hid hb0; have HE0 := Lib.hid hE0; have Hs0 := Lib.hid hs0; have Hgr := Lib.hid hgr; have HW0 := Lib.hid hW0
  clear hR hr hE hg hb0 hE0 hs0 hgr hW0 hk0
  go_enter Tryz.func8, Tryz.ntmps8
  go_upto_region 1 with (fail)
  rw [HW0.out]
  go_wp2_with fail
  refine Hr.out.mono ?_
  rintro en w1 ⟨rfl, hb1⟩
  have HE1 := Lib.hid ((Keeps.fresh (D := fun _ => False) hb1).blk HE0.out (fun h => h))
  have HB1 := Lib.hid (HB0.out.trans (hb1.mono (by have := HB0.out.size; omega)))
  have f0 : w1.cell? ⟨w.heap.size, 0, none⟩ = some (.string N) := HE1.out.cell 0
  have f1 : w1.cell? ⟨w.heap.size, 1, none⟩ = some (.string T) := HE1.out.cell 1
  have f2 : w1.cell? ⟨w.heap.size, 2, none⟩ = some (.slice A nk cap) := HE1.out.cell 2
  clear e0 e1 e2 hb1 Hr
  cases g with
  | false =>
    go_wp2_with fail
    go_ret2
    rw [← HR.out]
    exact ⟨rfl, HB1.out⟩
  | true =>
    go_wp2_with fail
    obtain ⟨WL, hWL⟩ : ∃ WL, w1.alloc (.cells #[.string ⟨#[38]⟩, .string ⟨#[38, 97, 109, 112, 59]⟩, .string ⟨#[60]⟩, .string ⟨#[38, 108, 116, 59]⟩, .string ⟨#[62]⟩, .string ⟨#[38, 103, 116, 59]⟩, .string ⟨#[34]⟩, .string ⟨#[38, 113, 117, 111, 116, 59]⟩, .string ⟨#[13]⟩, .string ⟨#[38, 35, 49, 51, 59]⟩] 9) = WL := ⟨_, rfl⟩
    have hbl : Below w1.heap.size w1 WL := by rw [← hWL]; exact (Below.refl _ _).alloc (Nat.le_refl _) _
    have hgl : Blk WL w1.heap.size [.string ⟨#[38]⟩, .string ⟨#[38, 97, 109, 112, 59]⟩, .string ⟨#[60]⟩, .string ⟨#[38, 108, 116, 59]⟩, .string ⟨#[62]⟩, .string ⟨#[38, 103, 116, 59]⟩, .string ⟨#[34]⟩, .string ⟨#[38, 113, 117, 111, 116, 59]⟩, .string ⟨#[13]⟩, .string ⟨#[38, 35, 49, 51, 59]⟩] 9 := by rw [← hWL]; exact Blk.new w1 _ _
    rw [hWL]
    have hn := newReplacer_any w1.heap.size WL hgl
    refine hn.mono ?_
    rintro en w2 ⟨r, rfl, hR2, hb2⟩
    have HR2 := Lib.hid hR2
    have hk2 : Below w.heap.size w w2 := HB1.out.trans ((hbl.mono HB1.out.size).trans (hb2.mono (by have := HB1.out.size; have := hbl.size; omega)))
    have HE2 := Lib.hid ((Keeps.fresh (D := fun _ => False) hb2).blk ((Keeps.fresh (D := fun _ => False) hbl).blk HE1.out (fun h => h)) (fun h => h))
    have Hs2 := Lib.hid (show w1.heap.size ≤ WL.heap.size from hbl.size)
    have Hs3 := Lib.hid (show WL.heap.size ≤ w2.heap.size from hb2.size)
    have HB2 := Lib.hid hk2
    have HWL := Lib.hid hWL
    have g0 : w2.cell? ⟨w.heap.size, 0, none⟩ = some (.string N) := HE2.out.cell 0
    have g1 : w2.cell? ⟨w.heap.size, 1, none⟩ = some (.string T) := HE2.out.cell 1
    have g2 : w2.cell? ⟨w.heap.size, 2, none⟩ = some (.slice A nk cap) := HE2.out.cell 2
    clear hn hbl hgl hR2 hb2 hk2 hWL HWL HE1 f0 f1 f2
    have k0 := fun o => Lib.cell?_alloc_marked o g0
    have k1 := fun o => Lib.cell?_alloc_marked o g1
    have k2 := fun o => Lib.cell?_alloc_marked o g2
    have hcc := fun (C : Array Value) => Lib.run_convert_bytes_const (P := Tryz.prog) w2 51 5 C 39 39 Tryz.underlying51 Tryz.underlying5
    go_wp2_with fail
    obtain ⟨WH, hWH⟩ : ∃ WH, w2.alloc (.cells #[.int .u8 60, .int .u8 63, .int .u8 120, .int .u8 109, .int .u8 108, .int .u8 32, .int .u8 118, .int .u8 101, .int .u8 114, .int .u8 115, .int .u8 105, .int .u8 111, .int .u8 110, .int .u8 61, .int .u8 34, .int .u8 49, .int .u8 46, .int .u8 48, .int .u8 34, .int .u8 32, .int .u8 101, .int .u8 110, .int .u8 99, .int .u8 111, .int .u8 100, .int .u8 105, .int .u8 110, .int .u8 103, .int .u8 61, .int .u8 34, .int .u8 85, .int .u8 84, .int .u8 70, .int .u8 45, .int .u8 56, .int .u8 34, .int .u8 63, .int .u8 62, .int .u8 10] 5 (39, 40)) = WH := ⟨_, rfl⟩
    rw [hWH]
    have hbh : Below w2.heap.size w2 WH := by rw [← hWH]; exact (Below.refl _ _).alloc (Nat.le_refl _) _
    have hoh : OwnS w.heap.size WH (.slice (some ⟨w2.heap.size, 0, none⟩) 39 39) headL := by
      rw [← hWH]
      exact .inr ⟨w2.heap.size, rfl, HB2.out.size, heap_alloc_new w2 _⟩
    have hsH : WH.heap.size = w2.heap.size + 1 := by rw [← hWH]; simp
    have hq1 := HB1.out.size
    have hq2 := Hs2.out
    have hq3 := Hs3.out
    have hkh : Keeps (fun _ => False) w2 WH := Keeps.fresh hbh
    have hWo : WriteOk w.heap.size WH r headL (.slice (some ⟨w2.heap.size, 0, none⟩) 39 39) :=
      ⟨hoh, by omega, fun b => WL.heap.size ≤ b ∧ b < w2.heap.size, HR2.out.keep hkh (fun _ _ h => h), fun x hx => ⟨by omega, by omega⟩, fun x hx hf => by
        injection hx with hx
        have := hf.2
        dsimp only at hx
        omega⟩
    have hEH : ElR WH (· < w.heap.size) e [.string N, .string T, .slice A nk cap] := HE.out.mono (fun b hb => ⟨(HB2.out.trans (hbh.mono (by omega))).block b (by have : b < B := hb; omega), (by have : b < B := hb; omega)⟩) e _
    have hwr := write_any w.heap.size r 2097152 e hs (Nat.le_refl _) headL _ _ _ _ WH hEH hWo (by show 39 + _ ≤ _; omega)
    have hge := writeL_ge e headL
    have hln := writeL_len e headL
    have hBW : Below w.heap.size w WH := HB2.out.trans (hbh.mono (by omega))
    have hrB : w.heap.size ≤ r := by have := (HR2.out.1).1; omega
    have HR' := HR.out
    obtain ⟨L, hL⟩ : ∃ L, writeL headL e = L := ⟨_, rfl⟩
    rw [hL] at hwr hge hln HR'
    have hge : 39 ≤ L.length := hge
    have hln : L.length ≤ 39 + 8 * e.size := hln
    have HRf := Lib.hid HR'
    have HBW := Lib.hid hBW
    have HrB := Lib.hid hrB
    have Hq := Lib.hid (show w.heap.size ≤ w2.heap.size from HB2.out.size)
    clear hcc k0 k1 k2 hoh hsH hkh hWo hEH hWH hbh hq1 hq2 hq3 HR' HR hL hBW hrB g0 g1 g2 HE2 Hs2 Hs3 HR2
    refine hwr.mono ?_
    rintro en w5 ⟨v', rfl, hW5, hn5, hk5⟩
    obtain ⟨V, vc, rfl, hvc⟩ := hW5.1.slice
    have hv : ∃ pb, V = some ⟨pb, 0, none⟩ := by
      rcases hW5.1 with h1 | ⟨g, h, _⟩
      · rcases h1.2 with ⟨h, h0⟩ | ⟨g, c, cur, h, _⟩
        · omega
        · injection h with h _; exact ⟨g, h⟩
      · injection h with h _; exact ⟨g, h⟩
    obtain ⟨pb, rfl⟩ := hv
    have hby := ownS_bytes hW5.1
    have hcw := Lib.run_convert_whole (P := Tryz.prog) w5 51 5 9 Tryz.underlying51 Tryz.underlying5 Tryz.underlying9 pb 0 (sb L) hby vc
    rw [sb_size] at hcw
    have HB5 := Lib.hid (show Below w.heap.size w w5 from HBW.out.trans (hk5.below' (fun k hk hf => by
      rcases hf with h | h
      · injection h with h; dsimp only at h; have := Hq.out; omega
      · have := HrB.out; omega) HBW.out.size))
    obtain ⟨S, hS⟩ : ∃ S, sb L = S := ⟨_, rfl⟩
    rw [hS] at hcw
    obtain ⟨n, hn⟩ : ∃ n, L.length = n := ⟨_, rfl⟩
    rw [hn] at hcw hge hln ⊢
    have Hn := Lib.hid hn; have HS := Lib.hid hS
    clear hwr hW5 hn5 hk5 hby hn hS hvc
    by_cases hlong : 1000000 < n
    · have hlI : (1000000 : Int) < (n : Int) := by omega
      go_wp2_with fail
      go_ret2
      rw [← HRf.out, if_pos trivial, if_pos (by rw [Hn.out]; exact hlong)]
      exact ⟨rfl, HB5.out⟩
    · have hlI : ¬ ((1000000 : Int) < (n : Int)) := by omega
      go_wp2_with fail
      go_ret2
      rw [← HRf.out, if_pos trivial, if_neg (by rw [Hn.out]; exact hlong), ← HS.out]
      exact ⟨rfl, HB5.out⟩
end Go.Proofs.YtkjopcbleefioaaGreatDoor
