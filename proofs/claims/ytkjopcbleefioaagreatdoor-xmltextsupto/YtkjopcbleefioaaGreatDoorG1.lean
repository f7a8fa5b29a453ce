/- same, EqualFunc, Same: the walks. -/
import Derived.Test.YtkjopcbleefioaaGreatDoorF2
import Derived.Lib.SlBytesConst
namespace Go.Proofs.YtkjopcbleefioaaGreatDoor
open Go Go.RowKit
set_option linter.unusedSimpArgs false
set_option linter.unusedVariables false

mutual
/-- Are two elements the same? -/
def El.eq : El → El → Bool
  | .mk n t ks, .mk n' t' ks' => decide (n = n') && (decide (t = t') && Els.eq ks ks')
def Els.eq : List El → List El → Bool
  | [], [] => true
  | k :: ks, l :: ls => El.eq k l && Els.eq ks ls
  | _, _ => false
end
mutual
theorem El.eq_iff : ∀ (a b : El), El.eq a b = true ↔ a = b
  | .mk n t ks, .mk n' t' ks' => by
    rw [El.eq, Bool.and_eq_true, Bool.and_eq_true, decide_eq_true_eq, decide_eq_true_eq, Els.eq_iff ks ks']
    constructor
    · rintro ⟨rfl, rfl, rfl⟩; rfl
    · intro h; injection h with h1 h2 h3; exact ⟨h1, h2, h3⟩
theorem Els.eq_iff : ∀ (a b : List El), Els.eq a b = true ↔ a = b
  | [], [] => by simp [Els.eq]
  | k :: ks, l :: ls => by
    rw [Els.eq, Bool.and_eq_true, El.eq_iff k l, Els.eq_iff ks ls]
    constructor
    · rintro ⟨rfl, rfl⟩; rfl
    · intro h; injection h with h1 h2; exact ⟨h1, h2⟩
  | [], l :: ls => by simp [Els.eq]
  | k :: ks, [] => by simp [Els.eq]
end
theorem Els.eq_len {ks ls : List El} (h : ks.length ≠ ls.length) : Els.eq ks ls = false := by
  cases hx : Els.eq ks ls with
  | false => rfl
  | true => exact absurd (congrArg List.length ((Els.eq_iff ks ls).1 hx)) h
theorem sb_eq (a b : List UInt8) : decide (sb a = sb b) = decide (a = b) := by
  rw [Bool.eq_iff_iff, decide_eq_true_eq, decide_eq_true_eq]
  constructor
  · intro h; have := congrArg bs h; rw [bs_sb, bs_sb] at this; exact this
  · intro h; rw [h]

theorem beq_bytes {a b : ByteArray} (h : ¬ a = b) : (a.toList == b.toList) = false := by
  rw [beq_eq_false_iff_ne]
  intro he
  rw [ByteArray.toList_eq, ByteArray.toList_eq] at he
  exact h (bs_inj he)

def SameIs (B m : Nat) : Prop := ∀ (a b : El), El.size a ≤ m → ∀ (a0 a1 a2 b0 b1 b2 : Value) (w : World), ElR w (· < B) a [a0, a1, a2] → ElR w (· < B) b [b0, b1, b2] → B ≤ w.heap.size →
    Calls Tryz.prog 31 #[.agg #[a0, a1, a2], .agg #[b0, b1, b2]] w fun e w' => e = .returned (.bool (El.eq a b)) ∧ Below w.heap.size w w'

set_option maxHeartbeats 16000000 in
set_option maxRecDepth 100000 in
theorem equalFunc_any (B m : Nat) (hm2 : m ≤ 16777216) (ih : SameIs B m) (ks ls : List El) (hm : Els.size ks ≤ m) (A A2 : Option Addr) (nk nl c c2 : Nat) (w : World) (hks : ElsR w (· < B) ks A) (hls : ElsR w (· < B) ls A2)
    (hnk : ks.length = nk) (hnl : ls.length = nl) (hc : nk ≤ c) (hc2 : nl ≤ c2) (hB : B ≤ w.heap.size) :
    Calls Tryz.prog 43 #[.slice A nk c, .slice A2 nl c2, .func (.func 31) #[] #[]] w fun e w' => e = .returned (.bool (Els.eq ks ls)) ∧ Below w.heap.size w w' := by
  obtain ⟨X, hX⟩ : ∃ X, Els.eq ks ls = X := ⟨_, rfl⟩
  rw [hX]
  have hkl := Els.size_len ks
  have HKs := Lib.hid hks; have HLs := Lib.hid hls; have Hnk := Lib.hid hnk; have Hnl := Lib.hid hnl; have HX := Lib.hid hX; have Hih := Lib.hid ih
  have hnk2 : nk ≤ 16777216 := by omega
  clear hks hls hX ih
  by_cases hne : nk = nl
  · subst hne
    clear hnk hnl
    go_enter Tryz.func43, Tryz.ntmps43
    go_wp2_with fail
    go_loopg [17] nk (fun gk i wr => ∃ (j : Nat), i = .int .i64 j ∧ j + gk = nk ∧ Hid (Els.eq (ks.drop j) (ls.drop j) = X) ∧ Hid (Below w.heap.size w wr))
    case atStart => exact ⟨0, rfl, by omega, HX.out, Below.refl _ _⟩
    case round =>
      clear HX
      obtain ⟨j, rfl, hj, HXr, HBr⟩ := hrel
      by_cases hjk : j < nk
      · have hnkk := Hnk.out
        have hnll := Hnl.out
        obtain ⟨k, hk⟩ : ∃ k, ks[j]? = some k := ⟨ks[j]'(by omega), List.getElem?_eq_getElem (by omega)⟩
        obtain ⟨l, hl⟩ : ∃ l, ls[j]? = some l := ⟨ls[j]'(by omega), List.getElem?_eq_getElem (by omega)⟩
        have hbw : Below B w wr := HBr.out.mono hB
        obtain ⟨b', off', d0, d1, d2, hA, hbB, g0, g1, g2, gkR⟩ := (HKs.out.below hbw).at hk
        obtain ⟨b2, off2, f0, f1, f2, hA2, hbB2, q0, q1, q2, glR⟩ := (HLs.out.below hbw).at hl
        subst hA; subst hA2
        have hsz := Els.size_get hk
        obtain ⟨A', cap', hcs', _, _⟩ := gkR.form
        injection hcs' with e0 e1
        injection e1 with e1 e2
        injection e2 with e2 _
        subst e0; subst e1; subst e2
        obtain ⟨A'', cap'', hcs'', _, _⟩ := glR.form
        injection hcs'' with e0 e1
        injection e1 with e1 e2
        injection e2 with e2 _
        subst e0; subst e1; subst e2
        obtain ⟨kN, hkN⟩ : ∃ kN, sb k.name = kN := ⟨_, rfl⟩
        obtain ⟨kT, hkT⟩ : ∃ kT, sb k.text = kT := ⟨_, rfl⟩
        obtain ⟨kL, hkL⟩ : ∃ kL, k.kids.length = kL := ⟨_, rfl⟩
        obtain ⟨lN, hlN⟩ : ∃ lN, sb l.name = lN := ⟨_, rfl⟩
        obtain ⟨lT, hlT⟩ : ∃ lT, sb l.text = lT := ⟨_, rfl⟩
        obtain ⟨lL, hlL⟩ : ∃ lL, l.kids.length = lL := ⟨_, rfl⟩
        rw [hkN, hkT, hkL] at gkR
        rw [hlN, hlT, hlL] at glR
        rw [hkN] at g0; rw [hkT] at g1; rw [hkL] at g2
        rw [hlN] at q0; rw [hlT] at q1; rw [hlL] at q2
        have hBr := HBr.out.size
        have q0' := fun o => Lib.cell?_alloc_marked o q0
        have q1' := fun o => Lib.cell?_alloc_marked o q1
        have q2' := fun o => Lib.cell?_alloc_marked o q2
        have hkA : Below wr.heap.size wr ((wr.alloc (.cells #[.string kN, .string kT, .slice A' kL cap'] 24)).alloc (.cells #[.string lN, .string lT, .slice A'' lL cap''] 24)) := ((Below.refl _ _).alloc (Nat.le_refl _) _).alloc (by simp) _
        have hrec := Hih.out k l (by omega) _ _ _ _ _ _ _ (gkR.below (hkA.mono (by omega))) (glR.below (hkA.mono (by omega))) (by simp; omega)
        have HRec := Lib.hid hrec
        have HkA := Lib.hid (HBr.out.trans (hkA.mono hBr))
        have hd1 := drop_get hk
        have hd2 := drop_get hl
        have hXr := HXr.out
        rw [hd1, hd2, Els.eq] at hXr
        obtain ⟨x, hx⟩ : ∃ x, El.eq k l = x := ⟨_, rfl⟩
        rw [hx] at hXr HRec
        have HXf := Lib.hid hXr
        have hjI : (j : Int) < (nk : Int) := by omega
        have hbl : Below w.heap.size w wr := HBr.out
        clear hrec hkN hkT hkL hlN hlT hlL gkR glR hkA hk hl hsz hnkk hnll hd1 hd2 hXr hx HXr hbw
        go_wp2_with fail
        refine HRec.out.mono ?_
        rintro en w5 ⟨rfl, hb5⟩
        have HB5 := Lib.hid (HkA.out.trans (hb5.mono HkA.out.size))
        clear hb5 HRec g0 g1 g2 q0 q1 q2 q0' q1' q2'
        cases x with
        | false =>
          have HXg := Lib.hid (show X = false by rw [← HXf.out]; rfl)
          go_wp2_with fail
          go_ret
          rw [HXg.out]
          exact ⟨rfl, HB5.out⟩
        | true =>
          go_wp2_with fail
          go_roundg (nk - (j + 1))
          case measure => omega
          case rel => exact ⟨j + 1, by go_num, by omega, HXf.out, HB5.out⟩
      · have hjI : ¬ ((j : Int) < (nk : Int)) := by omega
        go_wp2_with fail
        go_ret
        have hd : ks.drop j = [] := List.drop_eq_nil_of_le (by have := Hnk.out; omega)
        have hd2 : ls.drop j = [] := List.drop_eq_nil_of_le (by have := Hnl.out; omega)
        have hx := HXr.out
        rw [hd, hd2, Els.eq] at hx
        rw [← hx]
        exact ⟨rfl, HBr.out⟩
  · have HXf := Lib.hid (show X = false by rw [← HX.out]; exact Els.eq_len (by rw [hnk, hnl]; exact hne))
    have hne2 : ((nk : Int) != (nl : Int)) = true := by rw [bne_iff_ne]; omega
    clear hnk hnl
    go_enter Tryz.func43, Tryz.ntmps43
    go_wp2_with fail
    go_ret
    rw [HXf.out]
    exact ⟨rfl, Below.refl _ _⟩

set_option maxHeartbeats 8000000 in
set_option maxRecDepth 100000 in
theorem same_any (B : Nat) : ∀ m, m ≤ 16777216 → SameIs B m := by
  intro m
  induction m with
  | zero => intro _ a b h; have := El.size_pos a; omega
  | succ m ih =>
    intro hm a b hs a0 a1 a2 b0 b1 b2 w hA hB' hBw
    obtain ⟨n, t, ks⟩ := a
    obtain ⟨n', t', ls⟩ := b
    rw [El.size] at hs
    obtain ⟨A, c, hcs, hc, hks⟩ := hA.form
    injection hcs with h0 hcs
    injection hcs with h1 hcs
    injection hcs with h2 _
    subst h0; subst h1; subst h2
    obtain ⟨A2, c2, hcs, hc2, hls⟩ := hB'.form
    injection hcs with h0 hcs
    injection hcs with h1 hcs
    injection hcs with h2 _
    subst h0; subst h1; subst h2
    dsimp only [El.name, El.text, El.kids] at *
    have hel : Below w.heap.size w ((w.alloc (.cells #[.string (sb n), .string (sb t), .slice A ks.length c] 24)).alloc (.cells #[.string (sb n'), .string (sb t'), .slice A2 ls.length c2] 24)) := ((Below.refl _ _).alloc (Nat.le_refl _) _).alloc (by simp) _
    have hef := equalFunc_any B m (by omega) (ih (by omega)) ks ls (by omega) A A2 _ _ c c2 _ (hks.below (hel.mono hBw)) (hls.below (hel.mono hBw)) rfl rfl hc hc2 (Nat.le_trans hBw hel.size)
    rw [El.eq, ← sb_eq n n', ← sb_eq t t']
    obtain ⟨N, hN⟩ : ∃ N, sb n = N := ⟨_, rfl⟩
    obtain ⟨T, hT⟩ : ∃ T, sb t = T := ⟨_, rfl⟩
    obtain ⟨nk, hnk⟩ : ∃ nk, ks.length = nk := ⟨_, rfl⟩
    obtain ⟨N', hN'⟩ : ∃ N, sb n' = N := ⟨_, rfl⟩
    obtain ⟨T', hT'⟩ : ∃ T, sb t' = T := ⟨_, rfl⟩
    obtain ⟨nl, hnl⟩ : ∃ nk, ls.length = nk := ⟨_, rfl⟩
    obtain ⟨X, hX⟩ : ∃ X, Els.eq ks ls = X := ⟨_, rfl⟩
    rw [hN, hT, hnk, hN', hT', hnl] at hef hel
    rw [hX] at hef
    rw [hN, hT, hnk, hN', hT', hnl, hX]
    have Hef := Lib.hid hef; have Hel := Lib.hid hel
    clear hef hel hN hT hnk hN' hT' hnl hX hks hls hA hB' ih
    by_cases g1 : N = N'
    · subst g1
      rw [decide_eq_true rfl]
      by_cases g2 : T = T'
      · subst g2
        rw [decide_eq_true rfl]
        go_enter Tryz.func31, Tryz.ntmps31
        go_wp2_with fail
        refine Hef.out.mono ?_
        rintro en w5 ⟨rfl, hb5⟩
        have HB5 := Lib.hid (Hel.out.trans (hb5.mono Hel.out.size))
        clear hb5 Hef
        go_wp2_with fail
        go_ret
        exact ⟨rfl, HB5.out⟩
      · rw [decide_eq_false g2]
        have q2 := beq_bytes g2
        clear g2
        go_enter Tryz.func31, Tryz.ntmps31
        go_wp2_with fail
        go_ret
        exact ⟨rfl, Hel.out⟩
    · rw [decide_eq_false g1]
      have q1 := beq_bytes g1
      clear g1
      go_enter Tryz.func31, Tryz.ntmps31
      go_wp2_with fail
      go_ret
      exact ⟨rfl, Hel.out⟩
end Go.Proofs.YtkjopcbleefioaaGreatDoor
