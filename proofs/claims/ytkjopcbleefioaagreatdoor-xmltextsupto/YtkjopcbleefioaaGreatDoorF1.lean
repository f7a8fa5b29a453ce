/- plain, and the small function values of right: contracts. -/
import Derived.Test.YtkjopcbleefioaaGreatDoorE3
import Derived.Test.YtkjopcbleefioaaGreatDoorShelf2
namespace Go.Proofs.YtkjopcbleefioaaGreatDoor
open Go Go.RowKit
set_option linter.unusedSimpArgs false
set_option linter.unusedVariables false

theorem hnotT : ∀ (x : Bool) (w : World), (Op.unary .not (.bool x)).run Tryz.prog w = .ok (.bool (!x)) w := fun _ _ => rfl

theorem plain1_any (x : Int) (w : World) : Calls Tryz.prog 70 #[.int .i32 x] w fun e w' => e = .returned (.bool (!knowsB x)) ∧ w = w' := by
  have hk := knows_any x
  obtain ⟨v, hv⟩ : ∃ v, knowsB x = v := ⟨_, rfl⟩
  rw [hv] at hk ⊢
  clear hv
  go_enter Tryz.func70, Tryz.ntmps70
  go_wp2_with (go_at_call 64; refine (hk _).mono ?_; rintro e w' ⟨rfl, rfl⟩)
  go_ret
  exact ⟨rfl, rfl⟩

def plainB (l : List UInt8) : Bool := Lib.validD l && !decide (0 ≤ Lib.idxFunc (fun r => !knowsB r) true (sb l))

theorem plain_any (s : ByteArray) (w : World) (hg : Glob w) (hs : s.size ≤ 9223372036854775807) :
    Calls Tryz.prog 53 #[.string s] w fun e w' => e = .returned (.bool (plainB (bs s))) ∧ Below w.heap.size w w' := by
  have hv := Tryz.utf8_ValidString s w hs hg.utf
  have hc := fun (W : World) => Tryz.strings_ContainsFunc_grows 70 #[] (enters_of Tryz.func70 (by kernel_rfl) rfl) (fun r => !knowsB r) s W (fun W' x _ _ => (plain1_any x W').mono fun e w' ⟨he, hw⟩ => ⟨he, hw ▸ Below.refl _ _⟩)
  unfold plainB
  rw [sb_bs]
  change Calls Tryz.prog 68 _ _ (fun e w' => e = .returned (.bool (Lib.validD (bs s))) ∧ _) at hv
  generalize Lib.validD (bs s) = v at hv ⊢
  generalize decide (0 ≤ Lib.idxFunc (fun r : Nat => !knowsB r) true s) = u at hc ⊢
  have HV := Lib.hid hv; have HC := Lib.hid hc
  clear hv hc hg
  cases v with
  | false =>
    go_enter Tryz.func53, Tryz.ntmps53
    go_wp2_with fail
    refine HV.out.mono ?_
    rintro e w1 ⟨rfl, hb⟩
    have HB := Lib.hid hb
    clear hb HV HC
    go_wp2_with fail
    go_ret
    exact ⟨rfl, HB.out⟩
  | true =>
    go_enter Tryz.func53, Tryz.ntmps53
    go_wp2_with fail
    refine HV.out.mono ?_
    rintro e w1 ⟨rfl, hb⟩
    have HB := Lib.hid hb
    clear hb HV
    go_wp2_with fail
    refine (HC.out w1).mono ?_
    rintro e w2 ⟨rfl, hb⟩
    have HB2 := Lib.hid (HB.out.trans (hb.mono HB.out.size))
    clear hb HC
    go_wp2_with fail
    go_ret
    exact ⟨rfl, HB2.out⟩

theorem right1_any (x : Int) (w : World) : Calls Tryz.prog 51 #[.int .u8 x] w fun e w' => e = .returned (.bool (!moreB x)) ∧ w = w' := by
  have hk := more_any x
  obtain ⟨v, hv⟩ : ∃ v, moreB x = v := ⟨_, rfl⟩
  rw [hv] at hk ⊢
  clear hv
  go_enter Tryz.func51, Tryz.ntmps51
  go_wp2_with (go_at_call 52; refine (hk _).mono ?_; rintro e w' ⟨rfl, rfl⟩)
  go_ret
  exact ⟨rfl, rfl⟩

/-- Where the first byte stands that names don't have. -/
def badIx (l : List UInt8) : Int := match l.findIdx? (fun b => !moreB b.toNat) with | some i => i | none => -1
theorem badIx_ge (l : List UInt8) : decide (0 ≤ badIx l) = l.any (fun b => !moreB b.toNat) := by
  unfold badIx
  split
  · rename_i i h
    have := List.findIdx?_eq_some_iff_findIdx_eq.1 h
    rw [decide_eq_true (by omega)]
    symm
    rw [List.any_eq_true]
    obtain ⟨h1, h2⟩ := this
    exact ⟨l[i], List.getElem_mem h1, by subst h2; exact List.findIdx_getElem (p := fun b : UInt8 => !moreB b.toNat)⟩
  · rename_i h
    rw [List.findIdx?_eq_none_iff] at h
    rw [decide_eq_false (by decide)]
    symm
    rw [List.any_eq_false]
    intro x hx
    simpa using h x hx

set_option maxHeartbeats 4000000 in
theorem indexFunc_any (A : Addr) (s : List UInt8) (cap : Nat) (w : World) (hA : ∃ g, A = ⟨g, 0, none⟩) (hc : ∀ j, j < s.length → w.cell? ⟨A.block, j, none⟩ = some (.int .u8 (s.getD j 0).toNat)) (hl : s.length ≤ 1000000) :
    Calls Tryz.prog 67 #[.slice (some A) s.length cap, .func (.func 51) #[] #[]] w fun e w' => e = .returned (.int .i64 (badIx s)) ∧ w = w' := by
  obtain ⟨g, rfl⟩ := hA
  dsimp only at hc
  obtain ⟨n, hn⟩ : ∃ n, s.length = n := ⟨_, rfl⟩
  have HN := Lib.hid hn
  obtain ⟨X, hX⟩ : ∃ X, badIx s = X := ⟨_, rfl⟩
  rw [hX]
  rw [hn] at hc hl ⊢
  have HX := Lib.hid hX; have HC := Lib.hid hc
  clear hX hn hc
  go_enter Tryz.func67, Tryz.ntmps67
  go_wp2_with fail
  go_loop [8] (fun i => ∃ k : Nat, i = .int .i64 k ∧ k ≤ n ∧ Hid (∀ j, j < k → moreB (s.getD j 0).toNat = true)) (fun i => n - (intOf i).toNat)
  case atStart => exact ⟨0, rfl, Nat.zero_le _, fun j hj => absurd hj (Nat.not_lt_zero _)⟩
  case round =>
    obtain ⟨k, rfl, hk, hall⟩ := hrel
    by_cases hkn : k < n
    · have hcell := HC.out k hkn
      have h1 := right1_any (s.getD k 0).toNat
      obtain ⟨b, hb⟩ : ∃ b : Nat, (s.getD k 0).toNat = b := ⟨_, rfl⟩
      rw [hb] at hcell h1
      obtain ⟨v, hv⟩ : ∃ v, moreB (b : Int) = v := ⟨_, rfl⟩
      rw [hv] at h1
      have Hb := Lib.hid hb; have Hv := Lib.hid hv
      have H1 := Lib.hid h1
      clear hb hv h1
      cases v with
      | true =>
        go_wp2_with fail
        refine (H1.out _).mono ?_
        rintro e w' ⟨rfl, rfl⟩
        go_wp2_with fail
        go_round
        case rel =>
          refine ⟨k + 1, by go_num, by omega, ?_⟩
          intro j hj
          by_cases h : j = k
          · subst h; rw [Hb.out]; exact Hv.out
          · exact hall.out j (by omega)
        case measure => simp [intOf]; omega
      | false =>
        go_wp2_with fail
        refine (H1.out _).mono ?_
        rintro e w' ⟨rfl, rfl⟩
        go_wp2_with fail
        go_ret
        refine ⟨ret_int ?_, rfl⟩
        rw [← HX.out]
        unfold badIx
        have hl := HN.out
        rw [show s.findIdx? (fun b => !moreB b.toNat) = some k by
          rw [List.findIdx?_eq_some_iff_getElem]
          have e : ∀ j, (h : j < s.length) → s[j] = s.getD j 0 := fun j h => by simp [List.getD, List.getElem?_eq_getElem h]
          refine ⟨by omega, ?_, ?_⟩
          · rw [e, Hb.out, Hv.out]; rfl
          · intro j hj
            rw [e, hall.out j hj]; decide]
    · have hke : k = n := by omega
      subst hke
      go_wp2_with fail
      go_ret
      refine ⟨ret_int ?_, rfl⟩
      rw [← HX.out]
      unfold badIx
      have hl := HN.out
      rw [show s.findIdx? (fun b => !moreB b.toNat) = none by
        rw [List.findIdx?_eq_none_iff]
        intro x hx
        obtain ⟨j, hj, e⟩ := List.mem_iff_getElem.1 hx
        have := hall.out j (by omega)
        rw [show s.getD j 0 = x by simp [List.getD, List.getElem?_eq_getElem hj, e]] at this
        rw [this]; rfl]

theorem containsFunc_any (A : Addr) (s : List UInt8) (cap : Nat) (w : World) (hA : ∃ g, A = ⟨g, 0, none⟩) (hc : ∀ j, j < s.length → w.cell? ⟨A.block, j, none⟩ = some (.int .u8 (s.getD j 0).toNat)) (hl : s.length ≤ 1000000) :
    Calls Tryz.prog 50 #[.slice (some A) s.length cap, .func (.func 51) #[] #[]] w fun e w' => e = .returned (.bool (s.any (fun b => !moreB b.toNat))) ∧ w = w' := by
  have h1 := indexFunc_any A s cap w hA hc hl
  rw [← badIx_ge]
  generalize badIx s = x at h1 ⊢
  obtain ⟨n, hn⟩ : ∃ n, s.length = n := ⟨_, rfl⟩
  rw [hn] at h1 ⊢
  have H1 := Lib.hid h1
  clear h1 hn hc hl
  go_enter Tryz.func50, Tryz.ntmps50
  go_wp2_with fail
  refine H1.out.mono ?_
  rintro e w' ⟨rfl, rfl⟩
  go_wp2_with fail
  go_ret
  exact ⟨rfl, rfl⟩
end Go.Proofs.YtkjopcbleefioaaGreatDoor
