/- write: the walk. -/
import Derived.Test.YtkjopcbleefioaaGreatDoorF3
namespace Go.Proofs.YtkjopcbleefioaaGreatDoor
open Go Go.RowKit
set_option linter.unusedSimpArgs false
set_option linter.unusedVariables false

theorem isEmpty_size' (t : ByteArray) : t.toList.isEmpty = decide (t.size = 0) := by
  rw [← decide_eq_emptyBytes]
  rw [Bool.eq_iff_iff, decide_eq_true_eq, decide_eq_true_eq]
  exact ⟨fun h => by rw [h]; rfl, fun h => by
    apply bs_inj
    have := bs_length t
    rw [h] at this
    rw [List.length_eq_zero_iff.1 this]; rfl⟩
theorem bs_append (a b : ByteArray) : bs (a ++ b) = bs a ++ bs b := by
  unfold bs
  rw [ByteArray.data_append, Array.toList_append]
theorem Near.refl (w : World) (v : Value) : Near w v v := .inl rfl
theorem Near.trans {w w1 : World} {v v1 v2 : Value} (h : Near w v v1) (h1 : Near w1 v1 v2) (hs : w.heap.size ≤ w1.heap.size) : Near w v v2 := by
  rcases h1 with h1 | ⟨b, e, hb⟩
  · rcases h with h | ⟨b, e, hb⟩
    · exact .inl (h1.trans h)
    · exact .inr ⟨b, h1.trans e, hb⟩
  · exact .inr ⟨b, e, by omega⟩
def Foot (v : Value) (r k : Nat) : Prop := v.ownBlock = some k ∨ k = r
theorem Foot.near {w : World} {v v1 : Value} {r k : Nat} (h : Near w v v1) (hk : k < w.heap.size) (hf : Foot v1 r k) : Foot v r k := by
  rcases hf with hf | hf
  · rcases h with h | ⟨b, e, hb⟩
    · exact .inl (h ▸ hf)
    · rw [e] at hf; injection hf with hf; omega
  · exact .inr hf
def WritePost (B : Nat) (w w' : World) (r : Nat) (v : Value) (l : List UInt8) (en : Ending) : Prop :=
  ∃ v', en = .returned v' ∧ WriteOk B w' r l v' ∧ Near w v v' ∧ Keeps (Foot v r) w w'
theorem Els.size_take : ∀ {ks : List El} {j : Nat} {k : El}, ks[j]? = some k → Els.size (ks.take j) + El.size k ≤ Els.size ks
  | [], j, k, h => by simp at h
  | x :: ks, 0, k, h => by
    simp at h; subst h
    rw [List.take_zero, Els.size, Els.size]; omega
  | x :: ks, j + 1, k, h => by
    have := Els.size_take (ks := ks) (j := j) (k := k) (by simpa using h)
    rw [List.take_succ_cons, Els.size, Els.size]; omega
/-- Behind a replacement. -/
theorem WriteOk.repd {B r : Nat} {w w' : World} {l : List UInt8} {v : Value} {F : Nat → Prop} (ho : OwnS B w v l) (hB : B ≤ w.heap.size) (hF : ∀ x, F x → B ≤ x ∧ x < w.heap.size) (hv : ∀ x, v.ownBlock = some x → ¬ F x) (hr : F r) (hR : RepOk w' (More F w w') r) (hk : Keeps (· = r) w w') : WriteOk B w' r l v := by
  refine ⟨hk.ownS ho (fun k e h => hv k e (by rw [h]; exact hr)), Nat.le_trans hB hk.size, More F w w', hR, ?_, ?_⟩
  · rintro x (h | h)
    · exact ⟨(hF x h).1, Nat.lt_of_lt_of_le (hF x h).2 hk.size⟩
    · exact ⟨Nat.le_trans hB h.1, h.2⟩
  · rintro x hx (h | h)
    · exact hv x hx h
    · have := (ho.lt hx).1; omega

set_option maxHeartbeats 16000000 in
set_option maxRecDepth 100000 in
theorem write_any (B r : Nat) : ∀ (m : Nat) (e : El), El.size e ≤ m → m ≤ 2097152 → ∀ (b : List UInt8) (v c0 c1 c2 : Value) (w : World), ElR w (· < B) e [c0, c1, c2] → WriteOk B w r b v → b.length + 8 * El.size e ≤ 68719476736 →
    Calls Tryz.prog 24 #[v, .agg #[c0, c1, c2], .pointer (some ⟨r, 0, none⟩)] w fun en w' => WritePost B w w' r v (writeL b e) en := by
  intro m
  induction m with
  | zero => intro e he; have := El.size_pos e; omega
  | succ m ih =>
    intro e he hm b v c0 c1 c2 w hE hW hbl
    obtain ⟨n, t, ks⟩ := e
    obtain ⟨A, cap, hcs, hcap, hks⟩ := hE.form
    injection hcs with h0 hcs
    injection hcs with h1 hcs
    injection hcs with h2 _
    subst h0; subst h1; subst h2
    dsimp only [El.name, El.text, El.kids] at hcap hks ⊢
    have hkl := Els.size_len ks
    rw [El.size] at he hbl
    obtain ⟨X, hX⟩ : ∃ X, writeL b (.mk n t ks) = X := ⟨_, rfl⟩
    rw [hX]
    rw [writeL] at hX
    obtain ⟨hown, hBw, F, hRep, hFB, hFv⟩ := hW
    obtain ⟨V, vc, rfl, hvc⟩ := hown.slice
    have hFr := hRep.1
    obtain ⟨nk, hnk⟩ : ∃ nk, ks.length = nk := ⟨_, rfl⟩
    obtain ⟨N, hN⟩ : ∃ N, sb n = N := ⟨_, rfl⟩
    obtain ⟨T, hT⟩ : ∃ T, sb t = T := ⟨_, rfl⟩
    obtain ⟨bl, hbl2⟩ : ∃ bl, b.length = bl := ⟨_, rfl⟩
    have hNs : N.size = n.length := by rw [← hN, sb_size]
    have hTs : T.size = t.length := by rw [← hT, sb_size]
    have hNb : bs N = n := by rw [← hN, bs_sb]
    have hTb : bs T = t := by rw [← hT, bs_sb]
    have hW0 : WriteOk B w r b (.slice V b.length vc) := ⟨hown, hBw, F, hRep, hFB, hFv⟩
    rw [hbl2] at hW0 hFv hvc hbl
    rw [hN, hT, hnk, hbl2]
    rw [hnk] at hcap hkl hX
    rw [hbl2] at hX hown
    have HKs := Lib.hid hks; have Hnk := Lib.hid hnk; have HNb := Lib.hid hNb; have HTb := Lib.hid hTb; have HW := Lib.hid hW0; have Hih := Lib.hid ih; have HX := Lib.hid hX; have Hbl := Lib.hid hbl2
    have HRep := Lib.hid hRep; have HFB := Lib.hid hFB; have HFv := Lib.hid hFv; have Hown := Lib.hid hown; have HFr := Lib.hid hFr
    have hNl : N.size ≤ 2097152 := by omega
    have hTl : T.size ≤ 2097152 := by omega
    have hnk2 : nk ≤ 2097152 := by omega
    have HNs := Lib.hid hNs; have HTs := Lib.hid hTs
    clear hks hnk hN hT hNb hTb hW0 ih hX hbl2 hRep hFB hFv hown hFr hNs hTs
    by_cases g1 : 1000000 < bl
    · have g1' : (1000000 : Int) < (bl : Int) := by omega
      go_enter Tryz.func24, Tryz.ntmps24
      go_wp2_with fail
      go_ret
      have e : X = b := by rw [← HX.out, if_pos (by exact g1)]
      rw [e]
      exact ⟨_, rfl, HW.out.fresh ((Below.refl _ _).alloc (Nat.le_refl _) _), Near.refl _ _, (Keeps.refl _ _).alloc _⟩
    have g1' : ¬ ((1000000 : Int) < (bl : Int)) := by omega
    obtain ⟨i0, hi, hz0, hz1, hz2⟩ := info_parts infoByte
    have hTe := isEmpty_size' T
    by_cases g2 : T.size = 0 ∧ nk = 0
    · obtain ⟨g2a, g2b⟩ := g2
      rw [decide_eq_true g2a] at hTe
      have hnk0 : ((nk : Int) == 0) = true := by rw [beq_iff_eq]; omega
      have HXe := Lib.hid (show X = b ++ (60 :: (n ++ [47, 62])) by rw [← HX.out, if_neg (by exact g1), if_pos ⟨by rw [← HTs.out]; exact g2a, g2b⟩])
      have HW2 := Lib.hid (HW.out.fresh ((Below.refl _ _).alloc (Nat.le_refl _) (.cells #[.string N, .string T, .slice A nk cap] 24)))
      have hsb : bs ((⟨#[60]⟩ : ByteArray) ++ N ++ ⟨#[47, 62]⟩) = 60 :: (n ++ [47, 62]) := by rw [bs_append, bs_append, HNb.out]; rfl
      have hsz : ((⟨#[60]⟩ : ByteArray) ++ N ++ ⟨#[47, 62]⟩).size = n.length + 3 := by rw [← bs_length, hsb]; simp
      have Hsb := Lib.hid hsb; have Hsz := Lib.hid hsz
      clear g2a g2b hsb hsz
      go_enter Tryz.func24, Tryz.ntmps24
      go_wp2_with (at_builtin; refine wpList_append_ownS _ rfl _ _ 51 9 rfl B i0 Tryz.underlying51 Tryz.underlying9 hi hz0 hz1 hz2 _ _ rfl (Hown.out.alloc _) ((⟨#[60]⟩ : ByteArray) ++ N ++ ⟨#[47, 62]⟩) (by rw [Hsz.out]; omega) rfl (by rw [Hsz.out, Hbl.out]; unfold maxLen; omega) (by rw [Hsz.out, Hbl.out]; omega) HW2.out.2.1 ?_)
      intro v' w2 hown' hgrow hnear
      have HF := Lib.hid (HW2.out.app Hsb.out (by first | rfl | (simp; rfl)) hown' hgrow hnear)
      have HG := Lib.hid hgrow; have HNr := Lib.hid (hnear.from (show w.heap.size ≤ _ by simp))
      clear hown' hgrow hnear hi hz0 hz1 hz2
      go_wp2_with fail
      go_ret
      rw [HXe.out]
      exact ⟨_, rfl, HF.out, HNr.out, ((Keeps.refl _ _).alloc _).grown HG.out (fun k e _ => .inl e)⟩
    · have hTk : ¬ (T.size = 0 ∧ nk = 0) := g2
      have HXe := Lib.hid (show X = writesL (b ++ (60 :: (n ++ (62 :: escS t)))) ks ++ (60 :: 47 :: (n ++ [62])) by rw [← HX.out, if_neg (by exact g1), if_neg (by rw [← HTs.out]; exact g2)])
      have hkA : Keeps (fun _ => False) w (w.alloc (.cells #[.string N, .string T, .slice A nk cap] 24)) := (Keeps.refl _ _).alloc _
      have HRepA : Hid (RepOk (w.alloc (.cells #[.string N, .string T, .slice A nk cap] 24)) F r) := HRep.out.keep hkA (fun _ _ h => h)
      have hEA := Blk.new w [.string N, .string T, .slice A nk cap] 24
      have HEA : Hid (Blk (w.alloc (.cells #[.string N, .string T, .slice A nk cap] 24)) w.heap.size [.string N, .string T, .slice A nk cap] 24) := hEA
      have HOwnA := Lib.hid (Hown.out.alloc (.cells #[.string N, .string T, .slice A nk cap] 24))
      have HW2 := Lib.hid (HW.out.fresh ((Below.refl _ _).alloc (Nat.le_refl _) (.cells #[.string N, .string T, .slice A nk cap] 24)))
      have HFr2 := Lib.hid (HFB.out r HFr.out).2
      have HFt := Lib.hid (show ∀ i, i < B → ¬ Foot (.slice V bl vc) r i from fun i hi h => by
        rcases h with h | h
        · have := (Hown.out.lt h).2; omega
        · have := (HFB.out r HFr.out).1; omega)
      have hsb : bs ((⟨#[60]⟩ : ByteArray) ++ N ++ ⟨#[62]⟩ ++ sb (escS t)) = 60 :: (n ++ (62 :: escS t)) := by rw [bs_append, bs_append, bs_append, HNb.out, bs_sb]; simp [bs]
      have hel := (escS_len_ge t).2
      have hsz : ((⟨#[60]⟩ : ByteArray) ++ N ++ ⟨#[62]⟩ ++ sb (escS t)).size = n.length + 2 + (escS t).length := by rw [← bs_length, hsb]; simp; omega
      have Hsb := Lib.hid hsb; have Hsz := Lib.hid hsz
      clear hkA hEA hsb hsz g2 HX
      cases hT0 : decide (T.size = 0) with
      | true =>
        rw [hT0] at hTe
        have hnk0 : ((nk : Int) == 0) = false := by rw [beq_eq_false_iff_ne]; have := of_decide_eq_true hT0; omega
        clear hTk hT0
        go_enter Tryz.func24, Tryz.ntmps24
        go_upto_region 5 with (fail)
        obtain ⟨WA, hWA⟩ : ∃ WA, w.alloc (.cells #[.string N, .string T, .slice A nk cap] 24) = WA := ⟨_, rfl⟩
        rw [hWA] at HRepA HEA HOwnA HW2
        have HkA := Lib.hid (show Below w.heap.size w WA by rw [← hWA]; exact (Below.refl _ _).alloc (Nat.le_refl _) _)
        rw [hWA]
        clear hWA
        have e0 : WA.cell? ⟨w.heap.size, 0, none⟩ = some (.string N) := HEA.out.cell 0
        have e1 : WA.cell? ⟨w.heap.size, 1, none⟩ = some (.string T) := HEA.out.cell 1
        have hel := HEA.out.lt
        have y1 : ¬ (9223372036854775807 < 1 + N.size) := by omega
        have y2 : ¬ (9223372036854775807 < 1 + N.size + 1) := by omega
        have y3 : ¬ (9223372036854775807 < 1 + N.size + 1 + (sb (escS t)).size) := by have q1 := (escS_len_ge t).2; have q2 := HTs.out; rw [sb_size]; omega
        have kD : Keeps (fun _ => False) WA WA.drew := (Keeps.refl _ _).drew
        have hrp := replace_any F r T WA.drew (HRepA.out.keep kD (fun _ _ h => h)) (fun x hx => Nat.lt_of_lt_of_le (HFB.out x hx).2 (HkA.out.size)) hTl
        rw [HTb.out] at hrp
        have HRp := Lib.hid hrp
        have HEAd := Lib.hid (kD.blk HEA.out (fun h => h))
        have HOwnAd := Lib.hid (kD.ownS HOwnA.out (fun _ _ h => h))
        clear kD hrp
        go_cut [0] (fun s0 wx => ∃ v', s0 = v' ∧ Hid (WriteOk B wx r (b ++ (60 :: (n ++ (62 :: escS t)))) v') ∧ Hid (Near w (.slice V bl vc) v') ∧ Hid (Keeps (Foot (.slice V bl vc) r) w wx) ∧ Hid (Blk wx w.heap.size [.string N, .string T, .slice A nk cap] 24))
        case first =>
          go_region_law (first
            | (go_simp
               go_at_call 37
               refine HRp.out.mono ?_
               rintro en w3 ⟨rfl, hR3, hk3⟩
               have hE3 : Blk w3 w.heap.size _ 24 := hk3.blk HEAd.out (by have := HFr2.out; omega)
               have d0 : w3.cell? ⟨w.heap.size, 0, none⟩ = some (.string N) := hE3.cell 0
               have d1 : w3.cell? ⟨w.heap.size, 1, none⟩ = some (.string T) := hE3.cell 1
               have hs3 : WA.heap.size ≤ w3.heap.size := hk3.size
               have hWx : WriteOk B w3 r b (.slice V bl vc) := WriteOk.repd (w := WA.drew) (F := F) HOwnAd.out (show B ≤ WA.heap.size from HW2.out.2.1) (fun x hx => ⟨(HFB.out x hx).1, Nat.lt_of_lt_of_le (HFB.out x hx).2 HkA.out.size⟩) HFv.out HFr.out hR3 hk3
               have HWx := Lib.hid hWx
               have HK3 := Lib.hid (show Keeps (Foot (.slice V bl vc) r) w w3 from (((Keeps.refl _ w).trans' (Keeps.fresh (D := fun _ => False) HkA.out) (fun _ _ h => h.elim)).drew).trans' hk3 (fun i hi h => .inr h))
               have HE3 := Lib.hid hE3
               have HOwn3 := Lib.hid (hk3.ownS HOwnAd.out (fun k hk e => HFv.out k hk (by rw [e]; exact HFr.out)))
               clear hR3 hk3 hE3 hWx)
            | (refine step_append_ownS rfl _ _ 51 9 rfl B i0 Tryz.underlying51 Tryz.underlying9 hi hz0 hz1 hz2 _ _ rfl HOwn3.out ((⟨#[60]⟩ : ByteArray) ++ N ++ ⟨#[62]⟩ ++ sb (escS t)) (by rw [Hsz.out]; omega) rfl (by rw [Hsz.out, Hbl.out]; unfold maxLen; omega) (by rw [Hsz.out, Hbl.out]; omega) HWx.out.2.1 ?_
               intro v' w4 hown4 hgrow4 hnear4
               have HF4 := Lib.hid (HWx.out.app Hsb.out (by first | rfl | (simp; rfl)) hown4 hgrow4 hnear4)
               have HN4 := Lib.hid (hnear4.from (show w.heap.size ≤ w3.heap.size from HK3.out.size))
               have HK4 := Lib.hid (HK3.out.grown hgrow4 (fun k e _ => .inl e))
               have HE4 := Lib.hid (((Keeps.refl _ _).grown (D := fun k => (Value.slice V bl vc).ownBlock = some k) hgrow4 (fun k e _ => e)).blk HE3.out (HOwn3.out.ne HE3.out (by decide)))
               clear hown4 hgrow4 hnear4))
          all_goals (go_wp2_with fail; go_meet; exact ⟨_, rfl, HF4.out, HN4.out, HK4.out, HE4.out⟩)
        case rest =>
          obtain ⟨v0, rfl, HF0, HN0, HK0, HE0⟩ := hcut
          have hx2 : wc.cell? ⟨w.heap.size, 2, none⟩ = some (.slice A nk cap) := HE0.out.cell 2
          clear e0 e1 HRp HEAd HOwnAd HRepA HEA HOwnA y3
          have HkA2 := HkA
          clear HkA
          go_wp2_with fail
          clear hx2
          go_loopg [42, 0] nk (fun gk i s0 wr => ∃ (j : Nat) (v1 : Value), i = .int .i64 j ∧ s0 = v1 ∧ j + gk = nk ∧ Hid (WriteOk B wr r (writesL (b ++ (60 :: (n ++ (62 :: escS t)))) (ks.take j)) v1) ∧ Hid (Near w (.slice V bl vc) v1) ∧ Hid (Keeps (Foot (.slice V bl vc) r) w wr) ∧ Hid (Blk wr w.heap.size [.string N, .string T, .slice A nk cap] 24))
          case atStart => exact ⟨0, _, rfl, rfl, by omega, HF0.out, HN0.out, HK0.out, HE0.out⟩
          case round =>
            clear HF0 HN0 HK0 HE0
            obtain ⟨j, v1, rfl, hv1, hj, HFr1, HNr1, HKr1, HEr1⟩ := hrel
            have hv2 := hv1.symm
            subst hv2
            by_cases hjk : j < nk
            · have hnkk := Hnk.out
              obtain ⟨k, hk⟩ : ∃ k, ks[j]? = some k := ⟨ks[j]'(by omega), List.getElem?_eq_getElem (by omega)⟩
              have hksr : ElsR wr (· < B) ks A := HKs.out.below (HKr1.out.below' (fun i hi hf => HFt.out i hi hf) hBw)
              obtain ⟨b', off', d0, d1, d2, hA, hbB, g0, g1', g2', gkR⟩ := hksr.at hk
              subst hA
              obtain ⟨A', cap', hcs', _, _⟩ := gkR.form
              injection hcs' with q0 q1
              injection q1 with q1 q2
              injection q2 with q2 _
              subst q0; subst q1; subst q2
              have hsz := Els.size_take hk
              have hkA : Below B wr (wr.alloc (.cells #[.string (sb k.name), .string (sb k.text), .slice A' k.kids.length cap'] 24)) := (Below.refl _ _).alloc HFr1.out.2.1 _
              have hrec := Hih.out k (by omega) (by omega) (writesL (b ++ (60 :: (n ++ (62 :: escS t)))) (ks.take j)) v1 _ _ _ (wr.alloc (.cells #[.string (sb k.name), .string (sb k.text), .slice A' k.kids.length cap'] 24)) (gkR.below hkA) (HFr1.out.fresh ((Below.refl _ _).alloc (Nat.le_refl _) _)) (by
                have q1 := writesL_len (ks.take j) (b ++ (60 :: (n ++ (62 :: escS t))))
                have q2 := (escS_len_ge t).2
                have q3 := Hbl.out
                simp at q1
                omega)
              rw [← writesL_snoc, show ks.take j ++ [k] = ks.take (j + 1) by rw [List.take_add_one, hk]; rfl] at hrec
              have HRec := Lib.hid hrec
              obtain ⟨kN, hkN⟩ : ∃ kN, sb k.name = kN := ⟨_, rfl⟩
              obtain ⟨kT, hkT⟩ : ∃ kT, sb k.text = kT := ⟨_, rfl⟩
              obtain ⟨kL, hkL⟩ : ∃ kL, k.kids.length = kL := ⟨_, rfl⟩
              rw [hkN, hkT, hkL] at HRec
              rw [hkN] at g0; rw [hkT] at g1'; rw [hkL] at g2'
              have hjI : (j : Int) < (nk : Int) := by omega
              clear hrec hkN hkT hkL gkR hkA hksr hk hsz hnkk
              go_wp2_with fail
              refine HRec.out.mono ?_
              rintro en w5 ⟨v5, rfl, hW5, hn5, hk5⟩
              have HW5 := Lib.hid hW5
              have HN5 := Lib.hid (HNr1.out.trans hn5 (by have := HKr1.out.size; simp; omega))
              have HK5 := Lib.hid ((HKr1.out.alloc _).trans' hk5 (fun i hi hf => Foot.near HNr1.out hi hf))
              have HE5 := Lib.hid (hk5.blk (HEr1.out.alloc _) (by
                rintro (h | h)
                · exact HFr1.out.1.ne HEr1.out (by decide) h
                · have := HFr2.out; omega))
              clear hW5 hn5 hk5 HRec g0 g1' g2' HFr1 HNr1 HKr1 HEr1
              go_wp2_with fail
              go_roundg (nk - (j + 1))
              case measure => omega
              case rel => exact ⟨j + 1, v5, by go_num, rfl, by omega, HW5.out, HN5.out, HK5.out, HE5.out⟩
            · have hjI : ¬ ((j : Int) < (nk : Int)) := by omega
              have hx0 : wr.cell? ⟨w.heap.size, 0, none⟩ = some (.string N) := HEr1.out.cell 0
              have z1 : ¬ (9223372036854775807 < 2 + N.size) := by omega
              have z2 : ¬ (9223372036854775807 < 2 + N.size + 1) := by omega
              have hd : ks.take j = ks := List.take_of_length_le (by have := Hnk.out; omega)
              rw [hd] at HFr1
              have hsb2 : bs ((⟨#[60, 47]⟩ : ByteArray) ++ N ++ ⟨#[62]⟩) = 60 :: 47 :: (n ++ [62]) := by rw [bs_append, bs_append, HNb.out]; rfl
              have hsz2 : ((⟨#[60, 47]⟩ : ByteArray) ++ N ++ ⟨#[62]⟩).size = n.length + 3 := by rw [← bs_length, hsb2]; simp
              have hl2 := writesL_len ks (b ++ (60 :: (n ++ (62 :: escS t))))
              have q2 := (escS_len_ge t).2
              have q3 := Hbl.out
              simp at hl2
              have hl3 : (writesL (b ++ (60 :: (n ++ (62 :: escS t)))) ks).length ≤ 68719476736 := by omega
              obtain ⟨Y, hY⟩ : ∃ Y, writesL (b ++ (60 :: (n ++ (62 :: escS t)))) ks = Y := ⟨_, rfl⟩
              have hXe := HXe.out
              rw [hY] at HFr1 hl3 hXe
              have HXe2 := Lib.hid hXe
              have Hsb2 := Lib.hid hsb2; have Hsz2 := Lib.hid hsz2
              have Hown1 := Lib.hid HFr1.out.1
              clear hXe hsb2 hsz2 hl2 q2 q3 hY hd HXe
              go_wp2_with (at_builtin; refine wpList_append_ownS _ rfl _ _ 51 9 rfl B i0 Tryz.underlying51 Tryz.underlying9 hi hz0 hz1 hz2 _ _ rfl Hown1.out ((⟨#[60, 47]⟩ : ByteArray) ++ N ++ ⟨#[62]⟩) (by rw [Hsz2.out]; omega) rfl (by rw [Hsz2.out]; unfold maxLen; omega) (by rw [Hsz2.out]; omega) HFr1.out.2.1 ?_)
              intro v' w2 hown' hgrow hnear
              have HF := Lib.hid (HFr1.out.app Hsb2.out (by first | rfl | (simp; rfl)) hown' hgrow hnear)
              have HG := Lib.hid hgrow; have HNr := Lib.hid (HNr1.out.trans hnear HKr1.out.size)
              have HK9 := Lib.hid (HKr1.out.trans' ((Keeps.refl (fun k => v1.ownBlock = some k) _).grown hgrow (fun k e _ => e)) (fun i hi h => Foot.near HNr1.out hi (.inl h)))
              clear hown' hgrow hnear
              go_wp2_with fail
              go_ret
              rw [HXe2.out]
              exact ⟨_, rfl, HF.out, HNr.out, HK9.out⟩
      | false =>
        rw [hT0] at hTe
        clear hTk hT0
        go_enter Tryz.func24, Tryz.ntmps24
        go_upto_region 5 with (fail)
        obtain ⟨WA, hWA⟩ : ∃ WA, w.alloc (.cells #[.string N, .string T, .slice A nk cap] 24) = WA := ⟨_, rfl⟩
        rw [hWA] at HRepA HEA HOwnA HW2
        have HkA := Lib.hid (show Below w.heap.size w WA by rw [← hWA]; exact (Below.refl _ _).alloc (Nat.le_refl _) _)
        rw [hWA]
        clear hWA
        have e0 : WA.cell? ⟨w.heap.size, 0, none⟩ = some (.string N) := HEA.out.cell 0
        have e1 : WA.cell? ⟨w.heap.size, 1, none⟩ = some (.string T) := HEA.out.cell 1
        have hel := HEA.out.lt
        have y1 : ¬ (9223372036854775807 < 1 + N.size) := by omega
        have y2 : ¬ (9223372036854775807 < 1 + N.size + 1) := by omega
        have y3 : ¬ (9223372036854775807 < 1 + N.size + 1 + (sb (escS t)).size) := by have q1 := (escS_len_ge t).2; have q2 := HTs.out; rw [sb_size]; omega
        have kD : Keeps (fun _ => False) WA WA.drew := (Keeps.refl _ _).drew
        have hrp := replace_any F r T WA.drew (HRepA.out.keep kD (fun _ _ h => h)) (fun x hx => Nat.lt_of_lt_of_le (HFB.out x hx).2 (HkA.out.size)) hTl
        rw [HTb.out] at hrp
        have HRp := Lib.hid hrp
        have HEAd := Lib.hid (kD.blk HEA.out (fun h => h))
        have HOwnAd := Lib.hid (kD.ownS HOwnA.out (fun _ _ h => h))
        clear kD hrp
        go_cut [0] (fun s0 wx => ∃ v', s0 = v' ∧ Hid (WriteOk B wx r (b ++ (60 :: (n ++ (62 :: escS t)))) v') ∧ Hid (Near w (.slice V bl vc) v') ∧ Hid (Keeps (Foot (.slice V bl vc) r) w wx) ∧ Hid (Blk wx w.heap.size [.string N, .string T, .slice A nk cap] 24))
        case first =>
          go_region_law (first
            | (go_simp
               go_at_call 37
               refine HRp.out.mono ?_
               rintro en w3 ⟨rfl, hR3, hk3⟩
               have hE3 : Blk w3 w.heap.size _ 24 := hk3.blk HEAd.out (by have := HFr2.out; omega)
               have d0 : w3.cell? ⟨w.heap.size, 0, none⟩ = some (.string N) := hE3.cell 0
               have d1 : w3.cell? ⟨w.heap.size, 1, none⟩ = some (.string T) := hE3.cell 1
               have hs3 : WA.heap.size ≤ w3.heap.size := hk3.size
               have hWx : WriteOk B w3 r b (.slice V bl vc) := WriteOk.repd (w := WA.drew) (F := F) HOwnAd.out (show B ≤ WA.heap.size from HW2.out.2.1) (fun x hx => ⟨(HFB.out x hx).1, Nat.lt_of_lt_of_le (HFB.out x hx).2 HkA.out.size⟩) HFv.out HFr.out hR3 hk3
               have HWx := Lib.hid hWx
               have HK3 := Lib.hid (show Keeps (Foot (.slice V bl vc) r) w w3 from (((Keeps.refl _ w).trans' (Keeps.fresh (D := fun _ => False) HkA.out) (fun _ _ h => h.elim)).drew).trans' hk3 (fun i hi h => .inr h))
               have HE3 := Lib.hid hE3
               have HOwn3 := Lib.hid (hk3.ownS HOwnAd.out (fun k hk e => HFv.out k hk (by rw [e]; exact HFr.out)))
               clear hR3 hk3 hE3 hWx)
            | (refine step_append_ownS rfl _ _ 51 9 rfl B i0 Tryz.underlying51 Tryz.underlying9 hi hz0 hz1 hz2 _ _ rfl HOwn3.out ((⟨#[60]⟩ : ByteArray) ++ N ++ ⟨#[62]⟩ ++ sb (escS t)) (by rw [Hsz.out]; omega) rfl (by rw [Hsz.out, Hbl.out]; unfold maxLen; omega) (by rw [Hsz.out, Hbl.out]; omega) HWx.out.2.1 ?_
               intro v' w4 hown4 hgrow4 hnear4
               have HF4 := Lib.hid (HWx.out.app Hsb.out (by first | rfl | (simp; rfl)) hown4 hgrow4 hnear4)
               have HN4 := Lib.hid (hnear4.from (show w.heap.size ≤ w3.heap.size from HK3.out.size))
               have HK4 := Lib.hid (HK3.out.grown hgrow4 (fun k e _ => .inl e))
               have HE4 := Lib.hid (((Keeps.refl _ _).grown (D := fun k => (Value.slice V bl vc).ownBlock = some k) hgrow4 (fun k e _ => e)).blk HE3.out (HOwn3.out.ne HE3.out (by decide)))
               clear hown4 hgrow4 hnear4))
          all_goals (go_wp2_with fail; go_meet; exact ⟨_, rfl, HF4.out, HN4.out, HK4.out, HE4.out⟩)
        case rest =>
          obtain ⟨v0, rfl, HF0, HN0, HK0, HE0⟩ := hcut
          have hx2 : wc.cell? ⟨w.heap.size, 2, none⟩ = some (.slice A nk cap) := HE0.out.cell 2
          clear e0 e1 HRp HEAd HOwnAd HRepA HEA HOwnA y3
          have HkA2 := HkA
          clear HkA
          go_wp2_with fail
          clear hx2
          go_loopg [42, 0] nk (fun gk i s0 wr => ∃ (j : Nat) (v1 : Value), i = .int .i64 j ∧ s0 = v1 ∧ j + gk = nk ∧ Hid (WriteOk B wr r (writesL (b ++ (60 :: (n ++ (62 :: escS t)))) (ks.take j)) v1) ∧ Hid (Near w (.slice V bl vc) v1) ∧ Hid (Keeps (Foot (.slice V bl vc) r) w wr) ∧ Hid (Blk wr w.heap.size [.string N, .string T, .slice A nk cap] 24))
          case atStart => exact ⟨0, _, rfl, rfl, by omega, HF0.out, HN0.out, HK0.out, HE0.out⟩
          case round =>
            clear HF0 HN0 HK0 HE0
            obtain ⟨j, v1, rfl, hv1, hj, HFr1, HNr1, HKr1, HEr1⟩ := hrel
            have hv2 := hv1.symm
            subst hv2
            by_cases hjk : j < nk
            · have hnkk := Hnk.out
              obtain ⟨k, hk⟩ : ∃ k, ks[j]? = some k := ⟨ks[j]'(by omega), List.getElem?_eq_getElem (by omega)⟩
              have hksr : ElsR wr (· < B) ks A := HKs.out.below (HKr1.out.below' (fun i hi hf => HFt.out i hi hf) hBw)
              obtain ⟨b', off', d0, d1, d2, hA, hbB, g0, g1', g2', gkR⟩ := hksr.at hk
              subst hA
              obtain ⟨A', cap', hcs', _, _⟩ := gkR.form
              injection hcs' with q0 q1
              injection q1 with q1 q2
              injection q2 with q2 _
              subst q0; subst q1; subst q2
              have hsz := Els.size_take hk
              have hkA : Below B wr (wr.alloc (.cells #[.string (sb k.name), .string (sb k.text), .slice A' k.kids.length cap'] 24)) := (Below.refl _ _).alloc HFr1.out.2.1 _
              have hrec := Hih.out k (by omega) (by omega) (writesL (b ++ (60 :: (n ++ (62 :: escS t)))) (ks.take j)) v1 _ _ _ (wr.alloc (.cells #[.string (sb k.name), .string (sb k.text), .slice A' k.kids.length cap'] 24)) (gkR.below hkA) (HFr1.out.fresh ((Below.refl _ _).alloc (Nat.le_refl _) _)) (by
                have q1 := writesL_len (ks.take j) (b ++ (60 :: (n ++ (62 :: escS t))))
                have q2 := (escS_len_ge t).2
                have q3 := Hbl.out
                simp at q1
                omega)
              rw [← writesL_snoc, show ks.take j ++ [k] = ks.take (j + 1) by rw [List.take_add_one, hk]; rfl] at hrec
              have HRec := Lib.hid hrec
              obtain ⟨kN, hkN⟩ : ∃ kN, sb k.name = kN := ⟨_, rfl⟩
              obtain ⟨kT, hkT⟩ : ∃ kT, sb k.text = kT := ⟨_, rfl⟩
              obtain ⟨kL, hkL⟩ : ∃ kL, k.kids.length = kL := ⟨_, rfl⟩
              rw [hkN, hkT, hkL] at HRec
              rw [hkN] at g0; rw [hkT] at g1'; rw [hkL] at g2'
              have hjI : (j : Int) < (nk : Int) := by omega
              clear hrec hkN hkT hkL gkR hkA hksr hk hsz hnkk
              go_wp2_with fail
              refine HRec.out.mono ?_
              rintro en w5 ⟨v5, rfl, hW5, hn5, hk5⟩
              have HW5 := Lib.hid hW5
              have HN5 := Lib.hid (HNr1.out.trans hn5 (by have := HKr1.out.size; simp; omega))
              have HK5 := Lib.hid ((HKr1.out.alloc _).trans' hk5 (fun i hi hf => Foot.near HNr1.out hi hf))
              have HE5 := Lib.hid (hk5.blk (HEr1.out.alloc _) (by
                rintro (h | h)
                · exact HFr1.out.1.ne HEr1.out (by decide) h
                · have := HFr2.out; omega))
              clear hW5 hn5 hk5 HRec g0 g1' g2' HFr1 HNr1 HKr1 HEr1
              go_wp2_with fail
              go_roundg (nk - (j + 1))
              case measure => omega
              case rel => exact ⟨j + 1, v5, by go_num, rfl, by omega, HW5.out, HN5.out, HK5.out, HE5.out⟩
            · have hjI : ¬ ((j : Int) < (nk : Int)) := by omega
              have hx0 : wr.cell? ⟨w.heap.size, 0, none⟩ = some (.string N) := HEr1.out.cell 0
              have z1 : ¬ (9223372036854775807 < 2 + N.size) := by omega
              have z2 : ¬ (9223372036854775807 < 2 + N.size + 1) := by omega
              have hd : ks.take j = ks := List.take_of_length_le (by have := Hnk.out; omega)
              rw [hd] at HFr1
              have hsb2 : bs ((⟨#[60, 47]⟩ : ByteArray) ++ N ++ ⟨#[62]⟩) = 60 :: 47 :: (n ++ [62]) := by rw [bs_append, bs_append, HNb.out]; rfl
              have hsz2 : ((⟨#[60, 47]⟩ : ByteArray) ++ N ++ ⟨#[62]⟩).size = n.length + 3 := by rw [← bs_length, hsb2]; simp
              have hl2 := writesL_len ks (b ++ (60 :: (n ++ (62 :: escS t))))
              have q2 := (escS_len_ge t).2
              have q3 := Hbl.out
              simp at hl2
              have hl3 : (writesL (b ++ (60 :: (n ++ (62 :: escS t)))) ks).length ≤ 68719476736 := by omega
              obtain ⟨Y, hY⟩ : ∃ Y, writesL (b ++ (60 :: (n ++ (62 :: escS t)))) ks = Y := ⟨_, rfl⟩
              have hXe := HXe.out
              rw [hY] at HFr1 hl3 hXe
              have HXe2 := Lib.hid hXe
              have Hsb2 := Lib.hid hsb2; have Hsz2 := Lib.hid hsz2
              have Hown1 := Lib.hid HFr1.out.1
              clear hXe hsb2 hsz2 hl2 q2 q3 hY hd HXe
              go_wp2_with (at_builtin; refine wpList_append_ownS _ rfl _ _ 51 9 rfl B i0 Tryz.underlying51 Tryz.underlying9 hi hz0 hz1 hz2 _ _ rfl Hown1.out ((⟨#[60, 47]⟩ : ByteArray) ++ N ++ ⟨#[62]⟩) (by rw [Hsz2.out]; omega) rfl (by rw [Hsz2.out]; unfold maxLen; omega) (by rw [Hsz2.out]; omega) HFr1.out.2.1 ?_)
              intro v' w2 hown' hgrow hnear
              have HF := Lib.hid (HFr1.out.app Hsb2.out (by first | rfl | (simp; rfl)) hown' hgrow hnear)
              have HG := Lib.hid hgrow; have HNr := Lib.hid (HNr1.out.trans hnear HKr1.out.size)
              have HK9 := Lib.hid (HKr1.out.trans' ((Keeps.refl (fun k => v1.ownBlock = some k) _).grown hgrow (fun k e _ => e)) (fun i hi h => Foot.near HNr1.out hi (.inl h)))
              clear hown' hgrow hnear
              go_wp2_with fail
              go_ret
              rw [HXe2.out]
              exact ⟨_, rfl, HF.out, HNr.out, HK9.out⟩
end Go.Proofs.YtkjopcbleefioaaGreatDoor
