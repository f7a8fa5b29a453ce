/- end: the innermost element is laid into the one around it. -/
import Derived.Test.YtkjopcbleefioaaGreatDoorP1
import Derived.Deep.RegionHeld3
import Derived.Deep.RegionLaw
import Derived.Laws.OwnMore
namespace Go.Proofs.YtkjopcbleefioaaGreatDoor
open Go Go.RowKit
set_option linter.unusedSimpArgs false
set_option linter.unusedVariables false

def OS.el (o : OS) : El := .mk o.name (elT o.text o.kids) o.kids
def endS (bad : Option (Int × Int)) (l : List OS) : List OS :=
  match bad, l with
  | none, o :: p :: rest => { p with kids := p.kids ++ [o.el] } :: rest
  | _, l => l

theorem own_type_ne {w : World} {base n n' : Nat} {e e' : TypeId} {size size' : Nat} {v v' : Value} {xs xs' : List Value} {base' : Nat} (h : w.ownsRow base e size v n xs) (h' : w.ownsRow base' e' size' v' n' xs') (he : e ≠ e') {b : Nat} (hb : v.ownBlock = some b) : v'.ownBlock ≠ some b := by
  intro hb'
  obtain ⟨c1, h1⟩ := own_type h hb
  obtain ⟨c2, h2⟩ := own_type h' hb'
  rw [h1] at h2; injection h2 with h2; injection h2 with _ h2; exact he h2

theorem own_trunc {w : World} {base pb cp n m : Nat} {e : TypeId} {xs ys : List Value} (h : w.ownsRow base e 1 (.slice (some ⟨pb, 0, none⟩) n cp) n (xs ++ ys)) (hm : xs.length = m) (hmn : m ≤ n) : w.ownsRow base e 1 (.slice (some ⟨pb, 0, none⟩) m cp) m xs := by
  rcases h.2 with ⟨h1, _⟩ | ⟨g, cap, cur, e1, hb, hg, h1, h2, h3, h4⟩
  · cases h1
  · injection e1 with e1 _ e3
    injection e1 with e1
    injection e1 with e1
    subst e1; subst e3
    refine ⟨by omega, .inr ⟨pb, cp, cur, rfl, hb, hg, by omega, h2, h3, ?_⟩⟩
    have := congrArg (List.take m) h4
    have hx : xs.take m = xs := List.take_of_length_le (by omega)
    rw [List.take_take, Nat.min_eq_left (by omega), List.take_append_of_le_length (by omega), hx] at this
    simpa using this

def OG.laid (g2 g1 : OG) (kv' : Value) : OG := { g2 with kids := g2.kids ++ [.mk g1.name (elT g1.text g1.kids) g1.kids], kv := kv' }

theorem RdP.pop {w w' : World} {base r pb cp m : Nat} {s : ByteArray} {st st' : St} {g1 g2 : OG} {G : List OG} {kv' : Value} (hm : G.length + 1 = m)
    (h : RdP w base r s st (.slice (some ⟨pb, 0, none⟩) (G.length + 2) cp) (g1 :: g2 :: G)) (hR : Rd w' r s st' (.slice (some ⟨pb, 0, none⟩) m cp))
    (k : Keeps (fun b => b = r ∨ b = g1.blk ∨ g1.u.ownBlock = some b ∨ b = g2.blk ∨ g2.kv.ownBlock = some b) w w')
    (hB : Blk w' g2.blk (OpCells (.string (sb g2.name)) (.string (sb [])) kv' g2.a g2.u g2.solid) 103)
    (hkv : ∀ cs, w.ownsRow base 24 3 g2.kv g2.kids.length cs → w'.ownsRow base 24 3 kv' (g2.kids.length + 1) (cs ++ [.string (sb g1.name), .string (sb (elT g1.text g1.kids)), g1.kv]))
    (hnew : kv'.ownBlock = g2.kv.ownBlock ∨ ∃ b, kv'.ownBlock = some b ∧ w.heap.size ≤ b) :
    RdP w' base r s st' (.slice (some ⟨pb, 0, none⟩) m cp) (g2.laid g1 kv' :: G) := by
  obtain ⟨bad, hB0, _⟩ := h.rd
  have o1 := h.open_ g1 (by simp)
  have o2 := h.open_ g2 (by simp)
  obtain ⟨cs1, hk1, hks1⟩ := o1.2.2.2.2.2
  obtain ⟨cs2, hk2, hks2⟩ := o2.2.2.2.2.2
  have hpile : w.ownsRow base 93 1 (.slice (some ⟨pb, 0, none⟩) (G.length + 2) cp) (G.length + 2) (((g2 :: G).reverse.map fun g => .pointer (some ⟨g.blk, 0, none⟩)) ++ [.pointer (some ⟨g1.blk, 0, none⟩)]) := by
    have := h.pile; unfold PileIs at this; simpa using this
  have hblk := h.apart.blk
  rw [List.map_cons, List.map_cons, List.nodup_cons, List.nodup_cons] at hblk
  have ub : ∀ g : OG, OpenIs w base (Ok w base (kvs (g1 :: g2 :: G))) g → ∀ b, g.u.ownBlock = some b → b = r ∨ b = g1.blk ∨ b = g2.blk ∨ g2.kv.ownBlock = some b → False := by
    intro g hg b hb h'
    have hu := hg.2.2.2.1
    rcases h' with rfl | rfl | rfl | h'
    · exact own_ne hu hB0 (by decide) hb
    · exact own_ne hu o1.1 (by decide) hb
    · exact own_ne hu o2.1 (by decide) hb
    · exact own_type_ne hu hk2 (by decide) hb h'
  have hok : ∀ b, Ok w base (kvs (g1 :: g2 :: G)) b → w'.heap[b]? = w.heap[b]? ∧ Ok w' base (kvs (g2.laid g1 kv' :: G)) b := by
    refine Ok.keep k ?_ ?_
    · rintro b cs fr hb (rfl | rfl | e | rfl | e)
      · unfold Blk at hB0; rw [hb] at hB0; injection hB0 with hB0; injection hB0 with _ hB0; exact absurd hB0 (by decide)
      · have := o1.1; unfold Blk at this; rw [hb] at this; injection this with this; injection this with _ this; exact absurd this (by decide)
      · obtain ⟨cs', hb'⟩ := own_type o1.2.2.2.1 e
        rw [hb] at hb'; injection hb' with hb'; injection hb' with _ hb'; exact absurd hb' (by decide)
      · have := o2.1; unfold Blk at this; rw [hb] at this; injection this with this; injection this with _ this; exact absurd this (by decide)
      · simp [kvs, e]
    · intro b hb
      rcases List.mem_cons.1 hb with hb | hb
      · rcases hnew with e | ⟨b', e, hb'⟩
        · left; simp [kvs]; right; left; rw [← e]; exact hb
        · right
          have : some b = some b' := hb.trans e
          injection this with this
          omega
      · left; simp only [kvs, List.map_cons, List.mem_cons]; exact .inr (.inr hb)
  have hkvK : ∀ b, g1.kv.ownBlock = some b → w'.heap[b]? = w.heap[b]? ∧ Ok w' base (kvs (g2.laid g1 kv' :: G)) b := by
    intro b hb
    obtain ⟨cs, hbk⟩ := own_type hk1 hb
    have hlt := (own_lt hk1 hb)
    have hap := h.apart.kv
    rw [List.filterMap_cons, hb] at hap
    dsimp only at hap
    rw [List.nodup_cons] at hap
    have hne2 : g2.kv.ownBlock ≠ some b := by
      intro e
      apply hap.1
      rw [List.mem_filterMap]
      exact ⟨g2, by simp, e⟩
    have e := k.block b hlt.1 (by
      rintro (rfl | rfl | e | rfl | e)
      · exact own_ne hk1 hB0 (by decide) hb
      · exact own_ne hk1 o1.1 (by decide) hb
      · exact own_type_ne hk1 o1.2.2.2.1 (by decide) hb e
      · exact own_ne hk1 o2.1 (by decide) hb
      · exact hne2 e)
    refine ⟨e, hlt.2, ⟨cs, (0, 0), e.trans hbk⟩, fun hm => ?_⟩
    rcases List.mem_cons.1 hm with hm | hm
    · rcases hnew with e' | ⟨b', e', hb'⟩
      · exact hne2 (e'.symm.trans hm.symm)
      · have : some b = some b' := hm.trans e'
        injection this with this
        omega
    · apply hap.1
      obtain ⟨g, hg, eg⟩ := List.mem_map.1 hm
      rw [List.mem_filterMap]
      exact ⟨g, List.mem_cons_of_mem _ hg, eg⟩
  refine ⟨hR, h.le, Nat.le_trans h.size k.size, ?_, ?_, ?_⟩
  · have ht := own_trunc (m := m) hpile (by simp; omega) (by omega)
    have hl : (g2.laid g1 kv' :: G).length = m := by simp; omega
    unfold PileIs
    rw [hl]
    refine k.own ?_ ?_
    · have e : ((g2.laid g1 kv' :: G).reverse.map fun g => Value.pointer (some ⟨g.blk, 0, none⟩)) = ((g2 :: G).reverse.map fun g => .pointer (some ⟨g.blk, 0, none⟩)) := by
        simp [OG.laid]
      rw [e]; exact ht
    · rintro b hb (rfl | rfl | e | rfl | e)
      · exact own_ne ht hB0 (by decide) hb
      · exact own_ne ht o1.1 (by decide) hb
      · exact own_type_ne ht o1.2.2.2.1 (by decide) hb e
      · exact own_ne ht o2.1 (by decide) hb
      · exact own_type_ne ht hk2 (by decide) hb e
  · intro g hg
    rcases List.mem_cons.1 hg with rfl | hg
    · refine ⟨hB, o2.2.1, o2.2.2.1, k.own o2.2.2.2.1 ?_, o2.2.2.2.2.1, cs2 ++ [.string (sb g1.name), .string (sb (elT g1.text g1.kids)), g1.kv], ?_, ?_⟩
      · rintro b hb (e | e | e | e | e)
        · exact ub g2 o2 b hb (.inl e)
        · exact ub g2 o2 b hb (.inr (.inl e))
        · have hap := h.apart.u
          rw [List.filterMap_cons, e] at hap
          dsimp only at hap
          rw [List.nodup_cons] at hap
          apply hap.1
          rw [List.mem_filterMap]
          exact ⟨g2, by simp, hb⟩
        · exact ub g2 o2 b hb (.inr (.inr (.inl e)))
        · exact ub g2 o2 b hb (.inr (.inr (.inr e)))
      · have := hkv cs2 hk2
        simpa [OG.laid] using this
      · refine KidsR.snoc ?_ g2.kids cs2 (hks2.mono hok)
        obtain ⟨A, c, e, hc⟩ := own_slice hk1
        rw [ElR, e]
        refine ⟨A, c, rfl, hc, ?_⟩
        cases hg1 : g1.kids with
        | nil => rw [ElsR]; trivial
        | cons x xs =>
          obtain ⟨b, cap, e2, hb1, hb2⟩ := hk1.form (by rw [hg1]; simp)
          rw [e] at e2
          injection e2 with e2
          subst e2
          have hb := hkvK b (by rw [e]; rfl)
          rw [← hg1]
          refine KidsR.at hb.2 g1.kids cs1 0 (hks1.mono hok) ?_
          intro j u hu
          have hc := hk1.cells (g := b) (by rw [e]; rfl) j u hu
          have ha : ((⟨b, 0, none⟩ : Addr).add j) = ⟨b, 0 + j, none⟩ := by unfold Addr.add; split <;> simp_all
          rw [ha] at hc
          exact (World.cell?_of_block (w := w) (w' := w') (a := ⟨b, 0 + j, none⟩) hb.1).trans hc
    · have hg' := h.open_ g (by simp [hg])
      have hgb : g.blk ∈ G.map (·.blk) := List.mem_map.2 ⟨g, hg, rfl⟩
      refine hg'.keep k hok ?_ ?_ ?_
      · rintro (e | e | e | e | e)
        · exact hg'.1.ne hB0 (by decide) e
        · exact hblk.1 (e ▸ List.mem_cons_of_mem _ hgb)
        · exact own_ne o1.2.2.2.1 hg'.1 (by decide) e
        · exact hblk.2.1 (e ▸ hgb)
        · exact own_ne hk2 hg'.1 (by decide) e
      · rintro b hb (e | e | e | e | e)
        · exact ub g hg' b hb (.inl e)
        · exact ub g hg' b hb (.inr (.inl e))
        · have hap := h.apart.u
          rw [List.filterMap_cons, e] at hap
          dsimp only at hap
          rw [List.nodup_cons] at hap
          apply hap.1
          rw [List.mem_filterMap]
          exact ⟨g, by simp [hg], hb⟩
        · exact ub g hg' b hb (.inr (.inr (.inl e)))
        · exact ub g hg' b hb (.inr (.inr (.inr e)))
      · obtain ⟨cs, hk, _⟩ := hg'.2.2.2.2.2
        rintro b hb (rfl | rfl | e | rfl | e)
        · exact own_ne hk hB0 (by decide) hb
        · exact own_ne hk o1.1 (by decide) hb
        · exact own_type_ne hk o1.2.2.2.1 (by decide) hb e
        · exact own_ne hk o2.1 (by decide) hb
        · have hap := h.apart.kv
          have hap2 : ((g2 :: G).filterMap (·.kv.ownBlock)).Nodup := by
            rw [List.filterMap_cons] at hap
            split at hap
            · exact hap
            · exact (List.nodup_cons.1 hap).2
          rw [List.filterMap_cons, e] at hap2
          dsimp only at hap2
          rw [List.nodup_cons] at hap2
          apply hap2.1
          rw [List.mem_filterMap]
          exact ⟨g, hg, hb⟩
  · refine ⟨hblk.2.2 |> fun hnd => ?_, ?_, ?_⟩
    · exact List.nodup_cons.2 ⟨hblk.2.1, hnd⟩
    · have hap := h.apart.u
      have : ((g2 :: G).filterMap (·.u.ownBlock)).Nodup := by
        rw [List.filterMap_cons] at hap
        split at hap
        · exact hap
        · exact (List.nodup_cons.1 hap).2
      exact this
    · have hap := h.apart.kv
      have hap2 : ((g2 :: G).filterMap (·.kv.ownBlock)).Nodup := by
        rw [List.filterMap_cons] at hap
        split at hap
        · exact hap
        · exact (List.nodup_cons.1 hap).2
      have hapG : (G.filterMap (·.kv.ownBlock)).Nodup := by
        rw [List.filterMap_cons] at hap2
        split at hap2
        · exact hap2
        · exact (List.nodup_cons.1 hap2).2
      rcases hnew with e | ⟨b, e, hb⟩
      · rw [List.filterMap_cons] at hap2 ⊢
        rw [show (g2.laid g1 kv').kv = kv' from rfl, e]
        exact hap2
      · rw [List.filterMap_cons]
        rw [show (g2.laid g1 kv').kv = kv' from rfl, e]
        dsimp only
        rw [List.nodup_cons]
        refine ⟨fun hm => ?_, hapG⟩
        rw [List.mem_filterMap] at hm
        obtain ⟨g, hg, eg⟩ := hm
        obtain ⟨cs, hk, _⟩ := (h.open_ g (by simp [hg])).2.2.2.2.2
        have := (own_lt hk eg).1
        omega

theorem own_unique {w : World} {base base' n size : Nat} {e : TypeId} {v : Value} {xs ys : List Value} (h : w.ownsRow base e size v n xs) (h' : w.ownsRow base' e size v n ys) : xs = ys := by
  rcases h.2 with ⟨h1, h2⟩ | ⟨g, cap, cur, e1, hb, hg, h1, h2, h3, h4⟩
  · have a := h.1; have b := h'.1
    rw [h2, Nat.zero_mul] at a b
    rw [List.length_eq_zero_iff.1 a, List.length_eq_zero_iff.1 b]
  · rcases h'.2 with ⟨h1', _⟩ | ⟨g', cap', cur', e1', hb', hg', _, _, _, h4'⟩
    · rw [e1] at h1'; cases h1'
    · rw [e1] at e1'
      injection e1' with e1' _ _
      injection e1' with e1'
      injection e1' with e1'
      subst e1'
      rw [hg] at hg'
      injection hg' with hg'
      injection hg' with hg' _ _
      rw [← h4, ← h4', hg']

theorem pop_end {w w1 wE wA wF : World} {base r pb cp m gg cap : Nat} {s : ByteArray} {st : St} {g1 g2 : OG} {G : List OG} {cs2 : List Value} {A2 : Option Addr} {cap2 : Nat} {A1 : Option Addr} {cap1 : Nat} (hm : G.length + 1 = m)
    (h : RdP w base r s st (.slice (some ⟨pb, 0, none⟩) (G.length + 2) cp) (g1 :: g2 :: G)) (hk1 : Keeps (· = r) w w1) (hR1 : Rd w1 r s st (.slice (some ⟨pb, 0, none⟩) m cp))
    (he1 : g1.kv = .slice A1 g1.kids.length cap1) (he2 : g2.kv = .slice A2 g2.kids.length cap2)
    (hkv : w1.ownsRow base 24 3 (.slice A2 g2.kids.length cap2) g2.kids.length cs2)
    (hkE : Keeps (fun b => b = g1.blk ∨ g1.u.ownBlock = some b) w1 wE) (hkEA : Keeps (fun b => (Value.slice A2 g2.kids.length cap2).ownBlock = some b) wE wA)
    (hown : wA.ownsRow base 24 3 (.slice (some ⟨gg, 0, none⟩) (g2.kids.length + 1) cap) (g2.kids.length + 1) (cs2 ++ [.string ⟨#[]⟩, .string ⟨#[]⟩, .slice none 0 0]))
    (hat : (Value.slice A2 g2.kids.length cap2).ownBlock = some gg ∨ wE.heap.size ≤ gg)
    (hBA : Blk wA g2.blk (OpCells (.string (sb g2.name)) (.string (sb [])) (.slice A2 g2.kids.length cap2) g2.a g2.u g2.solid) 103)
    (hF : wF = (((wA.setCell ⟨gg, g2.kids.length * 3, none⟩ (.string (sb g1.name))).setCell ⟨gg, g2.kids.length * 3 + 1, none⟩ (.string (sb (elT g1.text g1.kids)))).setCell ⟨gg, g2.kids.length * 3 + 2, none⟩ (.slice A1 g1.kids.length cap1)).setCell ⟨g2.blk, 2, none⟩ (.slice (some ⟨gg, 0, none⟩) (g2.kids.length + 1) cap) ∨
      wF = (((wA.setCell ⟨g2.blk, 2, none⟩ (.slice (some ⟨gg, 0, none⟩) (g2.kids.length + 1) cap)).setCell ⟨gg, g2.kids.length * 3, none⟩ (.string (sb g1.name))).setCell ⟨gg, g2.kids.length * 3 + 1, none⟩ (.string (sb (elT g1.text g1.kids)))).setCell ⟨gg, g2.kids.length * 3 + 2, none⟩ (.slice A1 g1.kids.length cap1)) :
    RdP wF base r s st (.slice (some ⟨pb, 0, none⟩) m cp) (g2.laid g1 (.slice (some ⟨gg, 0, none⟩) (g2.kids.length + 1) cap) :: G) ∧ Keeps (fun b => b = r ∨ base ≤ b) w wF := by
  have hkw1 : Keeps (fun b => b = g1.blk ∨ g1.u.ownBlock = some b ∨ b = g2.blk ∨ g2.kv.ownBlock = some b) w1 wA := by
    refine (hkE.mono (fun i _ e => ?_)).trans' hkEA (fun i _ e => ?_)
    · rcases e with e | e
      · exact .inl e
      · exact .inr (.inl e)
    · exact .inr (.inr (.inr (by rw [he2]; exact e)))
  have hgz : gg < w1.heap.size → g2.kv.ownBlock = some gg := by
    intro hlt
    rcases hat with h' | h'
    · rw [he2]; exact h'
    · have a2 := hkE.size; omega
  have hneg : gg ≠ g2.blk := fun e => own_ne hown hBA (by decide) (by rw [← e]; rfl)
  have hcs : cs2.length = g2.kids.length * 3 := hkv.1
  have kset : ∀ {W : World} (j : Nat) (u : Value), Keeps (fun b => b = g1.blk ∨ g1.u.ownBlock = some b ∨ b = g2.blk ∨ g2.kv.ownBlock = some b) w1 W → Keeps (fun b => b = g1.blk ∨ g1.u.ownBlock = some b ∨ b = g2.blk ∨ g2.kv.ownBlock = some b) w1 (W.setCell ⟨gg, j, none⟩ u) :=
    fun j u hk => hk.set (fun hlt => .inr (.inr (.inr (hgz hlt)))) u
  have kset2 : ∀ {W : World} (u : Value), Keeps (fun b => b = g1.blk ∨ g1.u.ownBlock = some b ∨ b = g2.blk ∨ g2.kv.ownBlock = some b) w1 W → Keeps (fun b => b = g1.blk ∨ g1.u.ownBlock = some b ∨ b = g2.blk ∨ g2.kv.ownBlock = some b) w1 (W.setCell ⟨g2.blk, 2, none⟩ u) :=
    fun u hk => hk.set (fun _ => .inr (.inr (.inl rfl))) u
  have hkF1 : Keeps (fun b => b = g1.blk ∨ g1.u.ownBlock = some b ∨ b = g2.blk ∨ g2.kv.ownBlock = some b) w1 wF := by
    rcases hF with rfl | rfl
    · exact kset2 _ (kset _ _ (kset _ _ (kset _ _ hkw1)))
    · exact kset _ _ (kset _ _ (kset _ _ (kset2 _ hkw1)))
  have hkF : Keeps (fun b => b = r ∨ b = g1.blk ∨ g1.u.ownBlock = some b ∨ b = g2.blk ∨ g2.kv.ownBlock = some b) w wF :=
    (hk1.mono (fun i _ e => .inl e)).trans' hkF1 (fun i _ e => .inr e)
  have hBF : Blk wF g2.blk (OpCells (.string (sb g2.name)) (.string (sb [])) (.slice (some ⟨gg, 0, none⟩) (g2.kids.length + 1) cap) g2.a g2.u g2.solid) 103 := by
    rcases hF with rfl | rfl
    · exact Blk.set (((hBA.far (p := ⟨gg, _, none⟩) (fun e => hneg e.symm) _).far (p := ⟨gg, _, none⟩) (fun e => hneg e.symm) _).far (p := ⟨gg, _, none⟩) (fun e => hneg e.symm) _) 2 _
    · exact ((Blk.far (p := ⟨gg, _, none⟩) (hBA.set 2 _) (fun e => hneg e.symm) _).far (p := ⟨gg, _, none⟩) (fun e => hneg e.symm) _).far (p := ⟨gg, _, none⟩) (fun e => hneg e.symm) _
  have hset : (((cs2 ++ [Value.string ⟨#[]⟩, .string ⟨#[]⟩, .slice none 0 0]).set (g2.kids.length * 3) (.string (sb g1.name))).set (g2.kids.length * 3 + 1) (.string (sb (elT g1.text g1.kids)))).set (g2.kids.length * 3 + 2) (.slice A1 g1.kids.length cap1) = cs2 ++ [.string (sb g1.name), .string (sb (elT g1.text g1.kids)), .slice A1 g1.kids.length cap1] := by
    rw [← hcs]
    rw [List.set_append_right _ _ (by omega), List.set_append_right _ _ (by omega), List.set_append_right _ _ (by omega), Nat.sub_self, Nat.add_sub_cancel_left, Nat.add_sub_cancel_left]
    rfl
  have hoF : wF.ownsRow base 24 3 (.slice (some ⟨gg, 0, none⟩) (g2.kids.length + 1) cap) (g2.kids.length + 1) (cs2 ++ [.string (sb g1.name), .string (sb (elT g1.text g1.kids)), .slice A1 g1.kids.length cap1]) := by
    rw [← hset]
    rcases hF with rfl | rfl
    · exact ownsRow_setCell_other ((((hown.stored _ _).1.stored _ _).1.stored _ _).1) (a := ⟨g2.blk, 2, none⟩) (fun e => hneg (by injection e)) _
    · exact ((((ownsRow_setCell_other hown (a := ⟨g2.blk, 2, none⟩) (fun e => hneg (by injection e)) (.slice (some ⟨gg, 0, none⟩) (g2.kids.length + 1) cap)).stored _ _).1.stored _ _).1.stored _ _).1
  have hRF : Rd wF r s st (.slice (some ⟨pb, 0, none⟩) m cp) := by
    have o1 := h.open_ g1 (by simp)
    have o2 := h.open_ g2 (by simp)
    obtain ⟨bad', hB', _⟩ := h.rd
    have n1 : g1.blk ≠ r := o1.1.ne hB' (by decide)
    have n2 : g2.blk ≠ r := o2.1.ne hB' (by decide)
    have n3 : g1.u.ownBlock ≠ some r := own_ne o1.2.2.2.1 hB' (by decide)
    obtain ⟨csx, hkx, _⟩ := o2.2.2.2.2.2
    have n4 : g2.kv.ownBlock ≠ some r := own_ne hkx hB' (by decide)
    have b1 := hk1.blk o1.1 n1
    have b2 := hk1.blk o2.1 n2
    have b3 := hk1.own o1.2.2.2.1 (fun k hk e => n3 (by rw [hk, e]))
    have b4 := hk1.own hkx (fun k hk e => n4 (by rw [hk, e]))
    refine hR1.keep hkF1 ?_ ?_
    · rintro (e | e | e | e)
      · exact n1 e.symm
      · exact n3 e
      · exact n2 e.symm
      · exact n4 e
    · rintro b cs hb (e | e | e | e)
      · exact hb.ne b1 (by decide) e
      · exact own_ne b3 hb (by decide) e
      · exact hb.ne b2 (by decide) e
      · exact own_ne b4 hb (by decide) e
  refine ⟨h.pop hm hRF hkF hBF ?_ ?_, hkF.mono ?_⟩
  · intro cs hcs'
    obtain ⟨bad', hB', _⟩ := h.rd
    have := hk1.own hcs' (fun b hb e => own_ne hcs' hB' (by decide) (by rw [hb, e]))
    rw [he2] at this
    rw [own_unique this hkv, he1]
    exact hoF
  · rcases hat with e | e
    · left; rw [he2]; exact e.symm
    · right; exact ⟨gg, rfl, by have a1 := hk1.size; have a2 := hkE.size; omega⟩
  · have o1 := h.open_ g1 (by simp)
    have o2 := h.open_ g2 (by simp)
    rintro i _ (e | e | e | e | e)
    · exact .inl e
    · right; rw [e]; exact o1.2.1
    · exact .inr (own_lt o1.2.2.2.1 e).2
    · right; rw [e]; exact o2.2.1
    · exact .inr (own_lt o2.2.2.2.2.2.choose_spec.1 e).2

theorem infoEl24 : (Tryz.prog.info? 24).map (fun i => (i.zero, i.size, i.bytes)) = some (some (.agg #[.string ⟨#[]⟩, .string ⟨#[]⟩, .slice none 0 0]), 3, 56) := by kernel_rfl

set_option maxHeartbeats 8000000 in
set_option maxRecDepth 100000 in
theorem end_two (base r : Nat) (s : ByteArray) (k : Nat) (g1 g2 : OG) (G : List OG) (pv : Value) (w : World) (hP : RdP w base r s ⟨k, none⟩ pv (g1 :: g2 :: G)) (hn : G.length ≤ 20) (hkl1 : g1.kids.length ≤ 1000000) (hkl2 : g2.kids.length ≤ 1000000) :
    Calls Tryz.prog 62 #[.pointer (some ⟨r, 0, none⟩)] w fun e w' => e = .returned (.tuple #[]) ∧ ∃ pv' kv', RdP w' base r s ⟨k, none⟩ pv' (g2.laid g1 kv' :: G) ∧ Keeps (fun b => b = r ∨ base ≤ b) w w' := by
  have HP := Lib.hid hP
  have hpile : w.ownsRow base 93 1 pv (G.length + 2) ((G.reverse.map fun g => .pointer (some ⟨g.blk, 0, none⟩)) ++ [.pointer (some ⟨g2.blk, 0, none⟩), .pointer (some ⟨g1.blk, 0, none⟩)]) := by
    have := hP.pile; unfold PileIs at this; simpa using this
  obtain ⟨pb, cp, rfl, hpb, hpbl⟩ := hpile.form (by omega)
  obtain ⟨L, hL⟩ : ∃ L, G.length = L := ⟨_, rfl⟩
  rw [hL] at hn hpile hP
  have hpc1 := hpile.cellAt (L + 1) (by omega)
  rw [show ((G.reverse.map fun g => Value.pointer (some ⟨g.blk, 0, none⟩)) ++ [.pointer (some ⟨g2.blk, 0, none⟩), .pointer (some ⟨g1.blk, 0, none⟩)])[L + 1]? = some (.pointer (some ⟨g1.blk, 0, none⟩)) by
    rw [List.getElem?_append_right (by simp; omega)]; simp [hL]] at hpc1
  have hpc0 := hpile.cellAt L (by omega)
  rw [show ((G.reverse.map fun g => Value.pointer (some ⟨g.blk, 0, none⟩)) ++ [.pointer (some ⟨g2.blk, 0, none⟩), .pointer (some ⟨g1.blk, 0, none⟩)])[L]? = some (.pointer (some ⟨g2.blk, 0, none⟩)) by
    rw [List.getElem?_append_right (by simp; omega)]; simp [hL]] at hpc0
  obtain ⟨c0, c1, c3, f1, f3, hl⟩ := hP.rd.cells
  have c2 := hP.rd.none
  dsimp only at c1
  clear hP
  have hmc0 : L + 2 ≤ cp := by obtain ⟨_, _, e, hc⟩ := own_slice hpile; cases e; exact hc
  have hne1 : (((L + 2 : Nat) : Int) == 1) = false := by rw [beq_eq_false_iff_ne]; omega
  obtain ⟨m, hm⟩ : ∃ m, L + 1 = m := ⟨_, rfl⟩
  rw [hm] at hpc1
  have HPile := Lib.hid hpile
  have HL := Lib.hid hL
  clear hpile hL
  go_enter Tryz.func62, Tryz.ntmps62
  go_wp2_with fail
  rw [show (L : Int) + 2 - 1 = (m : Int) by omega]
  have s2 : IntKind.i64.wrap ((m : Int) - 1) = (L : Int) := by rw [IntWalk.i64_in _ (by omega)]; omega
  have b1 : (m : Int) < (L : Int) + 2 := by omega
  have b2 : (0 : Int) ≤ (m : Int) := by omega
  have b3 : (L : Int) < (L : Int) + 2 := by omega
  have b4 : (0 : Int) ≤ (L : Int) := by omega
  go_quiet (fail)
  clear s2
  have hmc : m ≤ cp := by omega
  go_wp2_with fail
  clear c0 c1 c2 c3 f1 f3 hl hpc0 hpc1 b1 b2 b3 b4 hne1
  have hk1 : Keeps (· = r) w ((w.drewN nq).setCell ⟨r, 3, none⟩ (.slice (some ⟨pb, 0, none⟩) m cp)) := ((Keeps.refl _ w).drewN nq).set1 3 _
  have hR1 : Rd ((w.drewN nq).setCell ⟨r, 3, none⟩ (.slice (some ⟨pb, 0, none⟩) m cp)) r s ⟨k, none⟩ (.slice (some ⟨pb, 0, none⟩) m cp) := (HP.out.rd.drewN nq).setPile _
  obtain ⟨w1, hw1⟩ : ∃ w1, (w.drewN nq).setCell ⟨r, 3, none⟩ (.slice (some ⟨pb, 0, none⟩) m cp) = w1 := ⟨_, rfl⟩
  rw [hw1] at hk1 hR1 ⊢
  clear hw1
  obtain ⟨bad0, hB0, _, _⟩ := HP.out.rd
  have hok : ∀ b, Ok w base (kvs (g1 :: g2 :: G)) b → w1.heap[b]? = w.heap[b]? ∧ Ok w base (kvs (g1 :: g2 :: G)) b := by
    rintro b ⟨h1, ⟨cs, fr, h2⟩, h3⟩
    refine ⟨hk1.block b (Array.getElem?_eq_some_iff.1 h2).1 ?_, h1, ⟨cs, fr, h2⟩, h3⟩
    rintro rfl
    have := hB0
    unfold Blk at this; rw [h2] at this; injection this with this; injection this with _ this; exact absurd this (by decide)
  have o1 : OpenIs w1 base (Ok w base (kvs (g1 :: g2 :: G))) g1 := (HP.out.open_ g1 (by simp)).keep hk1 hok (fun e => (HP.out.open_ g1 (by simp)).1.ne hB0 (by decide) e)
    (fun b hb e => own_ne (HP.out.open_ g1 (by simp)).2.2.2.1 hB0 (by decide) (by rw [hb, e]))
    (fun b hb e => own_ne (HP.out.open_ g1 (by simp)).2.2.2.2.2.choose_spec.1 hB0 (by decide) (by rw [hb, e]))
  have o2 : OpenIs w1 base (Ok w base (kvs (g1 :: g2 :: G))) g2 := (HP.out.open_ g2 (by simp)).keep hk1 hok (fun e => (HP.out.open_ g2 (by simp)).1.ne hB0 (by decide) e)
    (fun b hb e => own_ne (HP.out.open_ g2 (by simp)).2.2.2.1 hB0 (by decide) (by rw [hb, e]))
    (fun b hb e => own_ne (HP.out.open_ g2 (by simp)).2.2.2.2.2.choose_spec.1 hB0 (by decide) (by rw [hb, e]))
  have hB2 := o2.1
  obtain ⟨cs2, hk2, hks2⟩ := o2.2.2.2.2.2
  obtain ⟨A2, cap2, e2, hcap2⟩ := own_slice hk2
  obtain ⟨cs1, hk1s, _⟩ := o1.2.2.2.2.2
  obtain ⟨A1, cap1, e1, hcap1⟩ := own_slice hk1s
  have HE1 := Lib.hid e1
  clear hk1s e1
  have d2 : w1.cell? ⟨g2.blk, 2, none⟩ = some (.slice A2 g2.kids.length cap2) := by rw [← e2]; exact hB2.cell 2
  have f2 := hB2.free 2
  have hl2 := hB2.lt
  have hbs : base ≤ w1.heap.size := Nat.le_trans HP.out.size hk1.size
  have hne12 : g2.blk ≠ g1.blk := by
    have := HP.out.apart.blk
    simp at this
    exact fun e => this.1.1 e.symm
  have hu12 : g1.u.ownBlock ≠ some g2.blk := own_ne o1.2.2.2.1 hB2 (by decide)
  rw [e2] at hk2 hB2
  obtain ⟨i0, hi, hz0, hz1, hz2⟩ := info_parts infoEl24
  have hO1a : ∀ o, OpenIs (w1.drew.alloc o) base (Ok w base (kvs (g1 :: g2 :: G))) g1 := fun o =>
    OpenIs.keep (w := w1) o1 (((Keeps.refl (fun _ => False) w1).drew).alloc o) (fun b hb => ⟨Below.heap_alloc w1.drew o b (Nat.lt_of_lt_of_le (Array.getElem?_eq_some_iff.1 hb.2.1.choose_spec.choose_spec).1 hk1.size), hb⟩) (fun h => h) (fun _ _ h => h) (fun _ _ h => h)
  have hO1d : OpenIs w1.drew base (Ok w base (kvs (g1 :: g2 :: G))) g1 :=
    OpenIs.keep (w := w1) o1 ((Keeps.refl (fun _ => False) w1).drew) (fun b hb => ⟨rfl, hb⟩) (fun h => h) (fun _ _ h => h) (fun _ _ h => h)
  have hnD : ¬ (g2.blk = g1.blk ∨ g1.u.ownBlock = some g2.blk) := by rintro (e | e); exact hne12 e; exact hu12 e
  have hnDk : ∀ b, (Value.slice A2 g2.kids.length cap2).ownBlock = some b → ¬ (b = g1.blk ∨ g1.u.ownBlock = some b) := by
    rintro b hb (e | e)
    · exact own_ne hk2 o1.1 (by decide) (by rw [hb, e])
    · exact own_type_ne hk2 o1.2.2.2.1 (by decide) hb e
  have hnDN : ¬ (w1.heap.size = g1.blk ∨ g1.u.ownBlock = some w1.heap.size) := by
    rintro (e | e)
    · exact Nat.lt_irrefl _ (e ▸ o1.1.lt)
    · exact Nat.lt_irrefl _ (own_lt o1.2.2.2.1 e).1
  have hg2n : g2.kids.length < g2.kids.length + 1 := Nat.lt_succ_self _
  have hi3 : (g2.kids.length : Int) < (g2.kids.length : Int) + 1 := by omega
  have hcs2 : cs2.length = g2.kids.length * 3 := hk2.1
  have HR1 := Lib.hid hR1; have HK1 := Lib.hid hk1; have HO1 := Lib.hid hO1d; have HO2 := Lib.hid o2; have HKV := Lib.hid hk2; have HE2 := Lib.hid e2; have HB2 := Lib.hid hB2
  have HBs := Lib.hid hbs; have HO1a := Lib.hid hO1a; have HnD := Lib.hid hnD; have HnDk := Lib.hid hnDk; have HnDN := Lib.hid hnDN; have Hcs2 := Lib.hid hcs2
  clear hO1d hR1 hk1 hok o1 o2 hk2 hks2 e2 hB2 hbs hB0 hO1a hnD hnDk hnDN hcs2
  go_region_law (first
    | (go_simp
       go_at_call 41
       first
         | refine (elem_any g1 base _ _ HO1.out hkl1).mono ?_
         | refine (elem_any g1 base _ _ (HO1a.out _) hkl1).mono ?_
       rintro e wE ⟨rfl, hkE⟩
       rw [HE1.out]
       have hBE : Blk wE g2.blk _ 103 := hkE.blk (by first | exact HB2.out | exact Blk.alloc HB2.out _) HnD.out
       have dE : wE.cell? ⟨g2.blk, 2, none⟩ = some (.slice A2 g2.kids.length cap2) := hBE.cell 2
       have fE := hBE.free 2
       have lE := hBE.lt
       have HKVE := Lib.hid (hkE.own (by first | exact HKV.out | exact HKV.out.alloc _) HnDk.out)
       have HBE := Lib.hid hBE
       have HKE := Lib.hid hkE
       try have HNE := Lib.hid (show wE.heap[w1.heap.size]? = some (.cells #[.string ⟨#[]⟩, .string ⟨#[]⟩, .slice none 0 0] 24 (0, 0)) from hkE.blk (Blk.new w1.drew [.string ⟨#[]⟩, .string ⟨#[]⟩, .slice none 0 0] 24) HnDN.out)
       clear hBE hkE)
    | (refine step_append_lies _ rfl _ _ 22 rfl base 24 i0 _ 3 56 Tryz.underlying22 hi hz0 hz1 hz2 rfl (by decide) _ _ _ rfl (HKVE.out.alloc _) ⟨wE.heap.size, 0, none⟩ 1 1 [.string ⟨#[]⟩, .string ⟨#[]⟩, .slice none 0 0] rfl rfl (World.news_of_block (heap_alloc_new wE _)) (by simp [Value.oneCell']) (by decide) (by unfold maxLen; omega) (by omega) (by have q1 := HBs.out; have q2 := HKE.out.size; simp at q2 ⊢; omega) _ rfl ?_
       intro gg cap wA hown hgrow hat hlt
       have hkEA : Keeps (fun b => (Value.slice A2 g2.kids.length cap2).ownBlock = some b) wE wA := ((Keeps.refl _ wE).alloc _).grown hgrow (fun k hk _ => hk)
       have hBA : Blk wA g2.blk _ 103 := hkEA.blk HBE.out (own_ne HKVE.out HBE.out (by decide))
       have dA : wA.cell? ⟨g2.blk, 2, none⟩ = some (.slice A2 g2.kids.length cap2) := hBA.cell 2
       have fA := hBA.free 2
       have lA := hBA.lt
       have lG : gg < wA.heap.size := hlt
       have e0 : wA.cell? ⟨gg, g2.kids.length * 3, none⟩ = some (.string ⟨#[]⟩) := by
         rw [hown.cellAt (g2.kids.length * 3) (by omega), List.getElem?_append_right (by rw [Hcs2.out]; exact Nat.le_refl _), Hcs2.out, Nat.sub_self]; rfl
       have e1 : wA.cell? ⟨gg, g2.kids.length * 3 + 1, none⟩ = some (.string ⟨#[]⟩) := by
         rw [hown.cellAt (g2.kids.length * 3 + 1) (by omega), List.getElem?_append_right (by rw [Hcs2.out]; omega), Hcs2.out, Nat.add_sub_cancel_left]; rfl
       have e2 : wA.cell? ⟨gg, g2.kids.length * 3 + 2, none⟩ = some (.slice none 0 0) := by
         rw [hown.cellAt (g2.kids.length * 3 + 2) (by omega), List.getElem?_append_right (by rw [Hcs2.out]; omega), Hcs2.out, Nat.add_sub_cancel_left]; rfl
       have h0 := hown.frozenAt (g2.kids.length * 3)
       have h1 := hown.frozenAt (g2.kids.length * 3 + 1)
       have h2 := hown.frozenAt (g2.kids.length * 3 + 2)
       have hneg : gg ≠ g2.blk := fun e => own_ne hown hBA (by decide) (by rw [← e]; rfl)
       have hneg' : g2.blk ≠ gg := fun e => hneg e.symm
       have HOwn := Lib.hid hown
       have HKEA := Lib.hid hkEA
       have HBA := Lib.hid hBA
       have Hat := Lib.hid hat
       clear hown hkEA hBA hgrow hat hlt)
    | (refine step_append_lies _ rfl _ _ 22 rfl base 24 i0 _ 3 56 Tryz.underlying22 hi hz0 hz1 hz2 rfl (by decide) _ _ _ rfl HKVE.out ⟨w1.heap.size, 0, none⟩ 1 1 [.string ⟨#[]⟩, .string ⟨#[]⟩, .slice none 0 0] rfl rfl (World.news_of_block HNE.out) (by simp [Value.oneCell']) (by decide) (by unfold maxLen; omega) (by omega) (by have q1 := HBs.out; have q2 := HKE.out.size; simp at q2 ⊢; omega) _ rfl ?_
       intro gg cap wA hown hgrow hat hlt
       have hkEA : Keeps (fun b => (Value.slice A2 g2.kids.length cap2).ownBlock = some b) wE wA := (Keeps.refl _ wE).grown hgrow (fun k hk _ => hk)
       have hBA : Blk wA g2.blk _ 103 := hkEA.blk HBE.out (own_ne HKVE.out HBE.out (by decide))
       have dA : wA.cell? ⟨g2.blk, 2, none⟩ = some (.slice A2 g2.kids.length cap2) := hBA.cell 2
       have fA := hBA.free 2
       have lA := hBA.lt
       have lG : gg < wA.heap.size := hlt
       have e0 : wA.cell? ⟨gg, g2.kids.length * 3, none⟩ = some (.string ⟨#[]⟩) := by
         rw [hown.cellAt (g2.kids.length * 3) (by omega), List.getElem?_append_right (by rw [Hcs2.out]; exact Nat.le_refl _), Hcs2.out, Nat.sub_self]; rfl
       have e1 : wA.cell? ⟨gg, g2.kids.length * 3 + 1, none⟩ = some (.string ⟨#[]⟩) := by
         rw [hown.cellAt (g2.kids.length * 3 + 1) (by omega), List.getElem?_append_right (by rw [Hcs2.out]; omega), Hcs2.out, Nat.add_sub_cancel_left]; rfl
       have e2 : wA.cell? ⟨gg, g2.kids.length * 3 + 2, none⟩ = some (.slice none 0 0) := by
         rw [hown.cellAt (g2.kids.length * 3 + 2) (by omega), List.getElem?_append_right (by rw [Hcs2.out]; omega), Hcs2.out, Nat.add_sub_cancel_left]; rfl
       have h0 := hown.frozenAt (g2.kids.length * 3)
       have h1 := hown.frozenAt (g2.kids.length * 3 + 1)
       have h2 := hown.frozenAt (g2.kids.length * 3 + 2)
       have hneg : gg ≠ g2.blk := fun e => own_ne hown hBA (by decide) (by rw [← e]; rfl)
       have hneg' : g2.blk ≠ gg := fun e => hneg e.symm
       have HOwn := Lib.hid hown
       have HKEA := Lib.hid hkEA
       have HBA := Lib.hid hBA
       have Hat := Lib.hid hat
       clear hown hkEA hBA hgrow hat hlt))
  all_goals
    have hkE : Keeps (fun b => b = g1.blk ∨ g1.u.ownBlock = some b) w1 wE := by
      first
        | exact ((Keeps.refl _ w1).drew).trans HKE.out
        | exact (((Keeps.refl _ w1).drew).alloc _).trans HKE.out
    have hat : (Value.slice A2 g2.kids.length cap2).ownBlock = some gg ∨ wE.heap.size ≤ gg := by
      rcases Hat.out with h' | h'
      · exact .inl h'
      · right; (try simp at h'); omega
    go_end0
    refine ⟨rfl, .slice (some ⟨pb, 0, none⟩) m cp, .slice (some ⟨gg, 0, none⟩) (g2.kids.length + 1) cap, ?_⟩
    refine pop_end (wF := _) (by rw [HL.out]; exact hm) HP.out HK1.out HR1.out HE1.out HE2.out HKV.out hkE HKEA.out HOwn.out hat HBA.out ?_
    first
      | exact .inl rfl
      | exact .inr rfl

set_option maxHeartbeats 8000000 in
set_option maxRecDepth 100000 in
theorem end_any (base r : Nat) (s : ByteArray) (st : St) (pv : Value) (G : List OG) (w : World) (hP : RdP w base r s st pv G) (hn : G.length ≤ 22) (h1 : 1 ≤ G.length) (hkl : ∀ g ∈ G, g.kids.length ≤ 1000000) :
    Calls Tryz.prog 62 #[.pointer (some ⟨r, 0, none⟩)] w fun e w' => e = .returned (.tuple #[]) ∧ ∃ pv' G', RdP w' base r s st pv' G' ∧ G'.map OG.os = endS st.bad (G.map OG.os) ∧ Keeps (fun b => b = r ∨ base ≤ b) w w' := by
  obtain ⟨k, o⟩ := st
  cases o with
  | some x =>
    have HP := Lib.hid hP
    obtain ⟨A, cp, rfl, hcp⟩ := own_slice hP.pile
    obtain ⟨c0, c1, c3, f1, f3, hl⟩ := hP.rd.cells
    obtain ⟨bb, c2⟩ := hP.rd.some
    clear hP
    go_enter Tryz.func62, Tryz.ntmps62
    go_wp2_with fail
    refine bodyPost_ret (results_none rfl _ _ _) rfl ?_
    exact ⟨rfl, _, G, HP.out, rfl, Keeps.refl _ _⟩
  | none =>
    match G, hP, hn, h1, hkl with
    | [g], hP, _, _, _ =>
      have HP := Lib.hid hP
      obtain ⟨A, cp, rfl, hcp⟩ := own_slice hP.pile
      obtain ⟨c0, c1, c3, f1, f3, hl⟩ := hP.rd.cells
      have c2 := hP.rd.none
      clear hP
      go_enter Tryz.func62, Tryz.ntmps62
      go_wp2_with fail
      refine bodyPost_ret (results_none rfl _ _ _) rfl ?_
      exact ⟨rfl, _, [g], HP.out, rfl, Keeps.refl _ _⟩
    | g1 :: g2 :: G, hP, hn, _, hkl =>
      refine (end_two base r s k g1 g2 G pv w hP (by simp at hn; omega) (hkl g1 (by simp)) (hkl g2 (by simp))).mono ?_
      rintro e w' ⟨rfl, pv', kv', h1, h2⟩
      exact ⟨rfl, pv', _, h1, rfl, h2⟩
end Go.Proofs.YtkjopcbleefioaaGreatDoor
