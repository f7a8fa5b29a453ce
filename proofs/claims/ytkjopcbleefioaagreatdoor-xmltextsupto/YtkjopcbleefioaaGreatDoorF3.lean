/- write: plain, and the walk. -/
import Derived.Test.YtkjopcbleefioaaGreatDoorF0
import Derived.Test.YtkjopcbleefioaaGreatDoorY4
namespace Go.Proofs.YtkjopcbleefioaaGreatDoor
open Go Go.RowKit
set_option linter.unusedSimpArgs false
set_option linter.unusedVariables false

mutual
/-- An element behind some bytes, as long as they are not too many. -/
def writeL (b : List UInt8) : El → List UInt8
  | .mk n t ks =>
    if 1000000 < b.length then b
    else if t.length = 0 ∧ ks.length = 0 then b ++ (60 :: (n ++ [47, 62]))
    else writesL (b ++ (60 :: (n ++ (62 :: escS t)))) ks ++ (60 :: 47 :: (n ++ [62]))
def writesL (b : List UInt8) : List El → List UInt8
  | [] => b
  | k :: ks => writesL (writeL b k) ks
end
mutual
theorem writeL_len : ∀ (e : El) (b : List UInt8), (writeL b e).length ≤ b.length + 8 * El.size e
  | .mk n t ks, b => by
    rw [writeL, El.size]
    have h1 := writesL_len ks (b ++ (60 :: (n ++ (62 :: escS t))))
    have h2 := (escS_len_ge t).2
    split
    · omega
    · split
      · simp; omega
      · simp at h1 ⊢; omega
theorem writesL_len : ∀ (ks : List El) (b : List UInt8), (writesL b ks).length ≤ b.length + 8 * Els.size ks
  | [], b => by rw [writesL]; omega
  | k :: ks, b => by
    rw [writesL, Els.size]
    have h1 := writesL_len ks (writeL b k)
    have h2 := writeL_len k b
    omega
end
theorem writesL_snoc : ∀ (ks : List El) (k : El) (b : List UInt8), writesL b (ks ++ [k]) = writeL (writesL b ks) k
  | [], k, b => by rw [List.nil_append, writesL, writesL, writesL]
  | x :: ks, k, b => by rw [List.cons_append, writesL, writesL, writesL_snoc ks k]

/-- A row of bytes to write behind: an own one, or a constant's (whose conversion marks one cell past its end). -/
def OwnS (B : Nat) (w : World) (v : Value) (l : List UInt8) : Prop :=
  w.ownsRow B 5 1 v l.length (u8s l) ∨ ∃ g, v = .slice (some ⟨g, 0, none⟩) l.length l.length ∧ B ≤ g ∧ w.heap[g]? = some (.cells (u8s l).toArray 5 (l.length, l.length + 1))
theorem OwnS.slice {B : Nat} {w : World} {v : Value} {l : List UInt8} (h : OwnS B w v l) : ∃ A c, v = .slice A l.length c ∧ l.length ≤ c := by
  rcases h with h | ⟨g, rfl, _⟩
  · exact own_slice h
  · exact ⟨_, _, rfl, Nat.le_refl _⟩
theorem lt_of_get {w : World} {g : Nat} {o : Obj} (h : w.heap[g]? = some o) : g < w.heap.size := by
  rcases Nat.lt_or_ge g w.heap.size with h' | h'
  · exact h'
  · rw [Array.getElem?_eq_none h'] at h; cases h
theorem OwnS.lt {B : Nat} {w : World} {v : Value} {l : List UInt8} (h : OwnS B w v l) {k : Nat} (hk : v.ownBlock = some k) : k < w.heap.size ∧ B ≤ k := by
  rcases h with h | ⟨g, rfl, hB, hg⟩
  · exact own_lt h hk
  · injection hk with hk
    dsimp only at hk
    subst hk
    exact ⟨lt_of_get hg, hB⟩
theorem OwnS.ne {B : Nat} {w : World} {v : Value} {l : List UInt8} (h : OwnS B w v l) {g : Nat} {cs : List Value} {T : TypeId} (hb : Blk w g cs T) (hT : 5 ≠ T) : v.ownBlock ≠ some g := by
  rcases h with h | ⟨g', rfl, hB, hg⟩
  · exact own_ne h hb hT
  · intro hk
    injection hk with hk
    dsimp only at hk
    subst hk
    unfold Blk at hb
    rw [hg] at hb
    injection hb with hb
    injection hb with _ hb
    exact hT hb
theorem Keeps.ownS {D : Nat → Prop} {w w' : World} (k : Keeps D w w') {B : Nat} {v : Value} {l : List UInt8} (h : OwnS B w v l) (hd : ∀ k, v.ownBlock = some k → ¬ D k) : OwnS B w' v l := by
  rcases h with h | ⟨g, rfl, hB, hg⟩
  · exact .inl (k.own h hd)
  · exact .inr ⟨g, rfl, hB, (k.block g (lt_of_get hg) (hd g rfl)).trans hg⟩
theorem OwnS.alloc {B : Nat} {w : World} {v : Value} {l : List UInt8} (h : OwnS B w v l) (o : Obj) : OwnS B (w.alloc o) v l :=
  Keeps.ownS (D := fun _ => False) ((Keeps.refl _ _).alloc o) h (fun _ _ h => h)
/-- A row's bytes, where they lie. -/
theorem OwnS.bytes {B : Nat} {w : World} {pb n cp : Nat} {l : List UInt8} (h : OwnS B w (.slice (some ⟨pb, 0, none⟩) n cp) l) : ∀ j u, (u8s l)[j]? = some u → w.cell? ((⟨pb, 0, none⟩ : Addr).add j) = some u := by
  rcases h with h | ⟨g, hv, hB, hg⟩
  · exact h.cells rfl
  · injection hv with hv _ _
    injection hv with hv
    injection hv with hv _ _
    subst hv
    intro j u hu
    have hj : (⟨pb, 0, none⟩ : Addr).add j = ⟨pb, j, none⟩ := by
      by_cases h : j = 0
      · subst h; rfl
      · simp [Addr.add, h]
    rw [hj]
    simp [World.cell?, hg, hu]
theorem run_append_ownS {P : Program} (w : World) (base : Nat) (t u ty : TypeId) (i : TypeInfo) (ht : P.underlying t = some (.slice 5)) (hu : P.underlying u = some .string) (hi : P.info? 5 = some i) (hz : i.zero = some (.int .u8 0))
    (hsize : i.size = 1) (hby : i.bytes = 1)
    (v : Value) (l : List UInt8) (hown : OwnS base w v l) (s : ByteArray) (hs0 : 0 < s.size)
    (h63 : l.length + s.size ≤ maxLen) (hbytes : l.length + s.size ≤ 140737488355328) (hbase : base ≤ w.heap.size) :
    ∃ v' w', (Builtin.append_ #[t, u] ty #[v, .string s]).run P w = .ok v' w' ∧ w'.ownsRow base 5 1 v' (l.length + s.size) (u8s l ++ u8s (bs s)) ∧ w.grownBy w' v.ownBlock ∧ Near w v v' := by
  have hsmall : l.length + s.size ≤ 9223372036854775807 := by simp only [maxLen] at h63; omega
  rcases hown with hown | ⟨g, rfl, hB, hg⟩
  · obtain ⟨v', w', hr, h2, h3, h4⟩ := Lib.run_append_own_string (P := P) w base t u ty 5 i ht hu hi hz hsize hby v l.length (u8s l) hown s h63 hbytes hbase
    refine ⟨v', w', hr, h2, h3, ?_⟩
    rcases hown.2 with ⟨rfl, h0⟩ | ⟨g, cap, cur, rfl, hbg, hg, hnc, hcm, hcs, htake⟩
    · have hr2 := run_append_nil_string (P := P) w t u ty 5 i (.int .u8 0) ht hu hi hz s (by omega) (by omega) (by rw [hby]; omega)
      rw [hr] at hr2
      injection hr2 with hv _
      right
      exact ⟨w.heap.size, by rw [hv]; rfl, Nat.le_refl _⟩
    · by_cases hroom : l.length + s.size ≤ cap
      · have hcs' : cur.size = cap := by simpa using hcs
        have hr2 := Lib.run_append_room_string (P := P) w t u ty 5 i ht hu hi hsize g l.length cap cur hg s hroom (by omega)
        rw [hr] at hr2
        injection hr2 with hv _
        left
        rw [hv]; rfl
      · have hxl : (u8s l).length = l.length * i.size := by rw [hsize]; exact hown.1
        have holds : ∀ j u, (u8s l)[j]? = some u → w.cell? ((⟨g, 0, none⟩ : Addr).add j) = some u := hown.cells (g := g) rfl
        have hr2 := Lib.run_append_grow_string (P := P) w t u ty 5 i (.int .u8 0) ht hu hi hz ⟨g, 0, none⟩ l.length cap (u8s l) hxl holds s (by omega) (by omega) (by rw [hby]; exact growslice_fits (by omega) (by omega))
        rw [hr] at hr2
        injection hr2 with hv _
        right
        exact ⟨w.heap.size, by rw [hv]; rfl, Nat.le_refl _⟩
  · have hxl : (u8s l).length = l.length := u8s_length l
    have hsl : (u8s (bs s)).length = s.size := by rw [u8s_length, bs_length]
    have hlen : (u8s l ++ u8s (bs s)).length = (l.length + s.size) * 1 := by rw [List.length_append, hxl, hsl, Nat.mul_one]
    have holds := OwnS.bytes (B := base) (w := w) (pb := g) (n := l.length) (cp := l.length) (l := l) (.inr ⟨g, rfl, hB, hg⟩)
    have hr := Lib.run_append_grow_string (P := P) w t u ty 5 i (.int .u8 0) ht hu hi hz ⟨g, 0, none⟩ l.length l.length (u8s l) (by rw [hsize]; simpa using hxl) holds s (by omega) (by omega) (by rw [hby]; exact growslice_fits (by omega) (by omega))
    have hge := grownCap_ge w (l.length + s.size) l.length 5
    have hcm2 : grownCap w (l.length + s.size) l.length 5 ≤ maxLen := grownCap_le_maxLen w (l.length + s.size) l.length 5 h63
    refine ⟨_, _, hr, ⟨hlen, .inr ⟨w.heap.size, _, _, rfl, hbase, heap_alloc_new w.drew _, hge, hcm2, ?_, ?_⟩⟩, ⟨rfl, rfl, rfl, by simp, fun k hk _ => by show (w.drew.alloc _).heap[k]? = _; exact Below.heap_alloc w.drew _ k hk⟩, .inr ⟨w.heap.size, rfl, Nat.le_refl _⟩⟩
    · have hz1 : (Value.int IntKind.u8 0).cells.size = 1 := rfl
      simp only [Array.size_append, List.size_toArray, size_zeroCells, hz1, hxl, Lib.strCells_length]
      omega
    · have hsc : Lib.strCells s = u8s (bs s) := rfl
      simp only [Array.toList_append, List.append_assoc]
      rw [hsc, ← List.append_assoc, ← hlen]
      exact List.take_left

/-- A string's bytes, appended, as one step of a region that draws its order. -/
theorem step_append_ownS {P : Program} {w : World} {ops : Array Oper} {o : Oper} {a : Act} {K : Act → World → Prop} {Q : Exit → Act → World → Prop} {E : Prop} (hgd : o.guard = none) (sl x : Operand) (t u : TypeId)
    (ho : o.op = .call { callee := .builtin .append, args := #[sl, x], argTypes := #[t, u] })
    (base : Nat) (i : TypeInfo) (ht : P.underlying t = some (.slice 5)) (hu : P.underlying u = some .string) (hi : P.info? 5 = some i) (hz : i.zero = some (.int .u8 0))
    (hsize : i.size = 1) (hby : i.bytes = 1)
    (v : Value) (l : List UInt8) (hs : a.eval sl = v) (hown : OwnS base w v l) (s : ByteArray) (hs0 : 0 < s.size) (hx : a.eval x = .string s)
    (h63 : l.length + s.size ≤ maxLen) (hbytes : l.length + s.size ≤ 140737488355328) (hbase : base ≤ w.heap.size)
    (h : ∀ v' w', w'.ownsRow base 5 1 v' (l.length + s.size) (u8s l ++ u8s (bs s)) → w.grownBy w' v.ownBlock → Near w v v' → K (a.put o.dst v') w') :
    if Region.wanted o (yielded ops a.tmps) = true then Oper.wp P o a w K Q else E := by
  have hw : Region.wanted o (yielded ops a.tmps) = true := by simp [Region.wanted, hgd]
  rw [if_pos hw]
  obtain ⟨v', w', hr, h2, h3, near⟩ := run_append_ownS (P := P) w base t u o.type i ht hu hi hz hsize hby v l hown s hs0 h63 hbytes hbase
  unfold Oper.wp execOp
  simp only [ho, resolve, invoke, builtin, Sem.run_bind, Sem.run_pure, Result.andThen_ok, List.map_toArray, List.map_cons, List.map_nil, hs, hx, hr]
  exact h v' w' h2 h3 near
theorem wpList_append_ownS {P : Program} (w : World) {ops : Array Oper} {rest : List Oper} {o : Oper} {a : Act} {Q : Exit → Act → World → Prop} (hgd : o.guard = none) (sl x : Operand) (t u : TypeId)
    (ho : o.op = .call { callee := .builtin .append, args := #[sl, x], argTypes := #[t, u] })
    (base : Nat) (i : TypeInfo) (ht : P.underlying t = some (.slice 5)) (hu : P.underlying u = some .string) (hi : P.info? 5 = some i) (hz : i.zero = some (.int .u8 0))
    (hsize : i.size = 1) (hby : i.bytes = 1)
    (v : Value) (l : List UInt8) (hs : a.eval sl = v) (hown : OwnS base w v l) (s : ByteArray) (hs0 : 0 < s.size) (hx : a.eval x = .string s)
    (h63 : l.length + s.size ≤ maxLen) (hbytes : l.length + s.size ≤ 140737488355328) (hbase : base ≤ w.heap.size)
    (h : ∀ v' w', w'.ownsRow base 5 1 v' (l.length + s.size) (u8s l ++ u8s (bs s)) → w.grownBy w' v.ownBlock → Near w v v' → wpList P ops Q rest (a.put o.dst v') w') : wpList P ops Q (o :: rest) a w := by
  refine wpList_plain hgd fun K hK => ?_
  obtain ⟨v', w', hr, h2, h3, near⟩ := run_append_ownS (P := P) w base t u o.type i ht hu hi hz hsize hby v l hown s hs0 h63 hbytes hbase
  unfold Oper.wp execOp
  simp only [ho, resolve, invoke, builtin, Sem.run_bind, Sem.run_pure, Result.andThen_ok, List.map_toArray, List.map_cons, List.map_nil, hs, hx, hr]
  exact hK _ _ (h v' w' h2 h3 near)

theorem Near.notin {w : World} {v v' : Value} {F : Nat → Prop} (h : Near w v v') (hv : ∀ x, v.ownBlock = some x → ¬ F x) (hF : ∀ x, F x → x < w.heap.size) : ∀ x, v'.ownBlock = some x → ¬ F x := by
  rintro x hx hf
  rcases h with h | ⟨b, h1, h2⟩
  · exact hv x (h ▸ hx) hf
  · rw [h1] at hx; injection hx with hx; have := hF x hf; omega

/-- What write leaves. -/
def WriteOk (B : Nat) (w : World) (r : Nat) (l : List UInt8) (v : Value) : Prop :=
  OwnS B w v l ∧ B ≤ w.heap.size ∧ ∃ F, RepOk w F r ∧ (∀ x, F x → B ≤ x ∧ x < w.heap.size) ∧ ∀ x, v.ownBlock = some x → ¬ F x
/-- A string's bytes behind it. -/
theorem WriteOk.app {B r : Nat} {w w' : World} {l m : List UInt8} {v v' : Value} {s : ByteArray} {q : Nat} (h : WriteOk B w r l v) (hs : bs s = m) (hq : q = l.length + s.size)
    (ho : w'.ownsRow B 5 1 v' q (u8s l ++ u8s (bs s))) (hg : w.grownBy w' v.ownBlock) (hn : Near w v v') : WriteOk B w' r (l ++ m) v' := by
  obtain ⟨h1, h2, F, h3, h4, h5⟩ := h
  refine ⟨.inl ?_, Nat.le_trans h2 hg.size, F, h3.keep (D := fun k => v.ownBlock = some k) ((Keeps.refl _ _).grown hg (fun _ e _ => e)) (fun b hb e => h5 b e hb), fun x hx => ⟨(h4 x hx).1, Nat.lt_of_lt_of_le (h4 x hx).2 hg.size⟩, hn.notin h5 (fun x hx => (h4 x hx).2)⟩
  rw [List.length_append, u8s_append, ← hs, bs_length, ← hq]
  exact ho
theorem WriteOk.fresh {B r : Nat} {w w' : World} {l : List UInt8} {v : Value} (h : WriteOk B w r l v) (k : Below w.heap.size w w') : WriteOk B w' r l v := by
  obtain ⟨h1, h2, F, h3, h4, h5⟩ := h
  have hk : Keeps (fun _ => False) w w' := Keeps.fresh k
  exact ⟨hk.ownS h1 (fun _ _ h => h), Nat.le_trans h2 k.size, F, h3.keep hk (fun _ _ h => h), fun x hx => ⟨(h4 x hx).1, Nat.lt_of_lt_of_le (h4 x hx).2 k.size⟩, h5⟩
end Go.Proofs.YtkjopcbleefioaaGreatDoor
