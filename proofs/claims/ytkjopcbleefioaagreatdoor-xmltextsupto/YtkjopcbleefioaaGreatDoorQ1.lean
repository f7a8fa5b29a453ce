/- Bytes appended: the row that comes back lies in the old one's block or in a new one. -/
import Derived.Test.YtkjopcbleefioaaGreatDoorB1
import Derived.Deep.AppendLies
namespace Go.Proofs.YtkjopcbleefioaaGreatDoor
open Go Go.RowKit
set_option linter.unusedSimpArgs false
set_option linter.unusedVariables false

/-- Where a row lies after an append. -/
def Near (w : World) (v v' : Value) : Prop := v'.ownBlock = v.ownBlock ∨ ∃ b, v'.ownBlock = some b ∧ w.heap.size ≤ b

def u8z (l : List Int) : List Value := l.map fun x => .int .u8 x

set_option maxHeartbeats 4000000 in
set_option maxRecDepth 100000 in
theorem runeHigh_two (B : Nat) (v : Value) (n : Nat) (xs : List Value) (r : Int) (h0 : 128 ≤ r) (h1 : r ≤ 2047) (w : World) (hown : w.ownsRow B 5 1 v n xs) (hlen : n + 4 ≤ 140737488355328) (hB : B ≤ w.heap.size) :
    Calls Tryz.prog 103 #[v, .int .i32 r] w fun e w' => ∃ v', e = .returned v' ∧ w'.ownsRow B 5 1 v' (n + 2) (xs ++ [.int .u8 (192 + r / 64), .int .u8 (128 + r % 64)]) ∧ Keeps (fun b => v.ownBlock = some b) w w' ∧ Near w v v' := by
  obtain ⟨i0, hi, hz0, hz1, hz2⟩ := info_parts infoByte
  go_enter Tryz.func103, Tryz.ntmps103
  go_wp2_with (at_builtin; refine wpList_append_lies _ rfl _ _ 51 rfl B 5 i0 (.int .u8 0) 1 1 Tryz.underlying51 hi hz0 hz1 hz2 rfl (by decide) _ _ _ rfl (hown.alloc _) ⟨w.heap.size, 0, none⟩ 2 2 [.int .u8 (192 + r / 64), .int .u8 (128 + r % 64)] rfl rfl (World.news_of_block (heap_alloc_new w _)) ?c2 (by decide) ?c3 ?c4 ?c5 _ rfl ?_)
  case c2 => first | (intro u hu; simp at hu; rcases hu with rfl | rfl <;> rfl) | decide
  case c3 => unfold maxLen; omega
  case c4 => omega
  case c5 => (try simp); omega
  intro g cap w2 hown' hgrow hat _
  have hk : Keeps (fun b => v.ownBlock = some b) w w2 := ((Keeps.refl _ w).alloc _).grown hgrow (fun _ h _ => h)
  have hn : Near w v (.slice (some ⟨g, 0, none⟩) (n + 2) cap) := by
    rcases hat with h | h
    · exact .inl h.symm
    · exact .inr ⟨g, rfl, by (try simp at h); omega⟩
  clear hat hgrow
  go_wp2
  go_ret
  exact ⟨_, rfl, hown', hk, hn⟩

set_option maxHeartbeats 4000000 in
set_option maxRecDepth 100000 in
theorem runeHigh_three_lo (B : Nat) (v : Value) (n : Nat) (xs : List Value) (r : Int) (h0 : 2048 ≤ r) (h1 : r < 55296) (w : World) (hown : w.ownsRow B 5 1 v n xs) (hlen : n + 4 ≤ 140737488355328) (hB : B ≤ w.heap.size) :
    Calls Tryz.prog 103 #[v, .int .i32 r] w fun e w' => ∃ v', e = .returned v' ∧ w'.ownsRow B 5 1 v' (n + 3) (xs ++ [.int .u8 (224 + r / 4096), .int .u8 (128 + r / 64 % 64), .int .u8 (128 + r % 64)]) ∧ Keeps (fun b => v.ownBlock = some b) w w' ∧ Near w v v' := by
  obtain ⟨i0, hi, hz0, hz1, hz2⟩ := info_parts infoByte
  go_enter Tryz.func103, Tryz.ntmps103
  go_wp2_with (at_builtin; refine wpList_append_lies _ rfl _ _ 51 rfl B 5 i0 (.int .u8 0) 1 1 Tryz.underlying51 hi hz0 hz1 hz2 rfl (by decide) _ _ _ rfl (hown.alloc _) ⟨w.heap.size, 0, none⟩ 3 3 [.int .u8 (224 + r / 4096), .int .u8 (128 + r / 64 % 64), .int .u8 (128 + r % 64)] rfl rfl (World.news_of_block (heap_alloc_new w _)) ?c2 (by decide) ?c3 ?c4 ?c5 _ rfl ?_)
  case c2 => first | (intro u hu; simp at hu; rcases hu with rfl | rfl | rfl <;> rfl) | decide
  case c3 => unfold maxLen; omega
  case c4 => omega
  case c5 => (try simp); omega
  intro g cap w2 hown' hgrow hat _
  have hk : Keeps (fun b => v.ownBlock = some b) w w2 := ((Keeps.refl _ w).alloc _).grown hgrow (fun _ h _ => h)
  have hn : Near w v (.slice (some ⟨g, 0, none⟩) (n + 3) cap) := by
    rcases hat with h | h
    · exact .inl h.symm
    · exact .inr ⟨g, rfl, by (try simp at h); omega⟩
  clear hat hgrow
  go_wp2
  go_ret
  exact ⟨_, rfl, hown', hk, hn⟩

set_option maxHeartbeats 4000000 in
set_option maxRecDepth 100000 in
theorem runeHigh_three_hi (B : Nat) (v : Value) (n : Nat) (xs : List Value) (r : Int) (h0 : 57343 < r) (h1 : r ≤ 65535) (w : World) (hown : w.ownsRow B 5 1 v n xs) (hlen : n + 4 ≤ 140737488355328) (hB : B ≤ w.heap.size) :
    Calls Tryz.prog 103 #[v, .int .i32 r] w fun e w' => ∃ v', e = .returned v' ∧ w'.ownsRow B 5 1 v' (n + 3) (xs ++ [.int .u8 (224 + r / 4096), .int .u8 (128 + r / 64 % 64), .int .u8 (128 + r % 64)]) ∧ Keeps (fun b => v.ownBlock = some b) w w' ∧ Near w v v' := by
  obtain ⟨i0, hi, hz0, hz1, hz2⟩ := info_parts infoByte
  go_enter Tryz.func103, Tryz.ntmps103
  go_wp2_with (at_builtin; refine wpList_append_lies _ rfl _ _ 51 rfl B 5 i0 (.int .u8 0) 1 1 Tryz.underlying51 hi hz0 hz1 hz2 rfl (by decide) _ _ _ rfl (hown.alloc _) ⟨w.heap.size, 0, none⟩ 3 3 [.int .u8 (224 + r / 4096), .int .u8 (128 + r / 64 % 64), .int .u8 (128 + r % 64)] rfl rfl (World.news_of_block (heap_alloc_new w _)) ?c2 (by decide) ?c3 ?c4 ?c5 _ rfl ?_)
  case c2 => first | (intro u hu; simp at hu; rcases hu with rfl | rfl | rfl <;> rfl) | decide
  case c3 => unfold maxLen; omega
  case c4 => omega
  case c5 => (try simp); omega
  intro g cap w2 hown' hgrow hat _
  have hk : Keeps (fun b => v.ownBlock = some b) w w2 := ((Keeps.refl _ w).alloc _).grown hgrow (fun _ h _ => h)
  have hn : Near w v (.slice (some ⟨g, 0, none⟩) (n + 3) cap) := by
    rcases hat with h | h
    · exact .inl h.symm
    · exact .inr ⟨g, rfl, by (try simp at h); omega⟩
  clear hat hgrow
  go_wp2
  go_ret
  exact ⟨_, rfl, hown', hk, hn⟩

set_option maxHeartbeats 4000000 in
set_option maxRecDepth 100000 in
theorem runeHigh_four (B : Nat) (v : Value) (n : Nat) (xs : List Value) (r : Int) (h0 : 65536 ≤ r) (h1 : r ≤ 1114111) (w : World) (hown : w.ownsRow B 5 1 v n xs) (hlen : n + 4 ≤ 140737488355328) (hB : B ≤ w.heap.size) :
    Calls Tryz.prog 103 #[v, .int .i32 r] w fun e w' => ∃ v', e = .returned v' ∧ w'.ownsRow B 5 1 v' (n + 4) (xs ++ [.int .u8 (240 + r / 262144), .int .u8 (128 + r / 4096 % 64), .int .u8 (128 + r / 64 % 64), .int .u8 (128 + r % 64)]) ∧ Keeps (fun b => v.ownBlock = some b) w w' ∧ Near w v v' := by
  obtain ⟨i0, hi, hz0, hz1, hz2⟩ := info_parts infoByte
  go_enter Tryz.func103, Tryz.ntmps103
  go_wp2_with (at_builtin; refine wpList_append_lies _ rfl _ _ 51 rfl B 5 i0 (.int .u8 0) 1 1 Tryz.underlying51 hi hz0 hz1 hz2 rfl (by decide) _ _ _ rfl (hown.alloc _) ⟨w.heap.size, 0, none⟩ 4 4 [.int .u8 (240 + r / 262144), .int .u8 (128 + r / 4096 % 64), .int .u8 (128 + r / 64 % 64), .int .u8 (128 + r % 64)] rfl rfl (World.news_of_block (heap_alloc_new w _)) ?c2 (by decide) ?c3 ?c4 ?c5 _ rfl ?_)
  case c2 => first | (intro u hu; simp at hu; rcases hu with rfl | rfl | rfl | rfl <;> rfl) | decide
  case c3 => unfold maxLen; omega
  case c4 => omega
  case c5 => (try simp); omega
  intro g cap w2 hown' hgrow hat _
  have hk : Keeps (fun b => v.ownBlock = some b) w w2 := ((Keeps.refl _ w).alloc _).grown hgrow (fun _ h _ => h)
  have hn : Near w v (.slice (some ⟨g, 0, none⟩) (n + 4) cap) := by
    rcases hat with h | h
    · exact .inl h.symm
    · exact .inr ⟨g, rfl, by (try simp at h); omega⟩
  clear hat hgrow
  go_wp2
  go_ret
  exact ⟨_, rfl, hown', hk, hn⟩

set_option maxHeartbeats 4000000 in
set_option maxRecDepth 100000 in
theorem runeHigh_bad (B : Nat) (v : Value) (n : Nat) (xs : List Value) (r : Int) (h0 : 55296 ≤ r) (h1 : r ≤ 57343) (w : World) (hown : w.ownsRow B 5 1 v n xs) (hlen : n + 4 ≤ 140737488355328) (hB : B ≤ w.heap.size) :
    Calls Tryz.prog 103 #[v, .int .i32 r] w fun e w' => ∃ v', e = .returned v' ∧ w'.ownsRow B 5 1 v' (n + 3) (xs ++ [.int .u8 (239), .int .u8 (191), .int .u8 (189)]) ∧ Keeps (fun b => v.ownBlock = some b) w w' ∧ Near w v v' := by
  obtain ⟨i0, hi, hz0, hz1, hz2⟩ := info_parts infoByte
  go_enter Tryz.func103, Tryz.ntmps103
  go_wp2_with (at_builtin; refine wpList_append_lies _ rfl _ _ 51 rfl B 5 i0 (.int .u8 0) 1 1 Tryz.underlying51 hi hz0 hz1 hz2 rfl (by decide) _ _ _ rfl (hown.alloc _) ⟨w.heap.size, 0, none⟩ 3 3 [.int .u8 (239), .int .u8 (191), .int .u8 (189)] rfl rfl (World.news_of_block (heap_alloc_new w _)) ?c2 (by decide) ?c3 ?c4 ?c5 _ rfl ?_)
  case c2 => first | (intro u hu; simp at hu; rcases hu with rfl | rfl | rfl <;> rfl) | decide
  case c3 => unfold maxLen; omega
  case c4 => omega
  case c5 => (try simp); omega
  intro g cap w2 hown' hgrow hat _
  have hk : Keeps (fun b => v.ownBlock = some b) w w2 := ((Keeps.refl _ w).alloc _).grown hgrow (fun _ h _ => h)
  have hn : Near w v (.slice (some ⟨g, 0, none⟩) (n + 3) cap) := by
    rcases hat with h | h
    · exact .inl h.symm
    · exact .inr ⟨g, rfl, by (try simp at h); omega⟩
  clear hat hgrow
  go_wp2
  go_ret
  exact ⟨_, rfl, hown', hk, hn⟩

set_option maxHeartbeats 4000000 in
set_option maxRecDepth 100000 in
theorem appendRune_at (B : Nat) (v : Value) (n : Nat) (xs : List Value) (r : Int) (h0 : 0 ≤ r) (h1 : r ≤ 1114111) (w : World) (hown : w.ownsRow B 5 1 v n xs) (hlen : n + 4 ≤ 140737488355328) (hB : B ≤ w.heap.size) :
    Calls Tryz.prog 82 #[v, .int .i32 r] w fun e w' => ∃ v', e = .returned v' ∧ w'.ownsRow B 5 1 v' (n + (Lib.runeCells r).length) (xs ++ Lib.runeCells r) ∧ Keeps (fun b => v.ownBlock = some b) w w' ∧ Near w v v' := by
  by_cases hs : r ≤ 127
  · have hr : Lib.runeCells r = [.int .u8 r] := by unfold Lib.runeCells; rw [Lib.encodeRuneZ_one h0 hs]; rfl
    rw [hr]
    obtain ⟨i0, hi, hz0, hz1, hz2⟩ := info_parts infoByte
    clear hr
    go_enter Tryz.func82, Tryz.ntmps82
    go_wp2_with (at_builtin; refine wpList_append_lies _ rfl _ _ 51 rfl B 5 i0 (.int .u8 0) 1 1 Tryz.underlying51 hi hz0 hz1 hz2 rfl (by decide) _ _ _ rfl (hown.alloc _) ⟨w.heap.size, 0, none⟩ 1 1 [.int .u8 r] rfl rfl (World.news_of_block (heap_alloc_new w _)) ?c2 (by decide) ?c3 ?c4 ?c5 _ rfl ?_)
    case c2 => intro u hu; simp at hu; subst hu; rfl
    case c3 => unfold maxLen; omega
    case c4 => omega
    case c5 => (try simp); omega
    intro g cap w2 hown' hgrow hat _
    have hk : Keeps (fun b => v.ownBlock = some b) w w2 := ((Keeps.refl _ w).alloc _).grown hgrow (fun _ h _ => h)
    have hn : Near w v (.slice (some ⟨g, 0, none⟩) (n + 1) cap) := by
      rcases hat with h | h
      · exact .inl h.symm
      · exact .inr ⟨g, rfl, by (try simp at h); omega⟩
    clear hat hgrow
    go_wp2
    go_ret
    exact ⟨_, rfl, hown', hk, hn⟩
  · have hC : Calls Tryz.prog 103 #[v, .int .i32 r] w fun e w' => ∃ v', e = .returned v' ∧ w'.ownsRow B 5 1 v' (n + (Lib.runeCells r).length) (xs ++ Lib.runeCells r) ∧ Keeps (fun b => v.ownBlock = some b) w w' ∧ Near w v v' := by
      unfold Lib.runeCells
      by_cases a1 : r ≤ 2047
      · rw [Lib.encodeRuneZ_two (by omega) a1]; exact runeHigh_two B v n xs r (by omega) a1 w hown hlen hB
      · by_cases a2 : r < 55296
        · rw [Lib.encodeRuneZ_three (.inl ⟨by omega, a2⟩)]; exact runeHigh_three_lo B v n xs r (by omega) a2 w hown hlen hB
        · by_cases a3 : r ≤ 57343
          · rw [Lib.encodeRuneZ_bad (.inr (.inl ⟨by omega, a3⟩))]; exact runeHigh_bad B v n xs r (by omega) a3 w hown hlen hB
          · by_cases a4 : r ≤ 65535
            · rw [Lib.encodeRuneZ_three (.inr ⟨by omega, a4⟩)]; exact runeHigh_three_hi B v n xs r (by omega) a4 w hown hlen hB
            · rw [Lib.encodeRuneZ_four (by omega) h1]; exact runeHigh_four B v n xs r (by omega) h1 w hown hlen hB
    have HC := Lib.hid hC
    clear hC
    go_enter Tryz.func82, Tryz.ntmps82
    go_wp2_with fail
    refine HC.out.mono ?_
    rintro e w2 ⟨v', rfl, h⟩
    have H := Lib.hid h
    clear h HC
    go_wp2_with fail
    go_ret
    exact ⟨v', rfl, H.out⟩
/-- A string's bytes, appended. -/
theorem wpList_append_string_at {P : Program} (w : World) {ops : Array Oper} {rest : List Oper} {o : Oper} {a : Act} {Q : Exit → Act → World → Prop} (hgd : o.guard = none) (sl x : Operand) (t u : TypeId)
    (ho : o.op = .call { callee := .builtin .append, args := #[sl, x], argTypes := #[t, u] })
    (base : Nat) (e : TypeId) (i : TypeInfo) (ht : P.underlying t = some (.slice e)) (hu : P.underlying u = some .string) (hi : P.info? e = some i) (hz : i.zero = some (.int .u8 0))
    (hsize : i.size = 1) (hby : i.bytes = 1)
    (v : Value) (n : Nat) (xs : List Value) (hs : a.eval sl = v) (hown : w.ownsRow base e 1 v n xs) (s : ByteArray) (hx : a.eval x = .string s)
    (h63 : n + s.size ≤ maxLen) (hbytes : n + s.size ≤ 140737488355328) (hbase : base ≤ w.heap.size)
    (h : ∀ v' w', w'.ownsRow base e 1 v' (n + s.size) (xs ++ u8s (bs s)) → w.grownBy w' v.ownBlock → Near w v v' → wpList P ops Q rest (a.put o.dst v') w') : wpList P ops Q (o :: rest) a w := by
  refine wpList_plain hgd fun K hK => ?_
  obtain ⟨v', w', hr, h2, h3, h4⟩ := Lib.run_append_own_string (P := P) w base t u o.type e i ht hu hi hz hsize hby v n xs hown s h63 hbytes hbase
  have hsmall : n + s.size ≤ 9223372036854775807 := by simp only [maxLen] at h63; omega
  have near : Near w v v' := by
    rcases hown.2 with ⟨rfl, rfl⟩ | ⟨g, cap, cur, rfl, hbg, hg, hnc, hcm, hcs, htake⟩
    · by_cases hm : s.size = 0
      · left; rw [h4.2 ⟨rfl, hm⟩]
      · have hr2 := run_append_nil_string (P := P) w t u o.type e i (.int .u8 0) ht hu hi hz s (by omega) (by omega) (by rw [hby]; omega)
        rw [hr] at hr2
        injection hr2 with hv _
        right
        exact ⟨w.heap.size, by rw [hv]; rfl, Nat.le_refl _⟩
    · by_cases hroom : n + s.size ≤ cap
      · have hcs' : cur.size = cap := by simpa using hcs
        have hr2 := Lib.run_append_room_string (P := P) w t u o.type e i ht hu hi hsize g n cap cur hg s hroom (by omega)
        rw [hr] at hr2
        injection hr2 with hv _
        left
        rw [hv]; rfl
      · have hxl : xs.length = n * i.size := by rw [hsize]; exact hown.1
        have holds : ∀ j u, xs[j]? = some u → w.cell? ((⟨g, 0, none⟩ : Addr).add j) = some u := hown.cells (g := g) rfl
        have hr2 := Lib.run_append_grow_string (P := P) w t u o.type e i (.int .u8 0) ht hu hi hz ⟨g, 0, none⟩ n cap xs hxl holds s (by omega) (by omega) (by rw [hby]; exact growslice_fits (by omega) (by omega))
        rw [hr] at hr2
        injection hr2 with hv _
        right
        exact ⟨w.heap.size, by rw [hv]; rfl, Nat.le_refl _⟩
  unfold Oper.wp execOp
  simp only [ho, resolve, invoke, builtin, Sem.run_bind, Sem.run_pure, Result.andThen_ok, List.map_toArray, List.map_cons, List.map_nil, hs, hx, hr]
  exact hK _ _ (h v' w' h2 h3 near)

theorem Near.from {w w1 : World} {v v' : Value} (h : Near w1 v v') (hs : w.heap.size ≤ w1.heap.size) : Near w v v' := by
  rcases h with h | ⟨b, h1, h2⟩
  · exact .inl h
  · exact .inr ⟨b, h1, by omega⟩

set_option maxHeartbeats 4000000 in
set_option maxRecDepth 100000 in
theorem writeRune_at (b : Nat) (n t k a u : Value) (sd : Bool) (l : List UInt8) (base : Nat) (r : Int) (w : World) (hb : Blk w b (OpCells n t k a u sd) 103) (ha : a = .pointer none ∨ a = .pointer (some ⟨b, 3, none⟩))
    (hu : w.ownsRow base 5 1 u l.length (u8s l)) (hr0 : 0 ≤ r) (hr1 : r ≤ 1114111) (hl : l.length ≤ 1000000) (hB : base ≤ w.heap.size) :
    Calls Tryz.prog 65 #[.pointer (some ⟨b, 3, none⟩), .int .i32 r] w fun e w' => ∃ nn u', e = .returned (.tuple #[nn, .nilIface]) ∧ Blk w' b (OpCells n t k (.pointer (some ⟨b, 3, none⟩)) u' sd) 103 ∧
      w'.ownsRow base 5 1 u' (l.length + (Lib.runeCells r).length) (u8s l ++ Lib.runeCells r) ∧ Keeps (fun g => g = b ∨ u.ownBlock = some g) w w' ∧ Near w u u' := by
  go_enter Tryz.func65, Tryz.ntmps65
  go_wp2_with fail
  refine (copyCheck_any b n t k a u sd w hb ha).mono ?_
  rintro e w1 ⟨rfl, hb1, hk1⟩
  have hu1 := hk1.own hu (fun g hg e => own_ne hu hb (by decide) (by rw [hg, e]))
  obtain ⟨A, c, rfl, hc⟩ := own_slice hu
  have c4 : w1.cell? ⟨b, 4, none⟩ = some (.slice A l.length c) := hb1.cell 4
  have HB1 := Lib.hid hb1; have HK1 := Lib.hid hk1; have HU1 := Lib.hid hu1; have HB := Lib.hid hb
  clear hb1 hk1 hu1 hb hu ha
  go_wp2_with fail
  refine (appendRune_at base _ _ _ r hr0 hr1 w1 HU1.out (by omega) (Nat.le_trans hB HK1.out.size)).mono ?_
  rintro e w2 ⟨u', rfl, hu2, hk2, hnear⟩
  have hne : (Value.slice A l.length c).ownBlock ≠ some b := own_ne HU1.out HB1.out (by decide)
  have hb2 : Blk w2 b _ 103 := hk2.blk HB1.out hne
  have c4' : w2.cell? ⟨b, 4, none⟩ = some (.slice A l.length c) := hb2.cell 4
  have f4 := hb2.free 4
  have hlt := hb2.lt
  have hne2 : u'.ownBlock ≠ some b := own_ne hu2 hb2 (by decide)
  obtain ⟨A2, c2, rfl, hc2⟩ := own_slice hu2
  have HB2 := Lib.hid hb2; have HK2 := Lib.hid hk2; have HU2 := Lib.hid hu2; have Hne := Lib.hid hne; have Hne2 := Lib.hid hne2
  have HNear := Lib.hid (hnear.from HK1.out.size)
  clear hb2 hk2 hu2 c4 hne hne2 hnear
  have hb3 := HB2.out.set 4 (.slice A2 (l.length + (Lib.runeCells r).length) c2)
  have c4'' : (w2.setCell ⟨b, 4, none⟩ (.slice A2 (l.length + (Lib.runeCells r).length) c2)).cell? ⟨b, 4, none⟩ = some (.slice A2 (l.length + (Lib.runeCells r).length) c2) := hb3.cell 4
  have HB3 := Lib.hid hb3; clear hb3
  go_wp2_with fail
  go_ret2
  refine ⟨_, _, rfl, HB3.out, ?_, ?_, HNear.out⟩
  · exact ownsRow_setCell_other HU2.out Hne2.out _
  · refine ((HK1.out.mono (fun i _ h => .inl h)).trans (HK2.out.mono (fun i _ h => .inr h))).set (fun _ => .inl rfl) _

set_option maxHeartbeats 4000000 in
set_option maxRecDepth 100000 in
theorem writeString_at (b : Nat) (n t k a u : Value) (sd : Bool) (l : List UInt8) (base : Nat) (s : ByteArray) (w : World) (hb : Blk w b (OpCells n t k a u sd) 103) (ha : a = .pointer none ∨ a = .pointer (some ⟨b, 3, none⟩))
    (hu : w.ownsRow base 5 1 u l.length (u8s l)) (hs : s.size ≤ 100000) (hl : l.length ≤ 1000000) (hB : base ≤ w.heap.size) :
    Calls Tryz.prog 76 #[.pointer (some ⟨b, 3, none⟩), .string s] w fun e w' => ∃ nn u', e = .returned (.tuple #[nn, .nilIface]) ∧ Blk w' b (OpCells n t k (.pointer (some ⟨b, 3, none⟩)) u' sd) 103 ∧
      w'.ownsRow base 5 1 u' (l.length + s.size) (u8s l ++ u8s (bs s)) ∧ Keeps (fun g => g = b ∨ u.ownBlock = some g) w w' ∧ Near w u u' := by
  obtain ⟨i0, hi, hz0, hz1, hz2⟩ := info_parts infoByte
  go_enter Tryz.func76, Tryz.ntmps76
  go_wp2_with fail
  refine (copyCheck_any b n t k a u sd w hb ha).mono ?_
  rintro e w1 ⟨rfl, hb1, hk1⟩
  have hu1 := hk1.own hu (fun g hg e => own_ne hu hb (by decide) (by rw [hg, e]))
  obtain ⟨A, c, rfl, hc⟩ := own_slice hu
  have c4 : w1.cell? ⟨b, 4, none⟩ = some (.slice A l.length c) := hb1.cell 4
  have HB1 := Lib.hid hb1; have HK1 := Lib.hid hk1; have HU1 := Lib.hid hu1; have HB := Lib.hid hb
  clear hb1 hk1 hu1 hb hu ha
  go_wp2_with (at_builtin; refine wpList_append_string_at _ rfl _ _ 51 9 rfl base 5 i0 Tryz.underlying51 Tryz.underlying9 hi hz0 hz1 hz2 _ _ _ rfl HU1.out s rfl ?c3 ?c4 ?c5 ?_)
  case c3 => unfold maxLen; omega
  case c4 => omega
  case c5 => have := HK1.out.size; omega
  intro v' w2 hown' hgrow hnear
  have hne : (Value.slice A l.length c).ownBlock ≠ some b := own_ne HU1.out HB1.out (by decide)
  have hk2 : Keeps (fun g => (Value.slice A l.length c).ownBlock = some g) w1 w2 := (Keeps.refl _ _).grown hgrow (fun g h _ => h)
  have hb2 : Blk w2 b _ 103 := hk2.blk HB1.out hne
  have f4 := hb2.free 4
  have c4' : w2.cell? ⟨b, 4, none⟩ = some (.slice A l.length c) := hb2.cell 4
  have hlt := hb2.lt
  have hu2 : w2.ownsRow base 5 1 v' (l.length + s.size) (u8s l ++ u8s (bs s)) := hown'
  have hne2 : v'.ownBlock ≠ some b := own_ne hu2 hb2 (by decide)
  obtain ⟨A2, c2, rfl, hc2⟩ := own_slice hu2
  have HB2 := Lib.hid hb2; have HK2 := Lib.hid hk2; have HU2 := Lib.hid hu2; have Hne2 := Lib.hid hne2
  have HNear := Lib.hid (hnear.from HK1.out.size)
  clear hb2 hk2 hu2 hgrow c4 hne hne2 hown' hi hz0 hz1 hz2 hnear
  go_wp2_with fail
  go_ret2
  refine ⟨_, _, rfl, HB2.out.set 4 _, ?_, ?_, HNear.out⟩
  · exact ownsRow_setCell_other HU2.out Hne2.out _
  · refine ((HK1.out.mono (fun i _ h => .inl h)).trans (HK2.out.mono (fun i _ h => .inr h))).set (fun _ => .inl rfl) _
end Go.Proofs.YtkjopcbleefioaaGreatDoor
