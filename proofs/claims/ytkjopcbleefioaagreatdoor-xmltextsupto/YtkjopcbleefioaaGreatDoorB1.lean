/- strings.Builder as a field of xml's open: block b, from cell 3 on. -/
import Derived.Test.YtkjopcbleefioaaGreatDoorBase
import Derived.Test.YtkjopcbleefioaaGreatDoorShelf
import Derived.Lib.Builder
import Derived.Outline
import Derived.Lib.UnsafeStr
import Derived.Lib.AppendStr
import Derived.ChangeAlike
import Derived.RegionTactic
namespace Go.Proofs.YtkjopcbleefioaaGreatDoor
open Go Go.RowKit
set_option linter.unusedSimpArgs false
set_option linter.unusedVariables false


theorem builder_info : ∃ j, Tryz.prog.info? 101 = some j ∧ j.size ≠ 0 := by
  have h : (Tryz.prog.info? 101).map (·.size) = some 2 := by kernel_rfl
  obtain ⟨j, hj, hs⟩ := Option.map_eq_some_iff.1 h
  exact ⟨j, hj, by rw [hs]; decide⟩
theorem open_cells : Tryz.prog.cellsOf 103 = 6 := by kernel_rfl
theorem lies_builder : liesAt Tryz.prog Tryz.prog.depth 103 (6 / Tryz.prog.cellsOf 103) 3 101 1 = true := by kernel_rfl

set_option maxHeartbeats 1000000 in
set_option maxRecDepth 100000 in
theorem copyCheck_used (b : Nat) (w : World) (h0 : w.cell? ⟨b, 3, none⟩ = some (.pointer (some ⟨b, 3, none⟩))) :
    Calls Tryz.prog 81 #[.pointer (some ⟨b, 3, none⟩)] w fun e w' => e = .returned (.tuple #[]) ∧ w = w' := by
  obtain ⟨j, hj, _⟩ := builder_info
  go_enter Tryz.func81, Tryz.ntmps81
  go_wp2
  rw [Lib.run_neq_ptr_same w _ Tryz.underlying99 hj]
  go_wp2
  go_end0
  exact ⟨rfl, rfl⟩

set_option maxHeartbeats 1000000 in
set_option maxRecDepth 100000 in
theorem copyCheck_fresh (b : Nat) (w : World) (h0 : w.cell? ⟨b, 3, none⟩ = some (.pointer none)) (hsh : w.shape? b = some (103, 6)) (hfz : w.frozen? ⟨b, 3, none⟩ = false) :
    Calls Tryz.prog 81 #[.pointer (some ⟨b, 3, none⟩)] w fun e w' => e = .returned (.tuple #[]) ∧ w.setCell ⟨b, 3, none⟩ (.pointer (some ⟨b, 3, none⟩)) = w' := by
  obtain ⟨j, hj, hjs⟩ := builder_info
  go_enter Tryz.func81, Tryz.ntmps81
  go_wp2
  rw [Lib.run_to_unsafe w ⟨b, 3, none⟩ Tryz.underlying99 Tryz.underlying162 hj hjs hsh (show (3 : Nat) < 6 by decide)]
  simp only [Result.andThen]
  rw [Oper.upon_value]
  go_wp2
  rw [run_callFunc_extern Tryz.func102 (by kernel_rfl) (by kernel_rfl) (by kernel_rfl) (e := Extern.AbiNoEscape.same) (by kernel_rfl)]
  rw [Lib.run_noEscape]
  simp only [Result.andThen]
  rw [Oper.upon_value]
  go_wp2
  rw [Lib.run_from_unsafe w ⟨b, 3, none⟩ Tryz.underlying162 Tryz.underlying99 hj hsh lies_builder]
  simp only [Result.andThen]
  rw [Oper.upon_value]
  go_wp2
  go_end0
  exact ⟨rfl, rfl⟩

/-- An open element: its name, the text of a failed .. (none), its kids' slice, the builder's two cells, is it solid? -/
def OpCells (n t k a u : Value) (sd : Bool) : List Value := [n, t, k, a, u, .bool sd]

theorem copyCheck_any (b : Nat) (n t k a u : Value) (sd : Bool) (w : World) (hb : Blk w b (OpCells n t k a u sd) 103) (ha : a = .pointer none ∨ a = .pointer (some ⟨b, 3, none⟩)) :
    Calls Tryz.prog 81 #[.pointer (some ⟨b, 3, none⟩)] w fun e w' => e = .returned (.tuple #[]) ∧ Blk w' b (OpCells n t k (.pointer (some ⟨b, 3, none⟩)) u sd) 103 ∧ Keeps (· = b) w w' := by
  rcases ha with rfl | rfl
  · refine (copyCheck_fresh b w (hb.cell 3) hb.shape (hb.free 3)).mono ?_
    rintro e w' ⟨rfl, rfl⟩
    exact ⟨rfl, hb.set 3 _, (Keeps.refl _ _).set1 _ _⟩
  · refine (copyCheck_used b w (hb.cell 3)).mono ?_
    rintro e w' ⟨rfl, rfl⟩
    exact ⟨rfl, hb, Keeps.refl _ _⟩

/-- A row of bytes. -/
def u8s (l : List UInt8) : List Value := l.map fun c => .int .u8 c.toNat
theorem u8s_length (l : List UInt8) : (u8s l).length = l.length := by simp [u8s]
theorem u8s_append (l m : List UInt8) : u8s (l ++ m) = u8s l ++ u8s m := by simp [u8s]

theorem own_slice {w : World} {base n : Nat} {e : TypeId} {size : Nat} {v : Value} {xs : List Value} (h : w.ownsRow base e size v n xs) : ∃ A c, v = .slice A n c ∧ n ≤ c := by
  rcases h.2 with ⟨hv, h0⟩ | ⟨g, cap, cur, hv, _, _, hc, _⟩
  · exact ⟨none, 0, by rw [hv, h0], by omega⟩
  · exact ⟨_, _, hv, hc⟩
/-- Two blocks of different types. -/
theorem own_ne {w : World} {base n : Nat} {e : TypeId} {size : Nat} {v : Value} {xs : List Value} (h : w.ownsRow base e size v n xs) {g : Nat} {cs : List Value} {T : TypeId} (hb : Blk w g cs T) (hT : e ≠ T) : v.ownBlock ≠ some g := by
  intro hv
  rcases h.2 with ⟨rfl, h0⟩ | ⟨g', cap, cur, rfl, _, hg, _⟩
  · simp [Value.ownBlock] at hv
  · simp only [Value.ownBlock, Option.some.injEq] at hv
    subst hv
    unfold Blk at hb
    rw [hg] at hb
    injection hb with hb
    injection hb with _ hb _
    exact hT hb

set_option maxHeartbeats 4000000 in
set_option maxRecDepth 100000 in
theorem writeRune_any (b : Nat) (n t k a u : Value) (sd : Bool) (l : List UInt8) (base : Nat) (r : Int) (w : World) (hb : Blk w b (OpCells n t k a u sd) 103) (ha : a = .pointer none ∨ a = .pointer (some ⟨b, 3, none⟩))
    (hu : w.ownsRow base 5 1 u l.length (u8s l)) (hr0 : 0 ≤ r) (hr1 : r ≤ 1114111) (hl : l.length ≤ 1000000) (hB : base ≤ w.heap.size) :
    Calls Tryz.prog 65 #[.pointer (some ⟨b, 3, none⟩), .int .i32 r] w fun e w' => ∃ nn u', e = .returned (.tuple #[nn, .nilIface]) ∧ Blk w' b (OpCells n t k (.pointer (some ⟨b, 3, none⟩)) u' sd) 103 ∧
      w'.ownsRow base 5 1 u' (l.length + (Lib.runeCells r).length) (u8s l ++ Lib.runeCells r) ∧ Keeps (fun g => g = b ∨ u.ownBlock = some g) w w' := by
  go_enter Tryz.func65, Tryz.ntmps65
  go_wp2_with fail
  refine (copyCheck_any b n t k a u sd w hb ha).mono ?_
  rintro e w1 ⟨rfl, hb1, hk1⟩
  have hu1 := hk1.own hu (fun g hg e => own_ne hu hb (by decide) (by rw [hg, e]))
  obtain ⟨A, c, rfl, hc⟩ := own_slice hu
  have c4 : w1.cell? ⟨b, 4, none⟩ = some (.slice A l.length c) := hb1.cell 4
  have HB1 := Lib.hid hb1; have HK1 := Lib.hid hk1; have HU1 := Lib.hid hu1; have HB := Lib.hid hb
  clear hb1 hk1 hu1 hb hu ha
  go_wp2_with fail
  refine (Tryz.utf8_AppendRune_plain base _ _ _ r (by omega) (by omega) w1 HU1.out (by omega) (Nat.le_trans hB HK1.out.size)).mono ?_
  rintro e w2 ⟨u', rfl, hu2, o, hg⟩
  have hne : (Value.slice A l.length c).ownBlock ≠ some b := own_ne HU1.out HB1.out (by decide)
  have hk2 : Keeps (fun g => (Value.slice A l.length c).ownBlock = some g) w1 w2 := ((Keeps.refl _ _).alloc o).grown hg (fun g h _ => h)
  have hb2 : Blk w2 b _ 103 := hk2.blk HB1.out hne
  have c4' : w2.cell? ⟨b, 4, none⟩ = some (.slice A l.length c) := hb2.cell 4
  have f4 := hb2.free 4
  have hlt := hb2.lt
  have hne2 : u'.ownBlock ≠ some b := own_ne hu2 hb2 (by decide)
  obtain ⟨A2, c2, rfl, hc2⟩ := own_slice hu2
  have HB2 := Lib.hid hb2; have HK2 := Lib.hid hk2; have HU2 := Lib.hid hu2; have Hne := Lib.hid hne; have Hne2 := Lib.hid hne2
  clear hb2 hk2 hu2 hg c4 hne hne2
  have hb3 := HB2.out.set 4 (.slice A2 (l.length + (Lib.runeCells r).length) c2)
  have c4'' : (w2.setCell ⟨b, 4, none⟩ (.slice A2 (l.length + (Lib.runeCells r).length) c2)).cell? ⟨b, 4, none⟩ = some (.slice A2 (l.length + (Lib.runeCells r).length) c2) := hb3.cell 4
  have HB3 := Lib.hid hb3; clear hb3
  go_wp2_with fail
  go_ret2
  refine ⟨_, _, rfl, HB3.out, ?_, ?_⟩
  · exact ownsRow_setCell_other HU2.out Hne2.out _
  · refine ((HK1.out.mono (fun i _ h => .inl h)).trans (HK2.out.mono (fun i _ h => .inr h))).set (fun _ => .inl rfl) _

theorem infoByte : (Tryz.prog.info? 5).map (fun i => (i.zero, i.size, i.bytes)) = some (some (.int .u8 0), 1, 1) := by kernel_rfl
theorem cellsByte : Tryz.prog.cellsOf 5 = 1 := by kernel_rfl

set_option maxHeartbeats 4000000 in
set_option maxRecDepth 100000 in
theorem writeString_any (b : Nat) (n t k a u : Value) (sd : Bool) (l : List UInt8) (base : Nat) (s : ByteArray) (w : World) (hb : Blk w b (OpCells n t k a u sd) 103) (ha : a = .pointer none ∨ a = .pointer (some ⟨b, 3, none⟩))
    (hu : w.ownsRow base 5 1 u l.length (u8s l)) (hs : s.size ≤ 100000) (hl : l.length ≤ 1000000) (hB : base ≤ w.heap.size) :
    Calls Tryz.prog 76 #[.pointer (some ⟨b, 3, none⟩), .string s] w fun e w' => ∃ nn u', e = .returned (.tuple #[nn, .nilIface]) ∧ Blk w' b (OpCells n t k (.pointer (some ⟨b, 3, none⟩)) u' sd) 103 ∧
      w'.ownsRow base 5 1 u' (l.length + s.size) (u8s l ++ u8s (bs s)) ∧ Keeps (fun g => g = b ∨ u.ownBlock = some g) w w' := by
  obtain ⟨i0, hi, hz0, hz1, hz2⟩ := info_parts infoByte
  go_enter Tryz.func76, Tryz.ntmps76
  go_wp2_with fail
  refine (copyCheck_any b n t k a u sd w hb ha).mono ?_
  rintro e w1 ⟨rfl, hb1, hk1⟩
  have hu1 := hk1.own hu (fun g hg e => own_ne hu hb (by decide) (by rw [hg, e]))
  obtain ⟨A, c, rfl, hc⟩ := own_slice hu
  have c4 : w1.cell? ⟨b, 4, none⟩ = some (.slice A l.length c) := hb1.cell 4
  have HB1 := Lib.hid hb1; have HK1 := Lib.hid hk1; have HU1 := Lib.hid hu1; have HB := Lib.hid hb
  clear hb1 hk1 hu1 hb hu ha
  go_wp2_with (at_builtin; refine Lib.wpList_append_own_string _ rfl _ _ 51 9 rfl base 5 i0 Tryz.underlying51 Tryz.underlying9 hi hz0 hz1 hz2 _ _ _ rfl HU1.out s rfl ?c3 ?c4 ?c5 ?_)
  case c3 => unfold maxLen; omega
  case c4 => omega
  case c5 => have := HK1.out.size; omega
  intro v' w2 hown' hgrow _
  have hne : (Value.slice A l.length c).ownBlock ≠ some b := own_ne HU1.out HB1.out (by decide)
  have hk2 : Keeps (fun g => (Value.slice A l.length c).ownBlock = some g) w1 w2 := (Keeps.refl _ _).grown hgrow (fun g h _ => h)
  have hb2 : Blk w2 b _ 103 := hk2.blk HB1.out hne
  have f4 := hb2.free 4
  have c4' : w2.cell? ⟨b, 4, none⟩ = some (.slice A l.length c) := hb2.cell 4
  have hlt := hb2.lt
  have hu2 : w2.ownsRow base 5 1 v' (l.length + s.size) (u8s l ++ u8s (bs s)) := hown'
  have hne2 : v'.ownBlock ≠ some b := own_ne hu2 hb2 (by decide)
  obtain ⟨A2, c2, rfl, hc2⟩ := own_slice hu2
  have HB2 := Lib.hid hb2; have HK2 := Lib.hid hk2; have HU2 := Lib.hid hu2; have Hne2 := Lib.hid hne2
  clear hb2 hk2 hu2 hgrow c4 hne hne2 hown' hi hz0 hz1 hz2
  go_wp2_with fail
  go_ret2
  refine ⟨_, _, rfl, HB2.out.set 4 _, ?_, ?_⟩
  · exact ownsRow_setCell_other HU2.out Hne2.out _
  · refine ((HK1.out.mono (fun i _ h => .inl h)).trans (HK2.out.mono (fun i _ h => .inr h))).set (fun _ => .inl rfl) _

theorem Keeps.freeze {D : Nat → Prop} {w w' : World} (h : Keeps D w w') {p : Addr} (hp : p.block < w.heap.size → D p.block) (n : Nat) : Keeps D w (w'.freeze p n) := by
  have hb := Lib.below_freeze (Below.refl 0 w') (p := p) (Nat.zero_le _) n
  refine ⟨hb.os.trans h.os, hb.tape.trans h.tape, hb.output.trans h.output, Nat.le_trans h.size hb.size, fun k hk hd => ?_⟩
  refine Eq.trans ?_ (h.block k hk hd)
  have : k ≠ p.block := fun e => hd (by subst e; exact hp hk)
  unfold World.freeze
  split
  · rfl
  · simp only [Array.getElem?_modify]
    rw [if_neg (fun e => this e.symm)]

set_option maxHeartbeats 4000000 in
set_option maxRecDepth 100000 in
theorem builderString (b : Nat) (n t k a u : Value) (sd : Bool) (l : List UInt8) (base : Nat) (w : World) (hb : Blk w b (OpCells n t k a u sd) 103)
    (hu : w.ownsRow base 5 1 u l.length (u8s l)) (h0 : l ≠ []) :
    Calls Tryz.prog 60 #[.pointer (some ⟨b, 3, none⟩)] w fun e w' => e = .returned (.string (sb l)) ∧ Keeps (fun g => u.ownBlock = some g) w w' := by
  have hl0 : l.length ≠ 0 := by simpa using h0
  obtain ⟨g, cap, cur, rfl, hbg, hg, hnc, hcm, hcs, htake⟩ : ∃ g cap cur, u = .slice (some ⟨g, 0, none⟩) l.length cap ∧ base ≤ g ∧ w.heap[g]? = some (.cells cur 5 (0, 0)) ∧ l.length ≤ cap ∧ cap ≤ maxLen ∧ cur.size = cap * 1 ∧ cur.toList.take (l.length * 1) = u8s l := by
    rcases hu.2 with ⟨_, hz⟩ | ⟨g, cap, cur, hv, r⟩
    · exact absurd hz hl0
    · exact ⟨g, cap, cur, hv, r⟩
  have c1 : w.drew.cell? ⟨b, 4, none⟩ = some (.slice (some ⟨g, 0, none⟩) l.length cap) := hb.drew.cell 4
  have hSD : (Builtin.unsafeSliceData_ #[51] 119 #[.slice (some ⟨g, 0, none⟩) l.length cap]).run Tryz.prog w.drew = .ok (.pointer (some ⟨g, 0, none⟩)) w.drew :=
    Lib.run_unsafeSliceData_row _ _ _ _ _ _ (by omega)
  have hUS : (Builtin.unsafeString_ #[119, 3] 9 #[.pointer (some ⟨g, 0, none⟩), .int .i64 l.length]).run Tryz.prog w.drew = .ok (.string ⟨l.toArray⟩) (w.drew.freeze ⟨g, 0, none⟩ l.length) := by
    refine Lib.run_unsafeString_row w.drew 119 3 9 5 Tryz.underlying119 cellsByte g cur.size (by have hg' : w.drew.heap[g]? = some (.cells cur 5 (0, 0)) := hg; simp [World.shape?, hg']) l h0 (by omega) (by unfold maxLen at hcm; omega) ?_
    intro j x hx
    have := hu.cells (g := g) rfl j (.int .u8 x.toNat) (by simp [u8s, hx])
    exact this
  go_enter Tryz.func60, Tryz.ntmps60
  go_wp2
  go_region
  all_goals (go_wp2; go_ret; refine ⟨rfl, Keeps.freeze (D := fun k => (Value.slice (some ⟨g, 0, none⟩) l.length cap).ownBlock = some k) (p := ⟨g, 0, none⟩) ?_ (fun _ => by simp [Value.ownBlock]) _⟩; exact (Keeps.refl _ _).drew)

set_option maxHeartbeats 4000000 in
set_option maxRecDepth 100000 in
theorem builderString_nil (b : Nat) (n t k a : Value) (sd : Bool) (w : World) (hb : Blk w b (OpCells n t k a (.slice none 0 0) sd) 103) :
    Calls Tryz.prog 60 #[.pointer (some ⟨b, 3, none⟩)] w fun e w' => e = .returned (.string (sb [])) ∧ Below w.heap.size w w' := by
  have hUS : ∀ (W : World) (q : Option Addr), (Builtin.unsafeString_ #[119, 3] 9 #[.pointer q, .int .i64 0]).run Tryz.prog W = .ok (.string .empty) W := fun W q => Lib.run_unsafeString_none W _ _ _ q
  have c1 : w.drew.cell? ⟨b, 4, none⟩ = some (.slice none 0 0) := hb.drew.cell 4
  have hSD : ∀ W : World, (Builtin.unsafeSliceData_ #[51] 119 #[.slice none 0 0]).run Tryz.prog W = .ok (.pointer none) W := fun W => by kernel_rfl
  go_enter Tryz.func60, Tryz.ntmps60
  go_wp2
  go_region
  all_goals (go_wp2; go_ret; exact ⟨rfl, (Below.refl _ _).drew⟩)
end Go.Proofs.YtkjopcbleefioaaGreatDoor
