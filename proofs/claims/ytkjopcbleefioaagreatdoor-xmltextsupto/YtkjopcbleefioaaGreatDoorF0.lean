/- Elements: their size, whether they are right, how they are written, whether two are the same: plain. -/
import Derived.Test.YtkjopcbleefioaaGreatDoorC1
namespace Go.Proofs.YtkjopcbleefioaaGreatDoor
open Go Go.RowKit
set_option linter.unusedSimpArgs false
set_option linter.unusedVariables false

mutual
/-- How much an element holds. -/
def El.size : El → Nat
  | .mk n t ks => 1 + n.length + t.length + Els.size ks
def Els.size : List El → Nat
  | [] => 0
  | k :: ks => El.size k + Els.size ks
end
theorem Els.size_get : ∀ {ks : List El} {j : Nat} {k : El}, ks[j]? = some k → El.size k ≤ Els.size ks
  | [], j, k, h => by simp at h
  | x :: ks, 0, k, h => by
    simp at h; subst h
    rw [Els.size]; omega
  | x :: ks, j + 1, k, h => by
    have := Els.size_get (ks := ks) (j := j) (k := k) (by simpa using h)
    rw [Els.size]; omega
theorem El.size_pos (e : El) : 1 ≤ El.size e := by cases e; rw [El.size]; omega
theorem Els.size_len : ∀ ks : List El, ks.length ≤ Els.size ks
  | [] => by simp
  | k :: ks => by
    have := Els.size_len ks
    have := El.size_pos k
    rw [Els.size, List.length_cons]; omega

/-- A kid's cells. -/
theorem ElsR.at {w : World} {ok : Nat → Prop} : ∀ {ks : List El} {A : Option Addr} {j : Nat} {k : El}, ElsR w ok ks A → ks[j]? = some k →
    ∃ b off c0 c1 c2, A = some ⟨b, off, none⟩ ∧ ok b ∧ w.cell? ⟨b, off + j * 3, none⟩ = some c0 ∧ w.cell? ⟨b, off + j * 3 + 1, none⟩ = some c1 ∧ w.cell? ⟨b, off + j * 3 + 2, none⟩ = some c2 ∧ ElR w ok k [c0, c1, c2]
  | [], _, j, k, _, h => by simp at h
  | x :: ks, A, 0, k, hr, h => by
    simp at h; subst h
    rw [ElsR] at hr
    obtain ⟨b, off, c0, c1, c2, ha, hb, h0, h1, h2, hk, _⟩ := hr
    exact ⟨b, off, c0, c1, c2, ha, hb, by simpa using h0, by simpa using h1, by simpa using h2, hk⟩
  | x :: ks, A, j + 1, k, hr, h => by
    rw [ElsR] at hr
    obtain ⟨b, off, c0, c1, c2, ha, hb, h0, h1, h2, hk, hks⟩ := hr
    obtain ⟨b', off', d0, d1, d2, ha', hb', g0, g1, g2, gk⟩ := ElsR.at (j := j) hks (by simpa using h)
    injection ha' with ha'
    injection ha' with e1 e2
    subst e1; subst e2
    refine ⟨b, off, d0, d1, d2, ha, hb, ?_, ?_, ?_, gk⟩
    · rw [show off + (j + 1) * 3 = off + 3 + j * 3 by omega]; exact g0
    · rw [show off + (j + 1) * 3 + 1 = off + 3 + j * 3 + 1 by omega]; exact g1
    · rw [show off + (j + 1) * 3 + 2 = off + 3 + j * 3 + 2 by omega]; exact g2
theorem ElR.form {w : World} {ok : Nat → Prop} {e : El} {cs : List Value} (h : ElR w ok e cs) : ∃ A cap, cs = [.string (sb e.name), .string (sb e.text), .slice A e.kids.length cap] ∧ e.kids.length ≤ cap ∧ ElsR w ok e.kids A := by
  cases e with
  | mk n t ks => rw [ElR] at h; exact h
/-- What lies below B is kept. -/
theorem ElR.below {w w' : World} {B : Nat} {e : El} {cs : List Value} (h : ElR w (· < B) e cs) (k : Below B w w') : ElR w' (· < B) e cs :=
  h.mono (fun b hb => ⟨k.block b hb, hb⟩) e cs
theorem ElsR.below {w w' : World} {B : Nat} {ks : List El} {A : Option Addr} (h : ElsR w (· < B) ks A) (k : Below B w w') : ElsR w' (· < B) ks A :=
  ElsR.mono (fun b hb => ⟨k.block b hb, hb⟩) ks A h
end Go.Proofs.YtkjopcbleefioaaGreatDoor
