/-
  The data layer: a function that is ranged over, as its own code is run.
-/
import Derived.Test.YtpchlfmlolkeeaaD31
set_option linter.unusedSimpArgs false
set_option linter.unusedVariables false
namespace Go.Am
open Go Go.RowKit

variable {P : Program} {C : CF} {n : NN} {Q : QQ}

theorem keepM_sh {m : Nat} : ∀ t : DT, keepM m (shT t) = shT t
  | [] => rfl
  | (i, d) :: t => by
    have e := keepM_sh (m := m) t
    unfold shT at e ⊢
    simp only [List.map_cons, keepM]
    have : decide (FB ≤ i + FB) = true := decide_eq_true (Nat.le_add_left _ _)
    rw [this, cond_true, cond_true, e]
theorem dropM_sh {m : Nat} : ∀ t : DT, dropM m (shT t) = shT t
  | [] => rfl
  | (i, d) :: t => by
    have e := dropM_sh (m := m) t
    unfold shT at e ⊢
    simp only [List.map_cons, dropM]
    have : decide (FB ≤ i + FB) = true := decide_eq_true (Nat.le_add_left _ _)
    rw [this, cond_true, cond_false, e]

theorem keepM_nil {m : Nat} : keepM m [] = [] := rfl
theorem keepM_hi {m i : Nat} {d : DV} {t : DT} (h : decide (FB ≤ i) = true) : keepM m ((i, d) :: t) = (i, d) :: keepM m t := by simp only [keepM, h, cond_true]
theorem keepM_lo {m i : Nat} {d : DV} {t : DT} (h : decide (FB ≤ i) = false) : keepM m ((i, d) :: t) = bif (m / 2 ^ i % 2 == 1) then (i, d) :: keepM m t else keepM m t := by simp only [keepM, h, cond_false]
theorem dropM_nil {m : Nat} : dropM m [] = [] := rfl
theorem dropM_hi {m i : Nat} {d : DV} {t : DT} (h : decide (FB ≤ i) = true) : dropM m ((i, d) :: t) = (i, d) :: dropM m t := by simp only [dropM, h, cond_true, cond_false]
theorem dropM_lo {m i : Nat} {d : DV} {t : DT} (h : decide (FB ≤ i) = false) : dropM m ((i, d) :: t) = bif (m / 2 ^ i % 2 == 1) then dropM m t else (i, d) :: dropM m t := by simp only [dropM, h, cond_false]

/-- A yield, where the slots of the frame are the first ones. -/
theorem goY_it {j : Nat} {ds : List DV} {dst : Option Nat} {r : List DIt} {F : List Fr} {s : DS} {t : DT} {K : KT} (k : Nat) (H : DY P j ds (s.t.take k ++ shT t) s.L K) (hst : s.t = s.t.take k ++ shT t)
    (h : ∀ d t' L', K d t' L' → go P n C .normal (.ops r :: F) Q ⟨putD t' dst d, L'⟩) : goY P n C j ds dst r F Q s := by
  rw [← hst] at H
  exact H.mono h

theorem DEnt.ovk (k k' : Nat) {s : DS} {t' w : DT} (h0 : s.t = s.t.take k ++ shT w) (h0' : t' = t'.take k' ++ shT w) (h : SubX (s.t.take k) (t'.take k')) (h1 : ltT (s.t.take k) = true) (h2 : ltT (t'.take k') = true) : DEnt s ⟨t', s.L⟩ := by
  have := DEnt.ov (w := w) (L := s.L) h h1 h2
  rw [← h0, ← h0'] at this
  exact this

end Go.Am

