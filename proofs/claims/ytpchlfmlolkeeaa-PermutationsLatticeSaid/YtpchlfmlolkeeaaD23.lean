/-
  The data layer: what one state tells of another, computed.
-/
import Derived.Test.YtpchlfmlolkeeaaD22
set_option linter.unusedSimpArgs false
set_option linter.unusedVariables false
namespace Go.Am
open Go Go.RowKit

variable {t t' : DT} {L L' : Own}

def entS (N : Nat) (t : DT) : DT → Prop
  | [] => True
  | (i, d) :: r => (match lk t i with
    | some d0 => d0.kill (geN N) = d
    | none => False) ∧ entS N t r

def entO (N : Nat) (m : List (Nat × Loc)) : List (Nat × Loc) → Prop
  | [] => True
  | (j, l) :: r => (bif Nat.ble N j then False else match lkO m j with
    | some l0 => l0.kill (geN N) = l
    | none => False) ∧ entO N m r

def entD (s s' : DS) : Prop := s'.L.fx = s.L.fx ∧ s'.L.fx ≤ s'.L.nx ∧ entS s'.L.nx s.t s'.t ∧ entO s'.L.nx s.L.m s'.L.m

theorem entS_sub {N : Nat} : ∀ r : DT, entS N t r → SubT N t r
  | [], _ => trivial
  | (i, d) :: r, ⟨h1, h2⟩ => by
    refine ⟨?_, entS_sub r h2⟩
    split at h1
    · rename_i d0 h; exact ⟨d0, h, h1⟩
    · exact h1.elim

theorem entO_sub {N : Nat} {m : List (Nat × Loc)} : ∀ r : List (Nat × Loc), entO N m r → SubO N m r
  | [], _ => trivial
  | (j, l) :: r, ⟨h1, h2⟩ => by
    refine ⟨?_, entO_sub r h2⟩
    cases hb : Nat.ble N j with
    | true => rw [hb] at h1; exact h1.elim
    | false =>
      rw [hb] at h1
      have hlt : j < N := by
        rcases Nat.lt_or_ge j N with h | h
        · exact h
        · rw [Nat.ble_eq_true_of_le h] at hb; cases hb
      simp only [cond_false] at h1
      split at h1
      · rename_i l0 h; exact ⟨hlt, l0, h, h1⟩
      · exact h1.elim

/-- A way out of a round. -/
theorem DEnt.of {s s' : DS} (h : entD s s') : DEnt s s' := DEnt.sub h.1 h.2.1 (entS_sub _ h.2.2.1) (entO_sub _ h.2.2.2)

end Go.Am

