/-
  The data layer: results in other words.
-/
import Derived.Test.YtpchlfmlolkeeaaD33
set_option linter.unusedSimpArgs false
set_option linter.unusedVariables false
namespace Go.Am
open Go Go.RowKit

variable {P : Program}

theorem DCalls.say {f : Nat} {args : List DV} {L : Own} {K K' : KK} (H : DCalls P f args L K) (hk : ∀ d L' ks, K d L' ks → ∃ d', K' d' L' ks ∧ ∀ (h : AHeap) (F : Nat → Prop) (η : Nat → Nat → Prop) (v : Value), RdV h F η d v → RdV h F η d' v) : DCalls P f args L K' := by
  refine ⟨H.1, fun h η G vs B O hp => (H.2 h η G vs B O hp).mono ?_⟩
  rintro v h' ⟨d, L', ks, η', hK, r1, r2, hv, r3⟩
  obtain ⟨d', h1, h2⟩ := hk d L' ks hK
  exact ⟨d', L', ks, η', h1, r1, r2, h2 _ _ _ _ hv, r3⟩

theorem RdV.unlit {h : AHeap} {F : Nat → Prop} {η : Nat → Nat → Prop} {b : Bool} {v : Value} (H : RdV h F η (.lit b) v) : RdV h F η (.bool b) v := by cases H; exact .bool b

/-- A result pair whose first part is a bool that is told. -/
theorem PCalls.unlit2 {f : Nat} {args : List DV} {b : Bool} {x : DV} (H : PCalls P f args (fun d => d = .tup [.lit b, x])) : PCalls P f args (fun d => d = .tup [.bool b, x]) := by
  intro L
  refine (H L).say ?_
  rintro d L' ks ⟨rfl, r⟩
  refine ⟨_, ⟨rfl, r⟩, fun h F η v hv => ?_⟩
  cases hv with
  | tup hl hx =>
    refine .tup hl fun i d y hd hy => ?_
    match i with
    | 0 => cases hd; exact (hx 0 _ y rfl hy).unlit
    | i + 1 => exact hx (i + 1) d y (by simpa using hd) hy

end Go.Am

