/-
  The data layer: what a contract says of the model's own calls.
-/
import Derived.Test.YtpchlfmlolkeeaaD23
set_option linter.unusedSimpArgs false
set_option linter.unusedVariables false
namespace Go.Am
open Go Go.RowKit

variable {P : Program}

/-- A contract that yields true is a call of the model's that returns true, and leaves what there was. -/
theorem PCalls.calls {f : Nat} {args : List DV} {vs : List Value} {vs' : Array Value} {W w : World} {h : AHeap} {ρ : Ren} (H : PCalls P f args fun d => d = .bool true) (Hh : HR P ρ W h w)
    (hp : PV h (fun b => ∃ c, h.get b = .ro c) (fun _ _ => False) args vs) (hl : LR ρ vs vs'.toList) :
    Calls P f vs' w fun e w' => e = .returned (.bool true) ∧ Below W.heap.size W w' := by
  have O : OwnR h (fun b => ∃ c, h.get b = .ro c) (fun _ _ => False) own0 := ⟨fun j l hj => (by cases hj), fun j b hb => hb.elim, fun j b b' hb => hb.elim, fun i j b hb => hb.elim⟩
  have hp' : PV h (Fz (fun b => ∃ c, h.get b = .ro c) (fun _ _ => False) own0.m) (fun _ _ => False) args vs := by
    refine ⟨hp.1, fun i d x hd hx => (hp.2 i d x hd hx).mono (fun b hb hF => ⟨hb, ⟨hF, fun _ _ hj _ => by cases hj⟩, rfl⟩) .refl⟩
  refine ((H own0).2 h (fun _ _ => False) _ vs Hh.base O hp' ρ W w vs' Hh hl).mono ?_
  rintro e w' ⟨ρ', v, v', h', ⟨d, L', ks, η', ⟨rfl, _, _⟩, _, _, hv, _⟩, rfl, hs, H', hvr⟩
  cases hv
  cases hvr
  exact ⟨rfl, H'.below⟩

theorem PV.cons {h : AHeap} {F : Nat → Prop} {η : Nat → Nat → Prop} {d : DV} {v : Value} {ds : List DV} {vs : List Value} (hv : RdV h F η d v) (hs : PV h F η ds vs) : PV h F η (d :: ds) (v :: vs) := by
  have := (PV.one hv).append hs
  simpa using this

end Go.Am

