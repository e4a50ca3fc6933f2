/-
  The data layer: contracts that ask for nothing of one's own.
-/
import Derived.Test.YtpchlfmlolkeeaaD19
set_option linter.unusedSimpArgs false
set_option linter.unusedVariables false
namespace Go.Am
open Go Go.RowKit

variable {P : Program} {h : AHeap} {G F : Nat → Prop} {η : Nat → Nat → Prop} {L : Own} {d : DV} {C : CO}

def own0 : Own := ⟨0, 0, []⟩
def allN (_ : Nat) : Bool := true

/-- Nothing of one's own is asked or given. -/
def PCalls (P : Program) (f : Nat) (args : List DV) (φ : DV → Prop) : Prop := ∀ L, DCalls P f args L fun d L' ks => φ d ∧ L' = L ∧ ks = []

theorem PCalls.mono {f : Nat} {args : List DV} {φ ψ : DV → Prop} (H : PCalls P f args φ) (hk : ∀ d, φ d → ψ d) : PCalls P f args ψ := fun L => (H L).mono fun d _ _ ⟨a, b⟩ => ⟨hk d a, b⟩

/-- The frame: what a call without anything of one's own leaves alone. -/
theorem PCalls.of {f : Nat} {args : List DV} {φ : DV → Prop} (ha : DV.killL allN args = args) (H : DCalls P f args own0 fun d _ _ => φ d ∧ d.kill allN = d) : PCalls P f args φ := by
  refine fun L => ⟨H.1, fun h η G vs B O hp => ?_⟩
  let η0 : Nat → Nat → Prop := fun _ _ => False
  let G0 : Nat → Prop := Fz G η L.m
  have S0 : Stays h h (Fz G η L.m) (Fz G0 η0 own0.m) := fun b hb hF => ⟨hb, ⟨hF, fun _ _ hj _ => by cases hj⟩, rfl⟩
  have K0 : Keeps h h η η0 allN := fun j b hp => by cases hp
  have hp0 : PV h (Fz G0 η0 own0.m) η0 args vs := by
    refine ⟨hp.1, fun i d x hd hx => ?_⟩
    have h1 := (hp.2 i d x hd hx).kill S0 K0
    have h2 : d.kill allN = d := by
      have : (DV.killL allN args)[i]? = some d := by rw [ha]; exact hd
      rw [DV.killL_map, List.getElem?_map, hd, Option.map_some, Option.some.injEq] at this
      exact this
    rwa [h2] at h1
  have O0 : OwnR h G0 η0 own0 := ⟨fun j l hj => (by cases hj), fun j b hb => hb.elim, fun j b b' hb => hb.elim, fun i j b hb => hb.elim⟩
  refine (H.2 h η0 G0 vs B O0 hp0).mono ?_
  rintro v h' ⟨d, L', ks, η', ⟨hφ, hk⟩, hfx, HS', hv, _⟩
  have hno : ∀ b, ¬ ∃ j l, lkO own0.m j = some l ∧ η0 j b := fun b ⟨j, l, hj, _⟩ => by cases hj
  have same : ∀ b, b < h.n → h'.get b = h.get b := fun b hb => HS'.keep b hb (hno b)
  have hle : h.n ≤ h'.n := HS'.le
  let E : Env := ⟨h, η, fun b => ∃ j l, lkO L.m j = some l ∧ η j b, G, [], []⟩
  have S1 : Stays h h' (Fz G η L.m) (Fz E.gd η L.m) := fun b hb hF => ⟨by omega, ⟨.inr hF.1, hF.2⟩, same b hb⟩
  have K1 : Keeps h h' η η fun _ => false := fun j b _ hη => by
    have := (O.lt j b hη).2
    refine ⟨hη, ?_, ?_⟩
    · unfold blen; rw [same b this]
    · unfold eszOf; rw [same b this]
  refine ⟨d, L, [], η, ⟨hφ, rfl, rfl⟩, rfl, ⟨⟨fun j x hj => ?_, fun j b hη => ⟨(O.lt j b hη).1, by have := (O.lt j b hη).2; omega⟩, O.fn, O.inj⟩, HS'.gone, hle, fun b hb _ => same b hb, fun j l b hj hη => .inr ⟨⟨j, l, hj, hη⟩, .inl (O.lt j b hη).1⟩, fun j b _ hη => ?_, fun j b hη => (O.lt j b hη).1, ⟨Nat.le_refl _, fun j b hj hη => hη⟩, fun _ _ hη => .inr (.inr hη)⟩, ?_, fun j b hp hη => K1 j b rfl hη⟩
  · rcases O.loc j x hj with ⟨b, h1, h2⟩ | h1
    · exact .inl ⟨b, h1, by rw [same b (O.lt j b h1).2]; exact h2.mono S1 K1⟩
    · exact .inr h1
  · exact K1 j b rfl hη
  · have S2 : Stays h' h' (Fz (Env.gd ⟨h, η0, fun b => ∃ j l, lkO own0.m j = some l ∧ η0 j b, G0, [], []⟩) η' L'.m) (Fz E.gd η L.m) := by
      refine fun b hb hF => ⟨hb, ?_, rfl⟩
      rcases hF.1 with q | q
      · exact ⟨.inl q, fun j l hj hη => by have := (O.lt j b hη).2; have q : h.n ≤ b := q; omega⟩
      · exact ⟨.inr q.1, q.2⟩
    have := hv.kill (p := allN) (η' := η) S2 (fun j b hp => by cases hp)
    rwa [hk] at this

end Go.Am

