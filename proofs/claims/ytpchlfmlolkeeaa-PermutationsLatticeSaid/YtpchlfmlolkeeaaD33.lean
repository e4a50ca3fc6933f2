/-
  The data layer: a box that holds nothing yet is taken for one that holds a slice of one's own.
-/
import Derived.Test.YtpchlfmlolkeeaaD32
set_option linter.unusedSimpArgs false
set_option linter.unusedVariables false
namespace Go.Am
open Go Go.RowKit

variable {t : DT} {E : Env} {h : AHeap} {η : Nat → Nat → Prop} {L : Own}

/-- What is said of a block of one's own is put in other words. -/
theorem HS.say (H : HS E η L h) {j : Nat} {l0 l : Loc} (hj : lkO L.m j = some l0) (hl : ∀ b, η j b → LocR h (Fz E.gd η L.m) η (h.get b) l0 → LocR h (Fz E.gd η (stO L.m j l)) η (h.get b) l) (hb : ∃ b, η j b) :
    HS E η ⟨L.nx, L.fx, stO L.m j l⟩ h ∧ Mv E.gd η L h η ⟨L.nx, L.fx, stO L.m j l⟩ h fun _ => false := by
  have M : Mv E.gd η L h η ⟨L.nx, L.fx, stO L.m j l⟩ h fun _ => false := ⟨fun b hb hF => ⟨hb, (Fz.sto hj).2 hF, rfl⟩, .refl⟩
  refine ⟨⟨⟨fun i x hi => ?_, fun i c hη => H.own.lt i c hη, H.own.fn, H.own.inj⟩, H.gone, H.le, H.keep, fun i x c hi hη => ?_, H.fix_mv M.kp (fun _ _ => rfl) rfl, H.rs, H.bk, H.nm⟩, M⟩
  · by_cases hij : i = j
    · subst hij
      rw [lkO_stO_eq _ hj] at hi
      cases hi
      obtain ⟨b, hb⟩ := hb
      rcases H.own.loc i l0 hj with ⟨c, h1, h2⟩ | ⟨_, _, h3⟩
      · exact .inl ⟨c, h1, hl c h1 h2⟩
      · exact absurd hb (h3 b)
    · rw [lkO_stO_ne hij] at hi
      rcases H.own.loc i x hi with ⟨c, h1, h2⟩ | h1
      · exact .inl ⟨c, h1, h2.mono M.st M.kp⟩
      · exact .inr h1
  · by_cases hij : i = j
    · subst hij; exact H.mine i l0 c hj hη
    · rw [lkO_stO_ne hij] at hi; exact H.mine i x c hi hη

/-- A box whose cell k holds a nil slice. -/
theorem DEnt.ownB (j k : Nat) (e : Ty) {cells : List DV} (hj : lkO L.m j = some (.box cells)) (hk : cells[k]? = some .nils) :
    DEnt ⟨t, L⟩ ⟨t, ⟨L.nx + 1, L.fx, stO ((L.nx, .arr e []) :: L.m) j (.box (cells.set k (.osl L.nx e 0 0 none)))⟩⟩ := by
  intro E η s R
  obtain ⟨H1, M1⟩ := R.hs.addNil e
  have hjl : j < L.nx := R.hs.jlt hj
  have hj1 : lkO (newO L (.arr e [])).m j = some (.box cells) := by
    rw [show lkO (newO L (.arr e [])).m j = lkO L.m j from lkO_cons_ne (by omega)]; exact hj
  have hb : ∃ b, η j b := by
    rcases R.hs.own.loc j _ hj with ⟨b, h1, _⟩ | ⟨⟨e', xs, q, _⟩, _⟩
    · exact ⟨b, h1⟩
    · cases q
  obtain ⟨H2, M2⟩ := H1.say (l := .box (cells.set k (.osl L.nx e 0 0 none))) hj1 (fun b hb hL => by
    generalize s.h.get b = o at hL
    cases hL with
    | @box _ c z hlen hv =>
    refine .box (by simpa using hlen) fun i d x hd hx => ?_
    have S : Stays s.h s.h (Fz E.gd η (newO L (.arr e [])).m) (Fz E.gd η (stO (newO L (.arr e [])).m j (.box (cells.set k (.osl L.nx e 0 0 none))))) := fun c hc hF => ⟨hc, (Fz.sto hj1).2 hF, rfl⟩
    rw [List.getElem?_set] at hd
    by_cases hki : k = i
    · subst hki
      rw [if_pos rfl] at hd
      split at hd
      · cases hd
        have := hv k _ x hk hx
        cases this with
        | nils => exact .onil0 (.inl rfl)
      · cases hd
    · rw [if_neg hki] at hd
      exact (hv i d x hd hx).mono S .refl) hb
  refine ⟨η, fun i d hi => ?_, H2, (R.d.mv M1).mv M2, R.lt, R.sv⟩
  obtain ⟨v, h1, h2⟩ := R.slots i d hi
  exact ⟨v, h1, (h2.mono M1.st M1.kp).mono M2.st M2.kp⟩

end Go.Am

