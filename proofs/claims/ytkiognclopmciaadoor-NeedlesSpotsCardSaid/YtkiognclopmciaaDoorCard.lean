/-
  NeedlesSpots: the card. The law's call returns true for every input, and the arguments read as they did.
-/
import Derived.Test.YtkiognclopmciaaDoorD26
import Derived.Test.YtkiognclopmciaaDoorNl
import Derived.SevenTiedAt
import Derived.Test.YtkiognclopmciaaDoorTie
import Derived.Test.YtkiognclopmciaaDoorCards
set_option linter.unusedSimpArgs false
set_option linter.unusedVariables false
namespace Go.Proofs.YtkiognclopmciaaDoor.needlesSpots
open Go Go.ChangeShapes Go.WideShapes Go.ChangeAt Go.RowKit Go.Am

abbrev tys : List Ty := [.pair (.int .u8) (.pair (.int .i64) .unit), .int .i64]
theorem law (ys : ArgsD tys) (w : wfs tys ys) : PCalls Tryd.prog 3 (dvs tys ys) (fun d => d = .bool true) := by
  obtain ⟨⟨b, p, _⟩, r, _⟩ := ys
  exact c3 b p r w.1.1.1

theorem laidOut : laidOutB Tryd.prog = true := by kernel_rfl
theorem gsize : Tryd.prog.globals.size = 3 := by kernel_rfl

set_option maxRecDepth 100000 in
theorem lifted (os : Os) (started : os.Started) (H : Type) (enc : TypeId × Value → H) :
    ReturnsInHanded {} Tryd.checked os 3 .any (fun w args => (Rows.needlesSpotsSpec.pre enc Tryd.prog Tryd.f3 [] false w args ∧ laidMetH Tryd.prog laid3 w) ∧ sizedMet enc Tryd.prog Tryd.f3 (OpenSpec.ofChange Rows.needlesSpotsSpec) false w args)
      (Rows.needlesSpotsSpec.post enc Tryd.prog Tryd.f3 false true false false) := by
  refine returnsInHanded_of_change_and (C := Tryd.checked) (X := fun w _ => laidMetH Tryd.prog laid3 w) (fun _ _ _ hh h => h.of_heap hh) own started (by kernel_rfl) Tryd.func3
    (ChangeSpec.witness_shaped (enc := enc) (C := Tryd.checked) (os := os) (X := fun w _ => laidMetH Tryd.prog laid3 w) false (World.doorLaid Tryd.prog 400 os) #[.agg #[.int .u8 0, .int .i64 0], .int .i64 0] 3 rfl (World.shaped_of_RefB (by kernel_rfl) (by kernel_rfl)) (by kernel_rfl) (by kernel_rfl) (by kernel_rfl) (door_met os _)) ?_
  intro W base args ds gs before hval0 hW _ hwt hL _
  have hW' := hW
  obtain ⟨p, q, hA0, hV, rfl, hfz, hnd⟩ := hW
  have ets : Tryd.f3.params.toList = [24, 3] := by rw [Tryd.params3]
  have hA : DataW.TrodAll enc Tryd.prog W 0 (fun _ => true) true [24, 3] args.toList ds p := by rw [← ets]; exact hA0
  obtain ⟨rfl, rfl⟩ := trodVars_none hV
  have hl : ds.length = 2 := trod_len _ _ _ _ hA
  obtain ⟨d0, d1, rfl⟩ : ∃ d0 d1, ds = [d0, d1] := by
    match ds, hl with
    | [d0, d1], _ => exact ⟨d0, d1, rfl⟩
  have hval : ∀ (j : Nat) (t : TypeId) (v : Value), ([24, 3] : List TypeId)[j]? = some t → args.toList[j]? = some v → ∃ r b, Value.okWide Tryd.prog W r b t v := fun j t v ht hv =>
    ⟨_, _, hval0 j t v (by rw [Tryd.params3]; simpa using ht) (by simpa using hv)⟩
  have hwt' : (DataW.weightsEach Tryd.prog [24, 3] [d0, d1]).all (· ≤ reachBytes) = true := by
    rw [ets] at hwt; exact hwt
  refine (law_calls law (by kernel_rfl) hval hA hwt' (by rw [gsize]; exact size_of_laid hL)).mono fun e W' ⟨he, hg⟩ => ?_
  subst he
  refine ⟨_, rfl, post_below (pa := p) (pv := []) hW' (fun _ _ _ => trodAll_cons_mk (shut_bool Tryd.underlying4 _) trodAll_mk0) (fun sp hsp => ?_) (fun _ _ => rfl) rfl hg (ok_one (by kernel_rfl) rfl (okWide_bool_mk Tryd.underlying4 _))⟩
  rw [ets]
  exact args_stay laidOut _ _ _ _ (by kernel_rfl) hA hg sp (fun x hx => hsp x (by simp [hx]))

theorem over : Rows.NeedlesSpotsSaid :=
  OpenClaim.holds_of_wide 3 Tryd.f3 rfl rfl rfl rfl rfl rfl rfl ⟨rfl, rfl, rfl, rfl, rfl⟩ rfl rfl rfl rfl rfl (by kernel_rfl) Tryd.func3 (by kernel_rfl)
    (of_decide_eq_true (by kernel_rfl)) (by unfold Func.isWrapper; first | (rw [if_pos (by decide +kernel)]; kernel_rfl) | (rw [if_neg (by decide +kernel)]; exact ⟨rfl, rfl⟩))
    (fun os started H enc _ => lifted os started H enc)
end Go.Proofs.YtkiognclopmciaaDoor.needlesSpots
namespace Go.Proofs.YtkiognclopmciaaDoor
open Go

theorem needlesSpots_holds : Rows.NeedlesSpotsCardSaid :=
  Claim7.holds_tied_plain_at .later [] [.data, .data, .data] true (true, "54c88f90af00d5853f9503e7474ba99d8916db33f8bfcad016f55215485e1dac") false
    needlesSpots.over (fun _ h => by cases h) (by kernel_rfl) (fun _ h => by cases h) needlesSpots_row_tie rfl ⟨rfl, rfl⟩ (by kernel_rfl) rfl
    (fun f fn hf hfn => by
      obtain rfl : f = 3 := Option.some.inj ((show Tryd.prog.funcNamed "gansey/ganseylaw01.NeedlesSpots" = some 3 by kernel_rfl).symm.trans hf) |>.symm
      obtain rfl : fn = Tryd.f3 := (Option.some.inj (Tryd.func3.symm.trans hfn)).symm
      exact ⟨by kernel_rfl, fun j t ht => by
        rw [Tryd.params3] at ht
        have hm : t ∈ [24, 3] := by simpa using Array.mem_of_getElem? ht
        have hall : ([24, 3].all fun u => !Tryd.prog.wantsStandIn u) = true := by kernel_rfl
        exact (show Tryd.prog.wantsStandIn t = false by simpa using List.all_eq_true.1 hall t hm)⟩)
    (by kernel_rfl)
#print axioms needlesSpots_holds
end Go.Proofs.YtkiognclopmciaaDoor

