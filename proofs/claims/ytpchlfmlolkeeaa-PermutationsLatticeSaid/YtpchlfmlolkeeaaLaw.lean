/-
  PermutationsLattice: the law's call returns true for every input, and the arguments read as they did.
-/
import Derived.Test.YtpchlfmlolkeeaaD26
import Derived.Test.YtpchlfmlolkeeaaPj
import Derived.Test.YtpchlfmlolkeeaaRows
import Derived.ProofKit
import Derived.SizedLaws
import Derived.OpenShut
import Derived.Stop.Joined
set_option linter.unusedSimpArgs false
set_option linter.unusedVariables false
namespace Go.Proofs.Ytpchlfmlolkeeaa.permutationsLattice
open Go Go.ChangeShapes Go.WideShapes Go.ChangeAt Go.RowKit Go.Am

theorem own : ownKnob Try.prog.godebug = none := by kernel_rfl
abbrev tys : List Ty := [.sl (.int .u8), .sl (.int .u8), .sl (.int .u8)]
theorem law (ys : ArgsD tys) (w : wfs tys ys) : PCalls Try.prog 3 (dvs tys ys) (fun d => d = .bool true) := by
  obtain ⟨p, q, r, _⟩ := ys
  obtain ⟨⟨w1, _, _, a1, _, b1⟩, ⟨w2, _, _, a2, _, b2⟩, ⟨w3, _, _, a3, _, b3⟩, _⟩ := w
  have hr : reachBytes = 140737488351232 := rfl
  have hlo : IntKind.u8.min = 0 := by decide
  have hhi : IntKind.u8.max = 255 := by decide
  have u : ∀ l : List Int, (∀ x ∈ l, IntKind.u8.min ≤ x ∧ x ≤ IntKind.u8.max) → U8s l := fun l h x hx => by
    have := h x hx
    rw [hlo, hhi] at this
    omega
  exact c3 p q r ⟨u _ w1, u _ w2, u _ w3, Nat.le_trans a1 (hr ▸ b1), Nat.le_trans a2 (hr ▸ b2), Nat.le_trans a3 (hr ▸ b3)⟩

theorem laidOut : laidOutB Try.prog = true := by kernel_rfl
theorem gsize : Try.prog.globals.size = 0 := by kernel_rfl

set_option maxRecDepth 100000 in
theorem lifted (os : Os) (started : os.Started) (H : Type) (enc : TypeId × Value → H) :
    ReturnsInHanded {} Try.checked os 3 .any (Rows.permutationsLatticeSpec.pre6 enc Try.prog Try.f3 Rows.permutationsLatticeRow.domain false)
      (Rows.permutationsLatticeSpec.post enc Try.prog Try.f3 false true false false) := by
  refine returnsInHanded_of_change_sized (C := Try.checked) own started (by kernel_rfl) Try.func3
    (ChangeSpec.witness6 (enc := enc) (C := Try.checked) false ⟨#[], #[.slice none 0 0, .slice none 0 0, .slice none 0 0], []⟩ 8 (by kernel_rfl) (by kernel_rfl) (by kernel_rfl) (by kernel_rfl)) ?_
  intro W base args ds gs before hval0 hW _ hwt _
  have hW' := hW
  obtain ⟨p, q, hA0, hV, rfl, hfz, hnd⟩ := hW
  have ets : Try.f3.params.toList = [23, 23, 23] := by rw [Try.params3]
  have hA : DataW.TrodAll enc Try.prog W 0 (fun _ => true) true [23, 23, 23] args.toList ds p := by rw [← ets]; exact hA0
  obtain ⟨rfl, rfl⟩ := trodVars_none hV
  have hl : ds.length = 3 := trod_len _ _ _ _ hA
  obtain ⟨d0, d1, d2, rfl⟩ : ∃ d0 d1 d2, ds = [d0, d1, d2] := by
    match ds, hl with
    | [d0, d1, d2], _ => exact ⟨d0, d1, d2, rfl⟩
  have hval : ∀ (j : Nat) (t : TypeId) (v : Value), ([23, 23, 23] : List TypeId)[j]? = some t → args.toList[j]? = some v → ∃ r b, Value.okWide Try.prog W r b t v := fun j t v ht hv =>
    ⟨_, _, hval0 j t v (by rw [Try.params3]; simpa using ht) (by simpa using hv)⟩
  have hwt' : (DataW.weightsEach Try.prog [23, 23, 23] [d0, d1, d2]).all (· ≤ reachBytes) = true := by
    rw [ets] at hwt; exact hwt
  refine (law_calls law (by kernel_rfl) hval hA hwt' (by rw [gsize]; exact Nat.zero_le _)).mono fun e W' ⟨he, hg⟩ => ?_
  subst he
  refine ⟨_, rfl, post_below (pa := p) (pv := []) hW' (fun _ _ _ => trodAll_cons_mk (shut_bool Try.underlying4 _) trodAll_mk0) (fun sp hsp => ?_) (fun _ _ => rfl) rfl hg (ok_one (by kernel_rfl) rfl (okWide_bool_mk Try.underlying4 _))⟩
  rw [ets]
  exact args_stay laidOut _ _ _ _ (by kernel_rfl) hA hg sp (fun x hx => hsp x (by simp [hx]))
end Go.Proofs.Ytpchlfmlolkeeaa.permutationsLattice
namespace Go.Proofs.Ytpchlfmlolkeeaa
open Go

theorem permutationsLattice_holds : Rows.PermutationsLatticeSaid :=
  OpenClaim.holds_of_wide 3 Try.f3 rfl rfl rfl rfl rfl rfl rfl ⟨rfl, rfl, rfl, rfl, rfl⟩ rfl rfl rfl rfl rfl (by kernel_rfl) Try.func3 (by kernel_rfl)
    (of_decide_eq_true (by kernel_rfl)) (by unfold Func.isWrapper; first | (rw [if_pos (by decide +kernel)]; kernel_rfl) | (rw [if_neg (by decide +kernel)]; exact ⟨rfl, rfl⟩))
    (fun os started H enc _ => permutationsLattice.lifted os started H enc)
#print axioms permutationsLattice_holds
end Go.Proofs.Ytpchlfmlolkeeaa

