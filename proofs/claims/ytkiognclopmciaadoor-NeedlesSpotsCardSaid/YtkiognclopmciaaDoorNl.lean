/-
  Texts that belong together: NeedlesFns0, Nf3, NFrame.
-/
import Derived.Test.YtkiognclopmciaaDoorD22
import Derived.Test.YtkiognclopmciaaDoorAmB
import Derived.Test.YtkiognclopmciaaDoorProg
import Derived.KernelRfl
import Derived.Test.YtkiognclopmciaaDoorNd
import Derived.Test.YtkiognclopmciaaDoorRows
import Derived.ProofKit
import Derived.LaidMore
import Derived.OpenShut
import Derived.Stop.Joined
set_option linter.unusedSimpArgs false
set_option linter.unusedVariables false
namespace Go.Proofs.YtkiognclopmciaaDoor
open Go Go.RowKit Go.Am
theorem ok0 : POk Tryd.prog := POk.of_check (by kernel_rfl) (by kernel_rfl)
theorem lives_run : boolTrue (arun Tryd.prog 20000 (enterState Tryd.prog 12 [] (noHeap Tryd.prog))) = true := by kernel_rfl
theorem c12 (h : AHeap) : ACalls Tryd.prog 12 [] h (Pure (.bool true) h) := .ofTrue (fun _ hG => calls_true ok0 Tryd.func12 rfl lives_run hG) h
end Go.Proofs.YtkiognclopmciaaDoor

namespace Go.Proofs.YtkiognclopmciaaDoor
open Go Go.RowKit Go.Am
set_option linter.unusedSimpArgs false
set_option linter.unusedVariables false
set_option maxRecDepth 20000
set_option maxHeartbeats 4000000

theorem p12 : PCalls Tryd.prog 12 [] (fun d => d = .bool true) := .ofTrue ⟨_, Tryd.func12, rfl⟩ c12
def CO12 : CF := fun f args L => bif Nat.beq f 12 then (match args with
  | [] => some (none, .bool true, L, [])
  | _ => none) else CO13 f args L
theorem ck12 : CFOk Tryd.prog CO12 := by
  intro f args L side d L' ks hc hs
  unfold CO12 at hc
  cases hb : Nat.beq f 12 with
  | false => rw [hb] at hc; exact ck13 f args L side d L' ks hc hs
  | true =>
    have := Nat.eq_of_beq_eq_true hb
    subst this
    simp only [hb, cond_true] at hc
    split at hc
    · simp only [Option.some.injEq, Prod.mk.injEq] at hc
      obtain ⟨rfl, rfl, rfl, rfl⟩ := hc
      exact p12 L
    · cases hc


theorem at_spot (b p r : Int) (h0 : 0 ≤ b) (hv : okN b p) (hr : okR r) : atB (spotN b p r) r = b ∧ atP (spotN b p r) r = p ∧ atE (spotN b p r) r = 0 := by
  unfold okN at hv
  have hr' : -4 ≤ r ∧ r ≤ 4 := hr
  have hb : b = 0 ∨ b = 1 := by omega
  rcases hb with rfl | rfl
  · have e : spotN 0 p r = 4 * p + 2 := rfl
    have e1 : (4 * p + 2) % 4 = 2 ∧ 6 ≤ 4 * p + 2 ∧ 4 * p + 2 ≤ 162 := by omega
    have e2 : (4 * p + 2) / 4 = p := by omega
    refine ⟨?_, ?_, ?_⟩
    · rw [e, atB, if_neg (fun h => h.2.1 e1)]
    · rw [e, atP, if_pos hr, if_pos e1, e2]
    · rw [e, atE, if_pos hr, if_pos e1]
  · have e : spotN 1 p r = 4 * (p + r) := rfl
    have e1 : ¬ ((4 * (p + r)) % 4 = 2 ∧ 6 ≤ 4 * (p + r) ∧ 4 * (p + r) ≤ 162) := by omega
    have e2 : (4 * (p + r)) % 4 = 0 ∧ 1 ≤ (4 * (p + r)) / 4 - r ∧ (4 * (p + r)) / 4 - r ≤ 40 := by omega
    have e3 : (4 * (p + r)) / 4 - r = p := by omega
    refine ⟨?_, ?_, ?_⟩
    · rw [e, atB, if_pos ⟨hr, e1, e2⟩]
    · rw [e, atP, if_pos hr, if_neg e1, if_pos e2, e3]
    · rw [e, atE, if_pos hr, if_neg e1, if_pos e2]

theorem c3 (b p r : Int) (hp : 0 ≤ b) : PCalls Tryd.prog 3 [.agg [.int .u8 b, .int .i64 p], .int .i64 r] (fun d => d = .bool true) := by
  refine PCalls.go ok ck12 (c := d3) (rs := r3) Tryd.func3 rfl (by kernel_rfl) (by kernel_rfl) rfl rfl rfl ?_
  by_cases hv : okN b p
  · have g1 : (if okN b p then (0 : Int) else 1) = 0 := if_pos hv
    have g2 : (if okN b p then (1 : Int) else 0) = 1 := if_pos hv
    by_cases hr : okR r
    · have g3 : (if okN b p ∧ okR r then spotN b p r else 0) = spotN b p r := if_pos ⟨hv, hr⟩
      have g4 : (decide (r < -4) || decide (4 < r)) = false := by simp; unfold okR at hr; omega
      obtain ⟨a1, a2, a3⟩ := at_spot b p r hp hv hr
      have hr' : -4 ≤ r ∧ r ≤ 4 := hr
      have hv' := hv
      unfold okN at hv'
      have sp : b = 1 ∧ spotN b p r = 4 * (p + r) ∨ spotN b p r = 4 * p + 2 := by unfold spotN; split <;> simp_all
      have g6 : (spotN b p r).tmod 2 = 0 := Int.tmod_eq_zero_of_dvd (by rcases sp with ⟨_, e⟩ | e <;> rw [e] <;> omega)
      have g7 : decide (-13 < spotN b p r) = true := decide_eq_true (by omega)
      have g8 : decide (spotN b p r < 179) = true := decide_eq_true (by omega)
      simp (config := { maxSteps := 20000000 }) only [d3, r3, g1, g2, g3, g4, a1, a2, a3, g6, g7, g8, go_nil, go_skip, go_reg, go_seq, go_cond, go_block, go_loop, go_exit, go_ret, go_label, go_gh, go_rfn, go_codeX, go_codeG, go_codeR, go_ops0, go_opsK, go_opsM, keepM, dropM, FB, Nat.reducePow, Nat.reduceDiv, Nat.reduceMod, go_opsG1, go_opsG2, go_opsG3, go_opsG4, go_opsG5, go_opsG6, go_opsG7, go_opsP, go_opsE, go_opsC, go_blkN, go_blkX, go_blkG, go_blkR, go_rndN, go_rndX, go_rndG, go_rndR, go_scope, go_scpN, go_scpX, go_scpG, go_scpR, endP, ↓brB_true, ↓brB_false, brB_not, brB_dec, ↓brM_true, ↓brM_false, unS_stp, unS_and, unS_False, brM_mm, brM_sm, brM_ms, brM_ss, and_goS, bif_ff, bif_tt, bif_tf, tgtD, unl, callD, nilqD, eff1, eStore, eApp, gh1, frzP, frzOne, List.map_cons, List.map_nil, wantD, dpure, ev, evs, evO, lk, putD, killT, memN, List.any_cons, List.any_nil, Bool.or_false, lkO, stO, rmO, newO, setO, renew, killO, Loc.kill, argsD, nbeqB,  ↓cond_true, ↓cond_false, Option.map_some, Option.map_none, sideP, lenD, capD, dBin, dIdx, dLoad, dPick, dFld, dFldA, dSlc, dSlcS, dToS, elB, elemsOf, asTy, unflat, DV.cellA, DV.cell, DV.cells, setAllD, partsD, boolD, eqCells, eqCell, dMm, dMmGo, subT, flat, Ty.size, Ty.isAgg, Ty.zero, Ty.D, fnQ, dress, dres1, unl, finDV, frzV, frzVs, sidesP, DV.kill, DV.killL, geN, cutO, own0, decide_true, decide_false, Nat.reduceAdd, Nat.zero_add, Nat.add_zero, beq_self_eq_true, bTF, bFT, Bool.and_self, Bool.and_true, Bool.true_and, Bool.false_eq_true, Bool.true_eq_false, if_false, if_true, Bool.and_false, Bool.false_and, Option.getD_none, Option.getD_some, List.append_nil, List.nil_append, List.cons_append, Nat.ble, Nat.blt, List.length_cons, List.length_nil, List.all_cons, List.all_nil, List.getD_cons_zero, dite_true, dite_false, eq_self, reduceCtorEq, List.getElem?_cons_zero, List.getElem?_cons_succ, Option.some.injEq, List.set_cons_zero, List.set_cons_succ, List.drop_zero, List.drop_succ_cons, List.take_succ_cons, List.take_zero, true_implies, false_implies, and_true, true_and, implies_true, Nat.reduceSub, Nat.reduceMul, Nat.reduceLeDiff, Bool.not_true, Bool.not_false, Nat.not_lt_zero, Nat.le_refl, forall_const, Nat.reduceEqDiff, Ty.int.injEq, forall_eq, Bool.and_eq_true, and_self, Nat.succ_eq_add_one, Int.reduceLE, Int.reduceLT, Int.reduceEq, Int.reduceNeg, Int.toNat_zero, Nat.zero_le, Nat.reduceLT, Int.reduceToNat, Int.zero_add, Int.sub_zero, List.replicate_zero, List.replicate, List.drop_nil, List.take_nil, Nat.reduceBEq, Bool.true_or, Bool.or_true, Bool.or_self, Bool.false_or, CO12, CO10, CO19, CO20, CO11, CO9, CO14, CO15, CO13, CO0]
      omega
    · have g3 : (if okN b p ∧ okR r then spotN b p r else 0) = 0 := if_neg (fun h => hr h.2)
      have g4 : (decide (r < -4) || decide (4 < r)) = true := by simp; unfold okR at hr; omega
      simp (config := { maxSteps := 20000000 }) only [d3, r3, g1, g2, g3, g4, go_nil, go_skip, go_reg, go_seq, go_cond, go_block, go_loop, go_exit, go_ret, go_label, go_gh, go_rfn, go_codeX, go_codeG, go_codeR, go_ops0, go_opsK, go_opsM, keepM, dropM, FB, Nat.reducePow, Nat.reduceDiv, Nat.reduceMod, go_opsG1, go_opsG2, go_opsG3, go_opsG4, go_opsG5, go_opsG6, go_opsG7, go_opsP, go_opsE, go_opsC, go_blkN, go_blkX, go_blkG, go_blkR, go_rndN, go_rndX, go_rndG, go_rndR, go_scope, go_scpN, go_scpX, go_scpG, go_scpR, endP, ↓brB_true, ↓brB_false, brB_not, brB_dec, ↓brM_true, ↓brM_false, unS_stp, unS_and, unS_False, brM_mm, brM_sm, brM_ms, brM_ss, and_goS, bif_ff, bif_tt, bif_tf, tgtD, unl, callD, nilqD, eff1, eStore, eApp, gh1, frzP, frzOne, List.map_cons, List.map_nil, wantD, dpure, ev, evs, evO, lk, putD, killT, memN, List.any_cons, List.any_nil, Bool.or_false, lkO, stO, rmO, newO, setO, renew, killO, Loc.kill, argsD, nbeqB,  ↓cond_true, ↓cond_false, Option.map_some, Option.map_none, sideP, lenD, capD, dBin, dIdx, dLoad, dPick, dFld, dFldA, dSlc, dSlcS, dToS, elB, elemsOf, asTy, unflat, DV.cellA, DV.cell, DV.cells, setAllD, partsD, boolD, eqCells, eqCell, dMm, dMmGo, subT, flat, Ty.size, Ty.isAgg, Ty.zero, Ty.D, fnQ, dress, dres1, unl, finDV, frzV, frzVs, sidesP, DV.kill, DV.killL, geN, cutO, own0, decide_true, decide_false, Nat.reduceAdd, Nat.zero_add, Nat.add_zero, beq_self_eq_true, bTF, bFT, Bool.and_self, Bool.and_true, Bool.true_and, Bool.false_eq_true, Bool.true_eq_false, if_false, if_true, Bool.and_false, Bool.false_and, Option.getD_none, Option.getD_some, List.append_nil, List.nil_append, List.cons_append, Nat.ble, Nat.blt, List.length_cons, List.length_nil, List.all_cons, List.all_nil, List.getD_cons_zero, dite_true, dite_false, eq_self, reduceCtorEq, List.getElem?_cons_zero, List.getElem?_cons_succ, Option.some.injEq, List.set_cons_zero, List.set_cons_succ, List.drop_zero, List.drop_succ_cons, List.take_succ_cons, List.take_zero, true_implies, false_implies, and_true, true_and, implies_true, Nat.reduceSub, Nat.reduceMul, Nat.reduceLeDiff, Bool.not_true, Bool.not_false, Nat.not_lt_zero, Nat.le_refl, forall_const, Nat.reduceEqDiff, Ty.int.injEq, forall_eq, Bool.and_eq_true, and_self, Nat.succ_eq_add_one, Int.reduceLE, Int.reduceLT, Int.reduceEq, Int.reduceNeg, Int.toNat_zero, Nat.zero_le, Nat.reduceLT, Int.reduceToNat, Int.zero_add, Int.sub_zero, List.replicate_zero, List.replicate, List.drop_nil, List.take_nil, Nat.reduceBEq, Bool.true_or, Bool.or_true, Bool.or_self, Bool.false_or, CO12, CO10, CO19, CO20, CO11, CO9, CO14, CO15, CO13, CO0]
  · have g1 : (if okN b p then (0 : Int) else 1) = 1 := if_neg hv
    have g2 : (if okN b p then (1 : Int) else 0) = 0 := if_neg hv
    have g3 : (if okN b p ∧ okR r then spotN b p r else 0) = 0 := if_neg (fun h => hv h.1)
    simp (config := { maxSteps := 20000000 }) only [d3, r3, g1, g2, g3, go_nil, go_skip, go_reg, go_seq, go_cond, go_block, go_loop, go_exit, go_ret, go_label, go_gh, go_rfn, go_codeX, go_codeG, go_codeR, go_ops0, go_opsK, go_opsM, keepM, dropM, FB, Nat.reducePow, Nat.reduceDiv, Nat.reduceMod, go_opsG1, go_opsG2, go_opsG3, go_opsG4, go_opsG5, go_opsG6, go_opsG7, go_opsP, go_opsE, go_opsC, go_blkN, go_blkX, go_blkG, go_blkR, go_rndN, go_rndX, go_rndG, go_rndR, go_scope, go_scpN, go_scpX, go_scpG, go_scpR, endP, ↓brB_true, ↓brB_false, brB_not, brB_dec, ↓brM_true, ↓brM_false, unS_stp, unS_and, unS_False, brM_mm, brM_sm, brM_ms, brM_ss, and_goS, bif_ff, bif_tt, bif_tf, tgtD, unl, callD, nilqD, eff1, eStore, eApp, gh1, frzP, frzOne, List.map_cons, List.map_nil, wantD, dpure, ev, evs, evO, lk, putD, killT, memN, List.any_cons, List.any_nil, Bool.or_false, lkO, stO, rmO, newO, setO, renew, killO, Loc.kill, argsD, nbeqB,  ↓cond_true, ↓cond_false, Option.map_some, Option.map_none, sideP, lenD, capD, dBin, dIdx, dLoad, dPick, dFld, dFldA, dSlc, dSlcS, dToS, elB, elemsOf, asTy, unflat, DV.cellA, DV.cell, DV.cells, setAllD, partsD, boolD, eqCells, eqCell, dMm, dMmGo, subT, flat, Ty.size, Ty.isAgg, Ty.zero, Ty.D, fnQ, dress, dres1, unl, finDV, frzV, frzVs, sidesP, DV.kill, DV.killL, geN, cutO, own0, decide_true, decide_false, Nat.reduceAdd, Nat.zero_add, Nat.add_zero, beq_self_eq_true, bTF, bFT, Bool.and_self, Bool.and_true, Bool.true_and, Bool.false_eq_true, Bool.true_eq_false, if_false, if_true, Bool.and_false, Bool.false_and, Option.getD_none, Option.getD_some, List.append_nil, List.nil_append, List.cons_append, Nat.ble, Nat.blt, List.length_cons, List.length_nil, List.all_cons, List.all_nil, List.getD_cons_zero, dite_true, dite_false, eq_self, reduceCtorEq, List.getElem?_cons_zero, List.getElem?_cons_succ, Option.some.injEq, List.set_cons_zero, List.set_cons_succ, List.drop_zero, List.drop_succ_cons, List.take_succ_cons, List.take_zero, true_implies, false_implies, and_true, true_and, implies_true, Nat.reduceSub, Nat.reduceMul, Nat.reduceLeDiff, Bool.not_true, Bool.not_false, Nat.not_lt_zero, Nat.le_refl, forall_const, Nat.reduceEqDiff, Ty.int.injEq, forall_eq, Bool.and_eq_true, and_self, Nat.succ_eq_add_one, Int.reduceLE, Int.reduceLT, Int.reduceEq, Int.reduceNeg, Int.toNat_zero, Nat.zero_le, Nat.reduceLT, Int.reduceToNat, Int.zero_add, Int.sub_zero, List.replicate_zero, List.replicate, List.drop_nil, List.take_nil, Nat.reduceBEq, Bool.true_or, Bool.or_true, Bool.or_self, Bool.false_or, CO12, CO10, CO19, CO20, CO11, CO9, CO14, CO15, CO13, CO0]

end Go.Proofs.YtkiognclopmciaaDoor

namespace Go.Proofs.YtkiognclopmciaaDoor
open Go.ChangeShapes Go.WideShapes Go.ChangeAt Go.WideMaps Go.WideElems Go.RowKit
abbrev laid3 : List (String × DataW Unit) := [("math/bits.deBruijn32tab", Rows.laid_math_bits_deBruijn32tab), ("math/bits.deBruijn64tab", Rows.laid_math_bits_deBruijn64tab), ("internal/strconv.uint64pow10", Rows.laid_internal_strconv_uint64pow10)]
theorem own : ownKnob Tryd.prog.godebug = none := by kernel_rfl
theorem gTab : Tryd.prog.globalNamed "math/bits.deBruijn64tab" = some 2 := by kernel_rfl
theorem door_met (os : Os) (args : Array Value) : laidMetH Tryd.prog laid3 ((World.doorLaid Tryd.prog 400 os).forCall (fun _ _ => 0) ⟨#[], args, []⟩).memory :=
  laidMetH_of_parts3 (fuel := 70) (laidMet_of_run' 70 (by kernel_rfl) (by kernel_rfl)) (by kernel_rfl) (by kernel_rfl)
theorem size_of_laid {W : World} (h : laidMetH Tryd.prog laid3 W) : 3 ≤ W.heap.size := by
  rw [MakeChecks.laidMetH_plain _ _ _ (by kernel_rfl)] at h
  obtain ⟨ps, ⟨g0, t0, cs0, f0, p0, q0, hg0, ht0, hv0, hd0, ⟨g1, t1, cs1, f1, p1, q1, hg1, ht1, hv1, hd1, _, _⟩, _⟩, _, _⟩ := h
  obtain rfl := Option.some.inj (gTab.symm.trans hg1)
  simp only [World.var?, gTab, Option.bind_some] at hv1
  rcases Nat.lt_or_ge 2 W.heap.size with h | h
  · omega
  · rw [Array.getElem?_eq_none h] at hv1; cases hv1
end Go.Proofs.YtkiognclopmciaaDoor

