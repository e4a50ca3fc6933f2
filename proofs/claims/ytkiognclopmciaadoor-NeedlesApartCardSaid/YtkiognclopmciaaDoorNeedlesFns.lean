/- The needles' functions. -/
import Derived.Test.YtkiognclopmciaaDoorAmRules3
import Derived.Test.YtkiognclopmciaaDoorProg
import Derived.KernelRfl
namespace Go.Proofs.YtkiognclopmciaaDoor
open Go Go.RowKit Go.Am
set_option linter.unusedSimpArgs false
theorem ok : POk Tryd.prog := POk.of_check (by kernel_rfl) (by kernel_rfl)
theorem if01 {C : Prop} [Decidable C] : ((if C then (0 : Int) else 1) = 0) ↔ C := by split <;> simp_all
-- gansey/needles.spot
theorem c20 (bed p r : Int) (h : AHeap) (h1 : -1000 ≤ p ∧ p ≤ 1000) (h2 : -1000 ≤ r ∧ r ≤ 1000) : ACalls Tryd.prog 20 [.agg [.int .u8 bed, .int .i64 p].toArray, .int .i64 r] h (Pure (.int .i64 (if bed = 1 then 4 * (p + r) else 4 * p + 2)) h) := by
  refine ACalls.pureOf (by first | exact .bool _ | exact .int _ _ | exact .string _) (ACalls.ofBody Tryd.func20 rfl (Nat.le_of_ble_eq_true rfl) ?_)
  refine AW.seq ?_
  refine AW.region rfl ?_
  refine AOps.set rfl rfl (xBoxAgg rfl rfl rfl rfl (by first | (dsimp only [List.set, List.cons_append, List.nil_append]; exact rfl) | exact rfl)) ?_
  refine AOps.set rfl rfl (xAssign rfl rfl rfl) ?_
  refine AOps.done ?_
  refine AW.seq ?_
  refine AW.seq ?_
  refine AW.region rfl ?_
  refine AOps.set rfl rfl (xFieldAddr0 rfl rfl rfl rfl rfl rfl rfl) ?_
  refine AOps.set rfl rfl (xLoad rfl rfl rfl rfl (by first | exact read_own rfl rfl | fail)) ?_
  refine AOps.set rfl rfl (xBin rfl rfl rfl rfl bEql) ?_
  refine AOps.done ?_
  refine AW.condB rfl (fun hc => ?_) (fun hc => ?_)
  · try simp only [beq_true, beq_false, beq_iff_eq, beq_eq_false_iff_ne, ne_eq, decide_eq_decide, Bool.not_eq_true, Bool.not_eq_eq_eq_not, Bool.not_true, Bool.not_false, decide_eq_true_eq, decide_eq_false_iff_not, Bool.not_eq_true', Bool.not_eq_false', gt_iff_lt, ge_iff_le, Int.not_lt, Int.not_le, if01, Bool.false_eq_true, Bool.true_eq_false] at hc
    refine AW.seq ?_
    refine AW.region rfl ?_
    refine AOps.set rfl rfl (xFieldAddr0 rfl rfl rfl rfl rfl rfl rfl) ?_
    refine AOps.set rfl rfl (xLoad rfl rfl rfl rfl (by first | exact read_own rfl rfl | fail)) ?_
    refine AOps.set rfl rfl (xMove rfl rfl rfl) ?_
    refine AOps.set rfl rfl (xBin rfl rfl rfl rfl (bAddK (by first | exact IntWalk.i64_in _ (by omega) | exact rfl))) ?_
    refine AOps.set rfl rfl (xBin rfl rfl rfl rfl (bMulK (by first | exact IntWalk.i64_in _ (by omega) | exact rfl))) ?_
    refine AOps.set rfl rfl (xAssign rfl rfl rfl) ?_
    refine AOps.done ?_
    refine AW.ret ?_
    try dsimp only [AEx.then, AEx.inBlock, if_true]
    refine FnEnd.r1 rfl rfl rfl ?_
    exact ⟨by first | rfl | (congr 1; (repeat' split) <;> omega) | (congr 1; simp; omega), _, rfl⟩
  · try simp only [beq_true, beq_false, beq_iff_eq, beq_eq_false_iff_ne, ne_eq, decide_eq_decide, Bool.not_eq_true, Bool.not_eq_eq_eq_not, Bool.not_true, Bool.not_false, decide_eq_true_eq, decide_eq_false_iff_not, Bool.not_eq_true', Bool.not_eq_false', gt_iff_lt, ge_iff_le, Int.not_lt, Int.not_le, if01, Bool.false_eq_true, Bool.true_eq_false] at hc
    refine AW.skip ?_
    refine AW.seq ?_
    refine AW.region rfl ?_
    refine AOps.set rfl rfl (xFieldAddr0 rfl rfl rfl rfl rfl rfl rfl) ?_
    refine AOps.set rfl rfl (xLoad rfl rfl rfl rfl (by first | exact read_own rfl rfl | fail)) ?_
    refine AOps.set rfl rfl (xBin rfl rfl rfl rfl (bMulK (by first | exact IntWalk.i64_in _ (by omega) | exact rfl))) ?_
    refine AOps.set rfl rfl (xBin rfl rfl rfl rfl (bAddK (by first | exact IntWalk.i64_in _ (by omega) | exact rfl))) ?_
    refine AOps.set rfl rfl (xAssign rfl rfl rfl) ?_
    refine AOps.done ?_
    refine AW.ret ?_
    try dsimp only [AEx.then, AEx.inBlock, if_true]
    refine FnEnd.r1 rfl rfl rfl ?_
    exact ⟨by first | rfl | (congr 1; (repeat' split) <;> omega) | (congr 1; simp; omega), _, rfl⟩
-- gansey/ganseylaw01.needle
theorem b24_0_1 (x0 : Int) (x1 : Int) : abuild Tryd.prog 24 [(0, (.int .u8 x0)), (1, (.int .i64 x1))] = some (.agg [.int .u8 x0, .int .i64 x1].toArray) := by kernel_rfl
theorem c15 (i : Int) (h : AHeap) (h1 : 0 ≤ i ∧ i < 256) : ACalls Tryd.prog 15 [.int .u8 i] h (Pure (.agg [.int .u8 (i % 80 / 40), .int .i64 (1 + i % 40)].toArray) h) := by
  refine ACalls.pureOf (by exact .agg_list (by simp; exact ⟨.int _ _, .int _ _⟩)) (ACalls.ofBody Tryd.func15 rfl (Nat.le_of_ble_eq_true rfl) ?_)
  refine AW.seq ?_
  refine AW.region rfl ?_
  refine AOps.set rfl rfl (xAlloc (cs := [.int .u8 0, .int .i64 0]) rfl rfl (by kernel_rfl) rfl (by first | (dsimp only [List.set, List.cons_append, List.nil_append]; exact rfl) | exact rfl)) ?_
  refine AOps.done ?_
  refine AW.seq ?_
  refine AW.region rfl ?_
  refine AOps.set rfl rfl (xMove rfl rfl rfl) ?_
  refine AOps.set rfl rfl (xBin rfl rfl rfl rfl (bRemN (by omega))) ?_
  refine AOps.set rfl rfl (xBin rfl rfl rfl rfl (bQuoN (by omega) (by first | exact IntWalk.u8_in _ (by omega) | exact rfl))) ?_
  refine AOps.set rfl rfl (xMove rfl rfl rfl) ?_
  refine AOps.set rfl rfl (xBin rfl rfl rfl rfl (bRemN (by omega))) ?_
  refine AOps.set rfl rfl (xConvK rfl rfl rfl rfl rfl (by first | exact IntWalk.i64_in _ (by omega) | exact rfl)) ?_
  refine AOps.set rfl rfl (xBin rfl rfl rfl rfl (bAddK (by first | exact IntWalk.i64_in _ (by omega) | exact rfl))) ?_
  refine AOps.set rfl rfl (xBuild rfl rfl rfl rfl (b24_0_1 _ _)) ?_
  refine AOps.non rfl rfl (xStoreAll rfl rfl rfl rfl rfl rfl rfl rfl (by first | (dsimp only [List.set, List.cons_append, List.nil_append]; exact rfl) | exact rfl)) ?_
  refine AOps.done ?_
  refine AW.ret ?_
  try dsimp only [AEx.then, AEx.inBlock, if_true]
  refine FnEnd.r1 rfl rfl (prv_agg rfl rfl rfl (by first | exact readN_all rfl rfl | fail)) ?_
  exact ⟨by first | rfl | (congr 1; (repeat' split) <;> omega) | (congr 1; simp; omega), _, rfl⟩
-- gansey/needles.racked
theorem c19 (r : Int) (h : AHeap) : ACalls Tryd.prog 19 [.int .i64 r] h (Pure (.bool (decide (-4 ≤ r ∧ r ≤ 4))) h) := by
  refine ACalls.pureOf (by first | exact .bool _ | exact .int _ _ | exact .string _) (ACalls.ofBody Tryd.func19 rfl (Nat.le_of_ble_eq_true rfl) ?_)
  refine AW.seq ?_
  refine AW.region rfl ?_
  refine AOps.set rfl rfl (xAssign rfl rfl rfl) ?_
  refine AOps.done ?_
  refine AW.seq ?_
  refine AW.region rfl ?_
  refine AOps.set rfl rfl (xMove rfl rfl rfl) ?_
  refine AOps.set rfl rfl (xBin rfl rfl rfl rfl bGeq) ?_
  refine AOps.setB rfl rfl (xMove rfl rfl rfl) (fun hb2 => ?_) (fun hb2 => ?_)
  · try simp only [beq_true, beq_false, beq_iff_eq, beq_eq_false_iff_ne, ne_eq, decide_eq_decide, Bool.not_eq_true, Bool.not_eq_eq_eq_not, Bool.not_true, Bool.not_false, decide_eq_true_eq, decide_eq_false_iff_not, Bool.not_eq_true', Bool.not_eq_false', gt_iff_lt, ge_iff_le, Int.not_lt, Int.not_le, if01, Bool.false_eq_true, Bool.true_eq_false] at hb2
    refine AOps.set rfl rfl (xMove rfl rfl rfl) ?_
    refine AOps.set rfl rfl (xBin rfl rfl rfl rfl bLeq) ?_
    refine AOps.set rfl rfl (xPickT rfl rfl rfl rfl rfl) ?_
    refine AOps.set rfl rfl (xAssign rfl rfl rfl) ?_
    refine AOps.done ?_
    refine AW.ret ?_
    try dsimp only [AEx.then, AEx.inBlock, if_true]
    refine FnEnd.r1 rfl rfl rfl ?_
    exact ⟨by first | rfl | (congr 1; (repeat' split) <;> omega) | (congr 1; simp; omega), _, rfl⟩
  · try simp only [beq_true, beq_false, beq_iff_eq, beq_eq_false_iff_ne, ne_eq, decide_eq_decide, Bool.not_eq_true, Bool.not_eq_eq_eq_not, Bool.not_true, Bool.not_false, decide_eq_true_eq, decide_eq_false_iff_not, Bool.not_eq_true', Bool.not_eq_false', gt_iff_lt, ge_iff_le, Int.not_lt, Int.not_le, if01, Bool.false_eq_true, Bool.true_eq_false] at hb2
    refine AOps.offS rfl rfl ?_
    refine AOps.offS rfl rfl ?_
    refine AOps.set rfl rfl (xPickF rfl rfl rfl rfl rfl) ?_
    refine AOps.set rfl rfl (xAssign rfl rfl rfl) ?_
    refine AOps.done ?_
    refine AW.ret ?_
    try dsimp only [AEx.then, AEx.inBlock, if_true]
    refine FnEnd.r1 rfl rfl rfl ?_
    exact ⟨by first | rfl | (congr 1; (repeat' split) <;> omega) | (congr 1; simp; omega), _, rfl⟩
-- gansey/needles.Check
theorem c10 (bed p : Int) (h : AHeap) : ACalls Tryd.prog 10 [.agg [.int .u8 bed, .int .i64 p].toArray] h (Pure (.int .i64 (if bed ≤ 1 ∧ 1 ≤ p ∧ p ≤ 40 then 0 else 1)) h) := by
  refine ACalls.pureOf (by first | exact .bool _ | exact .int _ _ | exact .string _) (ACalls.ofBody Tryd.func10 rfl (Nat.le_of_ble_eq_true rfl) ?_)
  refine AW.seq ?_
  refine AW.region rfl ?_
  refine AOps.set rfl rfl (xBoxAgg rfl rfl rfl rfl (by first | (dsimp only [List.set, List.cons_append, List.nil_append]; exact rfl) | exact rfl)) ?_
  refine AOps.set rfl rfl (xAssign rfl rfl rfl) ?_
  refine AOps.done ?_
  refine AW.seq ?_
  refine AW.seq ?_
  refine AW.region rfl ?_
  refine AOps.set rfl rfl (xFieldAddr0 rfl rfl rfl rfl rfl rfl rfl) ?_
  refine AOps.set rfl rfl (xLoad rfl rfl rfl rfl (by first | exact read_own rfl rfl | fail)) ?_
  refine AOps.set rfl rfl (xBin rfl rfl rfl rfl bGtr) ?_
  refine AOps.setB rfl rfl (xMove rfl rfl rfl) (fun hb3 => ?_) (fun hb3 => ?_)
  · try simp only [beq_true, beq_false, beq_iff_eq, beq_eq_false_iff_ne, ne_eq, decide_eq_decide, Bool.not_eq_true, Bool.not_eq_eq_eq_not, Bool.not_true, Bool.not_false, decide_eq_true_eq, decide_eq_false_iff_not, Bool.not_eq_true', Bool.not_eq_false', gt_iff_lt, ge_iff_le, Int.not_lt, Int.not_le, if01, Bool.false_eq_true, Bool.true_eq_false] at hb3
    refine AOps.offS rfl rfl ?_
    refine AOps.offS rfl rfl ?_
    refine AOps.offS rfl rfl ?_
    refine AOps.set rfl rfl (xPickT rfl rfl rfl rfl rfl) ?_
    refine AOps.set rfl rfl (xMove rfl rfl rfl) ?_
    refine AOps.offS rfl rfl ?_
    refine AOps.offS rfl rfl ?_
    refine AOps.offS rfl rfl ?_
    refine AOps.set rfl rfl (xPickT rfl rfl rfl rfl rfl) ?_
    refine AOps.done ?_
    refine AW.condT rfl ?_
    refine AW.seq ?_
    refine AW.region rfl ?_
    refine AOps.set rfl rfl (xAssign rfl rfl rfl) ?_
    refine AOps.done ?_
    refine AW.ret ?_
    try dsimp only [AEx.then, AEx.inBlock, if_true]
    refine FnEnd.r1 rfl rfl rfl ?_
    exact ⟨by first | rfl | (congr 1; (repeat' split) <;> omega) | (congr 1; simp; omega), _, rfl⟩
  · try simp only [beq_true, beq_false, beq_iff_eq, beq_eq_false_iff_ne, ne_eq, decide_eq_decide, Bool.not_eq_true, Bool.not_eq_eq_eq_not, Bool.not_true, Bool.not_false, decide_eq_true_eq, decide_eq_false_iff_not, Bool.not_eq_true', Bool.not_eq_false', gt_iff_lt, ge_iff_le, Int.not_lt, Int.not_le, if01, Bool.false_eq_true, Bool.true_eq_false] at hb3
    refine AOps.set rfl rfl (xFieldAddr0 rfl rfl rfl rfl rfl rfl rfl) ?_
    refine AOps.set rfl rfl (xLoad rfl rfl rfl rfl (by first | exact read_own rfl rfl | fail)) ?_
    refine AOps.set rfl rfl (xBin rfl rfl rfl rfl bLss) ?_
    refine AOps.set rfl rfl (xPickF rfl rfl rfl rfl rfl) ?_
    refine AOps.setB rfl rfl (xMove rfl rfl rfl) (fun hb8 => ?_) (fun hb8 => ?_)
    · try simp only [beq_true, beq_false, beq_iff_eq, beq_eq_false_iff_ne, ne_eq, decide_eq_decide, Bool.not_eq_true, Bool.not_eq_eq_eq_not, Bool.not_true, Bool.not_false, decide_eq_true_eq, decide_eq_false_iff_not, Bool.not_eq_true', Bool.not_eq_false', gt_iff_lt, ge_iff_le, Int.not_lt, Int.not_le, if01, Bool.false_eq_true, Bool.true_eq_false] at hb8
      refine AOps.offS rfl rfl ?_
      refine AOps.offS rfl rfl ?_
      refine AOps.offS rfl rfl ?_
      refine AOps.set rfl rfl (xPickT rfl rfl rfl rfl rfl) ?_
      refine AOps.done ?_
      refine AW.condT rfl ?_
      refine AW.seq ?_
      refine AW.region rfl ?_
      refine AOps.set rfl rfl (xAssign rfl rfl rfl) ?_
      refine AOps.done ?_
      refine AW.ret ?_
      try dsimp only [AEx.then, AEx.inBlock, if_true]
      refine FnEnd.r1 rfl rfl rfl ?_
      exact ⟨by first | rfl | (congr 1; (repeat' split) <;> omega) | (congr 1; simp; omega), _, rfl⟩
    · try simp only [beq_true, beq_false, beq_iff_eq, beq_eq_false_iff_ne, ne_eq, decide_eq_decide, Bool.not_eq_true, Bool.not_eq_eq_eq_not, Bool.not_true, Bool.not_false, decide_eq_true_eq, decide_eq_false_iff_not, Bool.not_eq_true', Bool.not_eq_false', gt_iff_lt, ge_iff_le, Int.not_lt, Int.not_le, if01, Bool.false_eq_true, Bool.true_eq_false] at hb8
      refine AOps.set rfl rfl (xFieldAddr0 rfl rfl rfl rfl rfl rfl rfl) ?_
      refine AOps.set rfl rfl (xLoad rfl rfl rfl rfl (by first | exact read_own rfl rfl | fail)) ?_
      refine AOps.set rfl rfl (xBin rfl rfl rfl rfl bGtr) ?_
      refine AOps.set rfl rfl (xPickF rfl rfl rfl rfl rfl) ?_
      refine AOps.done ?_
      refine AW.condB rfl (fun hc => ?_) (fun hc => ?_)
      · try simp only [beq_true, beq_false, beq_iff_eq, beq_eq_false_iff_ne, ne_eq, decide_eq_decide, Bool.not_eq_true, Bool.not_eq_eq_eq_not, Bool.not_true, Bool.not_false, decide_eq_true_eq, decide_eq_false_iff_not, Bool.not_eq_true', Bool.not_eq_false', gt_iff_lt, ge_iff_le, Int.not_lt, Int.not_le, if01, Bool.false_eq_true, Bool.true_eq_false] at hc
        refine AW.seq ?_
        refine AW.region rfl ?_
        refine AOps.set rfl rfl (xAssign rfl rfl rfl) ?_
        refine AOps.done ?_
        refine AW.ret ?_
        try dsimp only [AEx.then, AEx.inBlock, if_true]
        refine FnEnd.r1 rfl rfl rfl ?_
        exact ⟨by first | rfl | (congr 1; (repeat' split) <;> omega) | (congr 1; simp; omega), _, rfl⟩
      · try simp only [beq_true, beq_false, beq_iff_eq, beq_eq_false_iff_ne, ne_eq, decide_eq_decide, Bool.not_eq_true, Bool.not_eq_eq_eq_not, Bool.not_true, Bool.not_false, decide_eq_true_eq, decide_eq_false_iff_not, Bool.not_eq_true', Bool.not_eq_false', gt_iff_lt, ge_iff_le, Int.not_lt, Int.not_le, if01, Bool.false_eq_true, Bool.true_eq_false] at hc
        refine AW.skip ?_
        refine AW.seq ?_
        refine AW.region rfl ?_
        refine AOps.set rfl rfl (xAssign rfl rfl rfl) ?_
        refine AOps.done ?_
        refine AW.ret ?_
        try dsimp only [AEx.then, AEx.inBlock, if_true]
        refine FnEnd.r1 rfl rfl rfl ?_
        exact ⟨by first | rfl | (congr 1; (repeat' split) <;> omega) | (congr 1; simp; omega), _, rfl⟩
-- gansey/needles.Spot
theorem c11 (bed p r : Int) (h : AHeap) : ACalls Tryd.prog 11 [.agg [.int .u8 bed, .int .i64 p].toArray, .int .i64 r] h (Pure (.int .i64 (if bed ≤ 1 ∧ 1 ≤ p ∧ p ≤ 40 ∧ -4 ≤ r ∧ r ≤ 4 then (if bed = 1 then 4 * (p + r) else 4 * p + 2) else 0)) h) := by
  refine ACalls.pureOf (by first | exact .bool _ | exact .int _ _ | exact .string _) (ACalls.ofBody Tryd.func11 rfl (Nat.le_of_ble_eq_true rfl) ?_)
  refine AW.seq ?_
  refine AW.region rfl ?_
  refine AOps.set rfl rfl (xBoxAgg rfl rfl rfl rfl (by first | (dsimp only [List.set, List.cons_append, List.nil_append]; exact rfl) | exact rfl)) ?_
  refine AOps.set rfl rfl (xAssign rfl rfl rfl) ?_
  refine AOps.done ?_
  refine AW.seq ?_
  refine AW.seq ?_
  refine AW.region rfl ?_
  refine AOps.set rfl rfl (xLoadAgg rfl rfl rfl rfl rfl (by first | exact readN_all rfl rfl | fail)) ?_
  refine AOps.set rfl rfl (xCallPure ok rfl rfl rfl rfl rfl rfl Tryd.func10 rfl rfl (c10 _ _ _)) ?_
  refine AOps.set rfl rfl (xBin rfl rfl rfl rfl bNeq) ?_
  refine AOps.setB rfl rfl (xMove rfl rfl rfl) (fun hb3 => ?_) (fun hb3 => ?_)
  · try simp only [beq_true, beq_false, beq_iff_eq, beq_eq_false_iff_ne, ne_eq, decide_eq_decide, Bool.not_eq_true, Bool.not_eq_eq_eq_not, Bool.not_true, Bool.not_false, decide_eq_true_eq, decide_eq_false_iff_not, Bool.not_eq_true', Bool.not_eq_false', gt_iff_lt, ge_iff_le, Int.not_lt, Int.not_le, if01, Bool.false_eq_true, Bool.true_eq_false] at hb3
    refine AOps.offS rfl rfl ?_
    refine AOps.offS rfl rfl ?_
    refine AOps.offS rfl rfl ?_
    refine AOps.set rfl rfl (xPickT rfl rfl rfl rfl rfl) ?_
    refine AOps.done ?_
    refine AW.condT rfl ?_
    refine AW.seq ?_
    refine AW.region rfl ?_
    refine AOps.set rfl rfl (xAssign rfl rfl rfl) ?_
    refine AOps.done ?_
    refine AW.ret ?_
    try dsimp only [AEx.then, AEx.inBlock, if_true]
    refine FnEnd.r1 rfl rfl rfl ?_
    exact ⟨by first | rfl | (congr 1; (repeat' split) <;> omega) | (congr 1; simp; omega), _, rfl⟩
  · try simp only [beq_true, beq_false, beq_iff_eq, beq_eq_false_iff_ne, ne_eq, decide_eq_decide, Bool.not_eq_true, Bool.not_eq_eq_eq_not, Bool.not_true, Bool.not_false, decide_eq_true_eq, decide_eq_false_iff_not, Bool.not_eq_true', Bool.not_eq_false', gt_iff_lt, ge_iff_le, Int.not_lt, Int.not_le, if01, Bool.false_eq_true, Bool.true_eq_false] at hb3
    refine AOps.set rfl rfl (xMove rfl rfl rfl) ?_
    refine AOps.set rfl rfl (xCallPure ok rfl rfl rfl rfl rfl rfl Tryd.func19 rfl rfl (c19 _ _)) ?_
    refine AOps.set rfl rfl (xNot rfl rfl rfl) ?_
    refine AOps.set rfl rfl (xPickF rfl rfl rfl rfl rfl) ?_
    refine AOps.done ?_
    refine AW.condB rfl (fun hc => ?_) (fun hc => ?_)
    · try simp only [beq_true, beq_false, beq_iff_eq, beq_eq_false_iff_ne, ne_eq, decide_eq_decide, Bool.not_eq_true, Bool.not_eq_eq_eq_not, Bool.not_true, Bool.not_false, decide_eq_true_eq, decide_eq_false_iff_not, Bool.not_eq_true', Bool.not_eq_false', gt_iff_lt, ge_iff_le, Int.not_lt, Int.not_le, if01, Bool.false_eq_true, Bool.true_eq_false] at hc
      refine AW.seq ?_
      refine AW.region rfl ?_
      refine AOps.set rfl rfl (xAssign rfl rfl rfl) ?_
      refine AOps.done ?_
      refine AW.ret ?_
      try dsimp only [AEx.then, AEx.inBlock, if_true]
      refine FnEnd.r1 rfl rfl rfl ?_
      exact ⟨by first | rfl | (congr 1; (repeat' split) <;> omega) | (congr 1; simp; omega), _, rfl⟩
    · try simp only [beq_true, beq_false, beq_iff_eq, beq_eq_false_iff_ne, ne_eq, decide_eq_decide, Bool.not_eq_true, Bool.not_eq_eq_eq_not, Bool.not_true, Bool.not_false, decide_eq_true_eq, decide_eq_false_iff_not, Bool.not_eq_true', Bool.not_eq_false', gt_iff_lt, ge_iff_le, Int.not_lt, Int.not_le, if01, Bool.false_eq_true, Bool.true_eq_false] at hc
      refine AW.skip ?_
      refine AW.seq ?_
      refine AW.region rfl ?_
      refine AOps.set rfl rfl (xLoadAgg rfl rfl rfl rfl rfl (by first | exact readN_all rfl rfl | fail)) ?_
      refine AOps.set rfl rfl (xMove rfl rfl rfl) ?_
      refine AOps.set rfl rfl (xCallPure ok rfl rfl rfl rfl rfl rfl Tryd.func20 rfl rfl (c20 _ _ _ _ (by omega) (by omega))) ?_
      refine AOps.set rfl rfl (xAssign rfl rfl rfl) ?_
      refine AOps.done ?_
      refine AW.ret ?_
      try dsimp only [AEx.then, AEx.inBlock, if_true]
      refine FnEnd.r1 rfl rfl rfl ?_
      exact ⟨by first | rfl | (congr 1; (repeat' split) <;> omega) | (congr 1; simp; omega), _, rfl⟩
theorem c11v (bed p r : Int) (h : AHeap) (h1 : bed ≤ 1 ∧ 1 ≤ p ∧ p ≤ 40 ∧ -4 ≤ r ∧ r ≤ 4) : ACalls Tryd.prog 11 [.agg [.int .u8 bed, .int .i64 p].toArray, .int .i64 r] h (Pure (.int .i64 (if bed = 1 then 4 * (p + r) else 4 * p + 2)) h) := by
  have := c11 bed p r h
  rwa [if_pos h1] at this
theorem eql24 (x0 x1 y0 y1 : Int) : abinOp Tryd.prog .eql 24 (.agg [.int .u8 x0, .int .i64 x1].toArray) (.agg [.int .u8 y0, .int .i64 y1].toArray) = some (.bool (decide (x0 = y0 ∧ x1 = y1))) := by
  have := bEqlStruct (P := Tryd.prog) (ty := 24) (xs := [.int .u8 x0, .int .i64 x1]) (ys := [.int .u8 y0, .int .i64 y1]) (bs := [decide (x0 = y0), decide (x1 = y1)]) (by kernel_rfl) Tryd.underlying24 (by kernel_rfl) (by kernel_rfl) (by kernel_rfl)
  rw [this]; simp
theorem neq24 (x0 x1 y0 y1 : Int) : abinOp Tryd.prog .neq 24 (.agg [.int .u8 x0, .int .i64 x1].toArray) (.agg [.int .u8 y0, .int .i64 y1].toArray) = some (.bool (!decide (x0 = y0 ∧ x1 = y1))) := by
  have := bNeqStruct (P := Tryd.prog) (ty := 24) (xs := [.int .u8 x0, .int .i64 x1]) (ys := [.int .u8 y0, .int .i64 y1]) (bs := [decide (x0 = y0), decide (x1 = y1)]) (by kernel_rfl) Tryd.underlying24 (by kernel_rfl) (by kernel_rfl) (by kernel_rfl)
  rw [this]; simp
theorem lives_run : boolTrue (arun Tryd.prog 20000 (enterState Tryd.prog 12 [] (noHeap Tryd.prog))) = true := by kernel_rfl
theorem c12 (h : AHeap) : ACalls Tryd.prog 12 [] h (Pure (.bool true) h) := .ofTrue (fun _ hG => calls_true ok Tryd.func12 rfl lives_run hG) h
end Go.Proofs.YtkiognclopmciaaDoor
