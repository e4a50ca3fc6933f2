/- The needles' functions. -/
import Derived.Test.YtkiognclopmciaaDoorNeedlesFns
import Derived.Test.YtkiognclopmciaaDoorAmLoops
import Derived.Test.YtkiognclopmciaaDoorProg
import Derived.KernelRfl
namespace Go.Proofs.YtkiognclopmciaaDoor
open Go Go.RowKit Go.Am
set_option linter.unusedSimpArgs false
-- gansey/ganseylaw01.NeedlesApart
theorem c7 (a b k : Int) (h : AHeap) (h1 : 0 ≤ a ∧ a < 256) (h2 : 0 ≤ b ∧ b < 256) (h3 : 0 ≤ k ∧ k < 256) : ACalls Tryd.prog 7 [.int .u8 a, .int .u8 b, .int .u8 k] h (Pure (.bool true) h) := by
  refine ACalls.pureOf (by first | exact .bool _ | exact .int _ _ | exact .string _) (ACalls.ofBody Tryd.func7 rfl (Nat.le_of_ble_eq_true rfl) ?_)
  refine AW.seq ?_
  refine AW.region rfl ?_
  refine AOps.set rfl rfl (xAssign rfl rfl rfl) ?_
  refine AOps.done ?_
  refine AW.seq ?_
  refine AW.region rfl ?_
  refine AOps.set rfl rfl (xMove rfl rfl rfl) ?_
  refine AOps.set rfl rfl (xBin rfl rfl rfl rfl (bRemN (by omega))) ?_
  refine AOps.set rfl rfl (xConvK rfl rfl rfl rfl rfl (by first | exact IntWalk.i64_in _ (by omega) | exact rfl)) ?_
  refine AOps.set rfl rfl (xBin rfl rfl rfl rfl (bSubK (by first | exact IntWalk.i64_in _ (by omega) | exact rfl))) ?_
  refine AOps.set rfl rfl (xAssign rfl rfl rfl) ?_
  refine AOps.done ?_
  refine AW.seq ?_
  refine AW.region rfl ?_
  refine AOps.set rfl rfl (xMove rfl rfl rfl) ?_
  refine AOps.set rfl rfl (xCallPure ok rfl rfl rfl rfl rfl rfl Tryd.func15 rfl rfl (c15 _ _ (by omega))) ?_
  refine AOps.set rfl rfl (xMove rfl rfl rfl) ?_
  refine AOps.set rfl rfl (xCallPure ok rfl rfl rfl rfl rfl rfl Tryd.func15 rfl rfl (c15 _ _ (by omega))) ?_
  refine AOps.set rfl rfl (xAlloc (cs := [.int .u8 0, .int .i64 0]) rfl rfl (by kernel_rfl) rfl (by first | (dsimp only [List.set, List.cons_append, List.nil_append]; exact rfl) | exact rfl)) ?_
  refine AOps.set rfl rfl (xAlloc (cs := [.int .u8 0, .int .i64 0]) rfl rfl (by kernel_rfl) rfl (by first | (dsimp only [List.set, List.cons_append, List.nil_append]; exact rfl) | exact rfl)) ?_
  refine AOps.non rfl rfl (xStoreAll rfl rfl rfl rfl rfl rfl rfl rfl (by first | (dsimp only [List.set, List.cons_append, List.nil_append]; exact rfl) | exact rfl)) ?_
  refine AOps.non rfl rfl (xStoreAll rfl rfl rfl rfl rfl rfl rfl rfl (by first | (dsimp only [List.set, List.cons_append, List.nil_append]; exact rfl) | exact rfl)) ?_
  refine AOps.done ?_
  refine AW.seq ?_
  refine AW.regionDraw ok (fun _ => false) [] (by kernel_rfl) (by kernel_rfl) rfl ?_
  refine ADr.set rfl rfl (xLoadAgg rfl rfl rfl rfl rfl (by first | exact readN_all rfl rfl | fail)) ?_
  refine ADr.set rfl rfl (xMove rfl rfl rfl) ?_
  refine ADr.set rfl rfl (xCallPure ok rfl rfl rfl rfl rfl rfl Tryd.func11 rfl rfl (c11 _ _ _ _)) ?_
  refine ADr.set rfl rfl (xLoadAgg rfl rfl rfl rfl rfl (by first | exact readN_all rfl rfl | fail)) ?_
  refine ADr.set rfl rfl (xMove rfl rfl rfl) ?_
  refine ADr.set rfl rfl (xCallPure ok rfl rfl rfl rfl rfl rfl Tryd.func11 rfl rfl (c11 _ _ _ _)) ?_
  refine ADr.set rfl rfl (xAssign rfl rfl rfl) ?_
  refine ADr.set rfl rfl (xAssign rfl rfl rfl) ?_
  refine ADr.done trivial ?_
  refine AW.seq ?_
  refine AW.seq ?_
  refine AW.region rfl ?_
  refine AOps.set rfl rfl (xMove rfl rfl rfl) ?_
  refine AOps.set rfl rfl (xMove rfl rfl rfl) ?_
  refine AOps.set rfl rfl (xBin rfl rfl rfl rfl bEql) ?_
  refine AOps.set rfl rfl (xLoadAgg rfl rfl rfl rfl rfl (by first | exact readN_all rfl rfl | fail)) ?_
  refine AOps.set rfl rfl (xLoadAgg rfl rfl rfl rfl rfl (by first | exact readN_all rfl rfl | fail)) ?_
  refine AOps.set rfl rfl (xBin rfl rfl rfl rfl (eql24 _ _ _ _)) ?_
  refine AOps.set rfl rfl (xBin rfl rfl rfl rfl (bNeqB rfl)) ?_
  refine AOps.done ?_
  refine AW.condB rfl (fun hc => ?_) (fun hc => ?_)
  · try simp only [beq_true, beq_false, beq_iff_eq, beq_eq_false_iff_ne, ne_eq, decide_eq_decide, Bool.not_eq_true, Bool.not_eq_eq_eq_not, Bool.not_true, Bool.not_false, decide_eq_true_eq, decide_eq_false_iff_not, Bool.not_eq_true', Bool.not_eq_false', gt_iff_lt, ge_iff_le, Int.not_lt, Int.not_le, if01, Bool.false_eq_true, Bool.true_eq_false] at hc
    refine AW.seq ?_
    refine AW.region rfl ?_
    refine AOps.set rfl rfl (xAssign rfl rfl rfl) ?_
    refine AOps.done ?_
    refine AW.ret ?_
    try dsimp only [AEx.then, AEx.inBlock, if_true]
    refine FnEnd.r1 rfl rfl rfl ?_
    first | exact ⟨rfl, _, rfl⟩ | (exfalso; simp_all; omega)
  · try simp only [beq_true, beq_false, beq_iff_eq, beq_eq_false_iff_ne, ne_eq, decide_eq_decide, Bool.not_eq_true, Bool.not_eq_eq_eq_not, Bool.not_true, Bool.not_false, decide_eq_true_eq, decide_eq_false_iff_not, Bool.not_eq_true', Bool.not_eq_false', gt_iff_lt, ge_iff_le, Int.not_lt, Int.not_le, if01, Bool.false_eq_true, Bool.true_eq_false] at hc
    refine AW.skip ?_
    refine AW.seq ?_
    refine AW.seq ?_
    refine AW.region rfl ?_
    refine AOps.set rfl rfl (xFieldAddr0 rfl rfl rfl rfl rfl rfl rfl) ?_
    refine AOps.set rfl rfl (xLoad rfl rfl rfl rfl (by first | exact read_own rfl rfl | fail)) ?_
    refine AOps.set rfl rfl (xBin rfl rfl rfl rfl bEql) ?_
    refine AOps.done ?_
    refine AW.condB rfl (fun hc => ?_) (fun hc => ?_)
    · try simp only [beq_true, beq_false, beq_iff_eq, beq_eq_false_iff_ne, ne_eq, decide_eq_decide, Bool.not_eq_true, Bool.not_eq_eq_eq_not, Bool.not_true, Bool.not_false, decide_eq_true_eq, decide_eq_false_iff_not, Bool.not_eq_true', Bool.not_eq_false', gt_iff_lt, ge_iff_le, Int.not_lt, Int.not_le, if01, Bool.false_eq_true, Bool.true_eq_false] at hc
      refine AW.seq ?_
      refine AW.region rfl ?_
      refine AOps.set rfl rfl (xLoadAgg rfl rfl rfl rfl rfl (by first | exact readN_all rfl rfl | fail)) ?_
      refine AOps.set rfl rfl (xMove rfl rfl rfl) ?_
      refine AOps.set rfl rfl (xBin rfl rfl rfl rfl (bAddK (by first | exact IntWalk.i64_in _ (by omega) | exact rfl))) ?_
      refine AOps.set rfl rfl (xCallPure ok rfl rfl rfl rfl rfl rfl Tryd.func11 rfl rfl (c11 _ _ _ _)) ?_
      refine AOps.set rfl rfl (xMove rfl rfl rfl) ?_
      refine AOps.set rfl rfl (xBin rfl rfl rfl rfl bEql) ?_
      refine AOps.setB rfl rfl (xMove rfl rfl rfl) (fun hb6 => ?_) (fun hb6 => ?_)
      · try simp only [beq_true, beq_false, beq_iff_eq, beq_eq_false_iff_ne, ne_eq, decide_eq_decide, Bool.not_eq_true, Bool.not_eq_eq_eq_not, Bool.not_true, Bool.not_false, decide_eq_true_eq, decide_eq_false_iff_not, Bool.not_eq_true', Bool.not_eq_false', gt_iff_lt, ge_iff_le, Int.not_lt, Int.not_le, if01, Bool.false_eq_true, Bool.true_eq_false] at hb6
        refine AOps.set rfl rfl (xCallPure ok rfl rfl rfl rfl rfl rfl Tryd.func12 rfl rfl (c12 _)) ?_
        refine AOps.set rfl rfl (xPickT rfl rfl rfl rfl rfl) ?_
        refine AOps.set rfl rfl (xAssign rfl rfl rfl) ?_
        refine AOps.done ?_
        refine AW.ret ?_
        try dsimp only [AEx.then, AEx.inBlock, if_true]
        refine FnEnd.r1 rfl rfl rfl ?_
        first | exact ⟨rfl, _, rfl⟩ | (exfalso; simp_all; omega)
      · try simp only [beq_true, beq_false, beq_iff_eq, beq_eq_false_iff_ne, ne_eq, decide_eq_decide, Bool.not_eq_true, Bool.not_eq_eq_eq_not, Bool.not_true, Bool.not_false, decide_eq_true_eq, decide_eq_false_iff_not, Bool.not_eq_true', Bool.not_eq_false', gt_iff_lt, ge_iff_le, Int.not_lt, Int.not_le, if01, Bool.false_eq_true, Bool.true_eq_false] at hb6
        refine AOps.offS rfl rfl ?_
        refine AOps.set rfl rfl (xPickF rfl rfl rfl rfl rfl) ?_
        refine AOps.set rfl rfl (xAssign rfl rfl rfl) ?_
        refine AOps.done ?_
        refine AW.ret ?_
        try dsimp only [AEx.then, AEx.inBlock, if_true]
        refine FnEnd.r1 rfl rfl rfl ?_
        first | exact ⟨rfl, _, rfl⟩ | (exfalso; simp_all; omega)
    · try simp only [beq_true, beq_false, beq_iff_eq, beq_eq_false_iff_ne, ne_eq, decide_eq_decide, Bool.not_eq_true, Bool.not_eq_eq_eq_not, Bool.not_true, Bool.not_false, decide_eq_true_eq, decide_eq_false_iff_not, Bool.not_eq_true', Bool.not_eq_false', gt_iff_lt, ge_iff_le, Int.not_lt, Int.not_le, if01, Bool.false_eq_true, Bool.true_eq_false] at hc
      refine AW.skip ?_
      refine AW.seq ?_
      refine AW.seq ?_
      refine AW.region rfl ?_
      refine AOps.set rfl rfl (xLoadAgg rfl rfl rfl rfl rfl (by first | exact readN_all rfl rfl | fail)) ?_
      refine AOps.set rfl rfl (xMove rfl rfl rfl) ?_
      refine AOps.set rfl rfl (xBin rfl rfl rfl rfl (bAddK (by first | exact IntWalk.i64_in _ (by omega) | exact rfl))) ?_
      refine AOps.set rfl rfl (xCallPure ok rfl rfl rfl rfl rfl rfl Tryd.func11 rfl rfl (c11 _ _ _ _)) ?_
      refine AOps.set rfl rfl (xMove rfl rfl rfl) ?_
      refine AOps.set rfl rfl (xBin rfl rfl rfl rfl (bAddK (by first | exact IntWalk.i64_in _ (by omega) | exact rfl))) ?_
      refine AOps.set rfl rfl (xBin rfl rfl rfl rfl bNeq) ?_
      refine AOps.done ?_
      refine AW.condB rfl (fun hc => ?_) (fun hc => ?_)
      · try simp only [beq_true, beq_false, beq_iff_eq, beq_eq_false_iff_ne, ne_eq, decide_eq_decide, Bool.not_eq_true, Bool.not_eq_eq_eq_not, Bool.not_true, Bool.not_false, decide_eq_true_eq, decide_eq_false_iff_not, Bool.not_eq_true', Bool.not_eq_false', gt_iff_lt, ge_iff_le, Int.not_lt, Int.not_le, if01, Bool.false_eq_true, Bool.true_eq_false] at hc
        refine AW.seq ?_
        refine AW.region rfl ?_
        refine AOps.set rfl rfl (xAssign rfl rfl rfl) ?_
        refine AOps.done ?_
        refine AW.ret ?_
        try dsimp only [AEx.then, AEx.inBlock, if_true]
        refine FnEnd.r1 rfl rfl rfl ?_
        first | exact ⟨rfl, _, rfl⟩ | (exfalso; simp_all; omega)
      · try simp only [beq_true, beq_false, beq_iff_eq, beq_eq_false_iff_ne, ne_eq, decide_eq_decide, Bool.not_eq_true, Bool.not_eq_eq_eq_not, Bool.not_true, Bool.not_false, decide_eq_true_eq, decide_eq_false_iff_not, Bool.not_eq_true', Bool.not_eq_false', gt_iff_lt, ge_iff_le, Int.not_lt, Int.not_le, if01, Bool.false_eq_true, Bool.true_eq_false] at hc
        refine AW.skip ?_
        refine AW.seq ?_
        refine AW.region rfl ?_
        refine AOps.set rfl rfl (xAssign rfl rfl rfl) ?_
        refine AOps.done ?_
        refine AW.seq ?_
        refine AW.seq ?_
        refine AW.region rfl ?_
        refine AOps.set rfl rfl (xAssign rfl rfl rfl) ?_
        refine AOps.done ?_
        refine AW.block ?_
        -- vary [12, 13] stay [7, 8, 10]
        refine AW.loopH [(7, _), (8, _), (10, _)] (0 : Nat) (fun i => [(12, .int .i64 (if 1 ≤ (1 + a % 40 + (k % 8 - 4)) ∧ (1 + a % 40 + (k % 8 - 4)) ≤ i then 1 else 0)), (13, .int .i64 i)]) (fun i => i ≤ 40) (fun i => 40 - i) ⟨(by first | rfl | (refine congrArg (fun z => some (Value.int .i64 z)) ?_; (repeat' split) <;> omega)), (by first | rfl | (refine congrArg (fun z => some (Value.int .i64 z)) ?_; (repeat' split) <;> omega)), rfl, rfl, rfl, trivial⟩ (by omega) (fun i hx => ?_)
        refine AW.seq ?_
        refine AW.seq ?_
        refine AW.region rfl ?_
        refine AOps.set rfl rfl (xMove rfl rfl rfl) ?_
        refine AOps.set rfl rfl (xBin rfl rfl rfl rfl bLss) ?_
        refine AOps.done ?_
        refine AW.condB rfl (fun hc => ?_) (fun hc => ?_)
        · try simp only [beq_true, beq_false, beq_iff_eq, beq_eq_false_iff_ne, ne_eq, decide_eq_decide, Bool.not_eq_true, Bool.not_eq_eq_eq_not, Bool.not_true, Bool.not_false, decide_eq_true_eq, decide_eq_false_iff_not, Bool.not_eq_true', Bool.not_eq_false', gt_iff_lt, ge_iff_le, Int.not_lt, Int.not_le, if01, Bool.false_eq_true, Bool.true_eq_false] at hc
          refine AW.skip ?_
          refine AW.seq ?_
          refine AW.block ?_
          refine AW.seq ?_
          refine AW.region rfl ?_
          refine AOps.set rfl rfl (xMove rfl rfl rfl) ?_
          refine AOps.set rfl rfl (xConvK rfl rfl rfl rfl rfl (by first | exact IntWalk.u8_in _ (by omega) | exact rfl)) ?_
          refine AOps.set rfl rfl (xCallPure ok rfl rfl rfl rfl rfl rfl Tryd.func15 rfl rfl (c15 _ _ (by omega))) ?_
          refine AOps.set rfl rfl (xMove rfl rfl rfl) ?_
          refine AOps.set rfl rfl (xCallPure ok rfl rfl rfl rfl rfl rfl Tryd.func11 rfl rfl (c11 _ _ _ _)) ?_
          refine AOps.set rfl rfl (xAssign rfl rfl rfl) ?_
          refine AOps.done ?_
          refine AW.seq ?_
          refine AW.region rfl ?_
          refine AOps.set rfl rfl (xMove rfl rfl rfl) ?_
          refine AOps.set rfl rfl (xMove rfl rfl rfl) ?_
          refine AOps.set rfl rfl (xBin rfl rfl rfl rfl bGtr) ?_
          refine AOps.setB rfl rfl (xMove rfl rfl rfl) (fun hb3 => ?_) (fun hb3 => ?_)
          · try simp only [beq_true, beq_false, beq_iff_eq, beq_eq_false_iff_ne, ne_eq, decide_eq_decide, Bool.not_eq_true, Bool.not_eq_eq_eq_not, Bool.not_true, Bool.not_false, decide_eq_true_eq, decide_eq_false_iff_not, Bool.not_eq_true', Bool.not_eq_false', gt_iff_lt, ge_iff_le, Int.not_lt, Int.not_le, if01, Bool.false_eq_true, Bool.true_eq_false] at hb3
            refine AOps.set rfl rfl (xMove rfl rfl rfl) ?_
            refine AOps.set rfl rfl (xMove rfl rfl rfl) ?_
            refine AOps.set rfl rfl (xBin rfl rfl rfl rfl (bAddK (by first | exact IntWalk.i64_in _ (by omega) | exact rfl))) ?_
            refine AOps.set rfl rfl (xBin rfl rfl rfl rfl bLss) ?_
            refine AOps.set rfl rfl (xPickT rfl rfl rfl rfl rfl) ?_
            refine AOps.done ?_
            refine AW.condB rfl (fun hc => ?_) (fun hc => ?_)
            · try simp only [beq_true, beq_false, beq_iff_eq, beq_eq_false_iff_ne, ne_eq, decide_eq_decide, Bool.not_eq_true, Bool.not_eq_eq_eq_not, Bool.not_true, Bool.not_false, decide_eq_true_eq, decide_eq_false_iff_not, Bool.not_eq_true', Bool.not_eq_false', gt_iff_lt, ge_iff_le, Int.not_lt, Int.not_le, if01, Bool.false_eq_true, Bool.true_eq_false] at hc
              refine AW.region rfl ?_
              refine AOps.set rfl rfl (xMove rfl rfl rfl) ?_
              refine AOps.set rfl rfl (xBin rfl rfl rfl rfl (bAddK (by first | exact IntWalk.i64_in _ (by omega) | exact rfl))) ?_
              refine AOps.set rfl rfl (xAssign rfl rfl rfl) ?_
              refine AOps.done ?_
              refine AW.region rfl ?_
              refine AOps.set rfl rfl (xMove rfl rfl rfl) ?_
              refine AOps.set rfl rfl (xBin rfl rfl rfl rfl (bAddK (by first | exact IntWalk.i64_in _ (by omega) | exact rfl))) ?_
              refine AOps.set rfl rfl (xAssign rfl rfl rfl) ?_
              refine AOps.done ?_
              try dsimp only [AEx.then]
              exact ⟨i + 1, by omega, by omega, .sub ⟨(by first | rfl | (refine congrArg (fun z => some (Value.int .i64 z)) ?_; (repeat' split) <;> omega)), (by first | rfl | (refine congrArg (fun z => some (Value.int .i64 z)) ?_; (repeat' split) <;> omega)), rfl, rfl, rfl, trivial⟩⟩
            · try simp only [beq_true, beq_false, beq_iff_eq, beq_eq_false_iff_ne, ne_eq, decide_eq_decide, Bool.not_eq_true, Bool.not_eq_eq_eq_not, Bool.not_true, Bool.not_false, decide_eq_true_eq, decide_eq_false_iff_not, Bool.not_eq_true', Bool.not_eq_false', gt_iff_lt, ge_iff_le, Int.not_lt, Int.not_le, if01, Bool.false_eq_true, Bool.true_eq_false] at hc
              refine AW.skip ?_
              refine AW.region rfl ?_
              refine AOps.set rfl rfl (xMove rfl rfl rfl) ?_
              refine AOps.set rfl rfl (xBin rfl rfl rfl rfl (bAddK (by first | exact IntWalk.i64_in _ (by omega) | exact rfl))) ?_
              refine AOps.set rfl rfl (xAssign rfl rfl rfl) ?_
              refine AOps.done ?_
              try dsimp only [AEx.then]
              exact ⟨i + 1, by omega, by omega, .sub ⟨(by first | rfl | (refine congrArg (fun z => some (Value.int .i64 z)) ?_; (repeat' split) <;> omega)), (by first | rfl | (refine congrArg (fun z => some (Value.int .i64 z)) ?_; (repeat' split) <;> omega)), rfl, rfl, rfl, trivial⟩⟩
          · try simp only [beq_true, beq_false, beq_iff_eq, beq_eq_false_iff_ne, ne_eq, decide_eq_decide, Bool.not_eq_true, Bool.not_eq_eq_eq_not, Bool.not_true, Bool.not_false, decide_eq_true_eq, decide_eq_false_iff_not, Bool.not_eq_true', Bool.not_eq_false', gt_iff_lt, ge_iff_le, Int.not_lt, Int.not_le, if01, Bool.false_eq_true, Bool.true_eq_false] at hb3
            refine AOps.offS rfl rfl ?_
            refine AOps.offS rfl rfl ?_
            refine AOps.offS rfl rfl ?_
            refine AOps.offS rfl rfl ?_
            refine AOps.set rfl rfl (xPickF rfl rfl rfl rfl rfl) ?_
            refine AOps.done ?_
            refine AW.condF rfl ?_
            refine AW.skip ?_
            refine AW.region rfl ?_
            refine AOps.set rfl rfl (xMove rfl rfl rfl) ?_
            refine AOps.set rfl rfl (xBin rfl rfl rfl rfl (bAddK (by first | exact IntWalk.i64_in _ (by omega) | exact rfl))) ?_
            refine AOps.set rfl rfl (xAssign rfl rfl rfl) ?_
            refine AOps.done ?_
            try dsimp only [AEx.then]
            exact ⟨i + 1, by omega, by omega, .sub ⟨(by first | rfl | (refine congrArg (fun z => some (Value.int .i64 z)) ?_; (repeat' split) <;> omega)), (by first | rfl | (refine congrArg (fun z => some (Value.int .i64 z)) ?_; (repeat' split) <;> omega)), rfl, rfl, rfl, trivial⟩⟩
        · try simp only [beq_true, beq_false, beq_iff_eq, beq_eq_false_iff_ne, ne_eq, decide_eq_decide, Bool.not_eq_true, Bool.not_eq_eq_eq_not, Bool.not_true, Bool.not_false, decide_eq_true_eq, decide_eq_false_iff_not, Bool.not_eq_true', Bool.not_eq_false', gt_iff_lt, ge_iff_le, Int.not_lt, Int.not_le, if01, Bool.false_eq_true, Bool.true_eq_false] at hc
          refine AW.exit ?_
          refine AW.seq ?_
          refine AW.region rfl ?_
          refine AOps.set rfl rfl (xAssign rfl rfl rfl) ?_
          refine AOps.done ?_
          refine AW.seq ?_
          refine AW.seq ?_
          refine AW.region rfl ?_
          refine AOps.set rfl rfl (xFieldAddr0 rfl rfl rfl rfl rfl rfl rfl) ?_
          refine AOps.set rfl rfl (xLoad rfl rfl rfl rfl (by first | exact read_own rfl rfl | fail)) ?_
          refine AOps.set rfl rfl (xMove rfl rfl rfl) ?_
          refine AOps.set rfl rfl (xBin rfl rfl rfl rfl (bAddK (by first | exact IntWalk.i64_in _ (by omega) | exact rfl))) ?_
          refine AOps.set rfl rfl (xBin rfl rfl rfl rfl bGeq) ?_
          refine AOps.setB rfl rfl (xMove rfl rfl rfl) (fun hb5 => ?_) (fun hb5 => ?_)
          · try simp only [beq_true, beq_false, beq_iff_eq, beq_eq_false_iff_ne, ne_eq, decide_eq_decide, Bool.not_eq_true, Bool.not_eq_eq_eq_not, Bool.not_true, Bool.not_false, decide_eq_true_eq, decide_eq_false_iff_not, Bool.not_eq_true', Bool.not_eq_false', gt_iff_lt, ge_iff_le, Int.not_lt, Int.not_le, if01, Bool.false_eq_true, Bool.true_eq_false] at hb5
            refine AOps.set rfl rfl (xFieldAddr0 rfl rfl rfl rfl rfl rfl rfl) ?_
            refine AOps.set rfl rfl (xLoad rfl rfl rfl rfl (by first | exact read_own rfl rfl | fail)) ?_
            refine AOps.set rfl rfl (xMove rfl rfl rfl) ?_
            refine AOps.set rfl rfl (xBin rfl rfl rfl rfl (bAddK (by first | exact IntWalk.i64_in _ (by omega) | exact rfl))) ?_
            refine AOps.set rfl rfl (xBin rfl rfl rfl rfl bLeq) ?_
            refine AOps.set rfl rfl (xPickT rfl rfl rfl rfl rfl) ?_
            refine AOps.done ?_
            refine AW.condB rfl (fun hc => ?_) (fun hc => ?_)
            · try simp only [beq_true, beq_false, beq_iff_eq, beq_eq_false_iff_ne, ne_eq, decide_eq_decide, Bool.not_eq_true, Bool.not_eq_eq_eq_not, Bool.not_true, Bool.not_false, decide_eq_true_eq, decide_eq_false_iff_not, Bool.not_eq_true', Bool.not_eq_false', gt_iff_lt, ge_iff_le, Int.not_lt, Int.not_le, if01, Bool.false_eq_true, Bool.true_eq_false] at hc
              refine AW.region rfl ?_
              refine AOps.set rfl rfl (xAssign rfl rfl rfl) ?_
              refine AOps.done ?_
              refine AW.seq ?_
              refine AW.region rfl ?_
              refine AOps.set rfl rfl (xMove rfl rfl rfl) ?_
              refine AOps.set rfl rfl (xMove rfl rfl rfl) ?_
              refine AOps.set rfl rfl (xBin rfl rfl rfl rfl bEql) ?_
              refine AOps.setB rfl rfl (xMove rfl rfl rfl) (fun hb3 => ?_) (fun hb3 => ?_)
              · try simp only [beq_true, beq_false, beq_iff_eq, beq_eq_false_iff_ne, ne_eq, decide_eq_decide, Bool.not_eq_true, Bool.not_eq_eq_eq_not, Bool.not_true, Bool.not_false, decide_eq_true_eq, decide_eq_false_iff_not, Bool.not_eq_true', Bool.not_eq_false', gt_iff_lt, ge_iff_le, Int.not_lt, Int.not_le, if01, Bool.false_eq_true, Bool.true_eq_false] at hb3
                refine AOps.set rfl rfl (xCallPure ok rfl rfl rfl rfl rfl rfl Tryd.func12 rfl rfl (c12 _)) ?_
                refine AOps.set rfl rfl (xPickT rfl rfl rfl rfl rfl) ?_
                refine AOps.set rfl rfl (xAssign rfl rfl rfl) ?_
                refine AOps.done ?_
                refine AW.ret ?_
                try dsimp only [AEx.then, AEx.inBlock, if_true]
                refine FnEnd.r1 rfl rfl rfl ?_
                first | exact ⟨rfl, _, rfl⟩ | (exfalso; simp_all; omega)
              · try simp only [beq_true, beq_false, beq_iff_eq, beq_eq_false_iff_ne, ne_eq, decide_eq_decide, Bool.not_eq_true, Bool.not_eq_eq_eq_not, Bool.not_true, Bool.not_false, decide_eq_true_eq, decide_eq_false_iff_not, Bool.not_eq_true', Bool.not_eq_false', gt_iff_lt, ge_iff_le, Int.not_lt, Int.not_le, if01, Bool.false_eq_true, Bool.true_eq_false] at hb3
                refine AOps.offS rfl rfl ?_
                refine AOps.set rfl rfl (xPickF rfl rfl rfl rfl rfl) ?_
                refine AOps.set rfl rfl (xAssign rfl rfl rfl) ?_
                refine AOps.done ?_
                refine AW.ret ?_
                try dsimp only [AEx.then, AEx.inBlock, if_true]
                refine FnEnd.r1 rfl rfl rfl ?_
                first | exact ⟨rfl, _, rfl⟩ | (exfalso; simp_all; omega)
            · try simp only [beq_true, beq_false, beq_iff_eq, beq_eq_false_iff_ne, ne_eq, decide_eq_decide, Bool.not_eq_true, Bool.not_eq_eq_eq_not, Bool.not_true, Bool.not_false, decide_eq_true_eq, decide_eq_false_iff_not, Bool.not_eq_true', Bool.not_eq_false', gt_iff_lt, ge_iff_le, Int.not_lt, Int.not_le, if01, Bool.false_eq_true, Bool.true_eq_false] at hc
              refine AW.skip ?_
              refine AW.seq ?_
              refine AW.region rfl ?_
              refine AOps.set rfl rfl (xMove rfl rfl rfl) ?_
              refine AOps.set rfl rfl (xMove rfl rfl rfl) ?_
              refine AOps.set rfl rfl (xBin rfl rfl rfl rfl bEql) ?_
              refine AOps.setB rfl rfl (xMove rfl rfl rfl) (fun hb3 => ?_) (fun hb3 => ?_)
              · try simp only [beq_true, beq_false, beq_iff_eq, beq_eq_false_iff_ne, ne_eq, decide_eq_decide, Bool.not_eq_true, Bool.not_eq_eq_eq_not, Bool.not_true, Bool.not_false, decide_eq_true_eq, decide_eq_false_iff_not, Bool.not_eq_true', Bool.not_eq_false', gt_iff_lt, ge_iff_le, Int.not_lt, Int.not_le, if01, Bool.false_eq_true, Bool.true_eq_false] at hb3
                refine AOps.set rfl rfl (xCallPure ok rfl rfl rfl rfl rfl rfl Tryd.func12 rfl rfl (c12 _)) ?_
                refine AOps.set rfl rfl (xPickT rfl rfl rfl rfl rfl) ?_
                refine AOps.set rfl rfl (xAssign rfl rfl rfl) ?_
                refine AOps.done ?_
                refine AW.ret ?_
                try dsimp only [AEx.then, AEx.inBlock, if_true]
                refine FnEnd.r1 rfl rfl rfl ?_
                first | exact ⟨rfl, _, rfl⟩ | (exfalso; simp_all; omega)
              · try simp only [beq_true, beq_false, beq_iff_eq, beq_eq_false_iff_ne, ne_eq, decide_eq_decide, Bool.not_eq_true, Bool.not_eq_eq_eq_not, Bool.not_true, Bool.not_false, decide_eq_true_eq, decide_eq_false_iff_not, Bool.not_eq_true', Bool.not_eq_false', gt_iff_lt, ge_iff_le, Int.not_lt, Int.not_le, if01, Bool.false_eq_true, Bool.true_eq_false] at hb3
                refine AOps.offS rfl rfl ?_
                refine AOps.set rfl rfl (xPickF rfl rfl rfl rfl rfl) ?_
                refine AOps.set rfl rfl (xAssign rfl rfl rfl) ?_
                refine AOps.done ?_
                refine AW.ret ?_
                try dsimp only [AEx.then, AEx.inBlock, if_true]
                refine FnEnd.r1 rfl rfl rfl ?_
                first | exact ⟨rfl, _, rfl⟩ | (exfalso; simp_all; omega)
          · try simp only [beq_true, beq_false, beq_iff_eq, beq_eq_false_iff_ne, ne_eq, decide_eq_decide, Bool.not_eq_true, Bool.not_eq_eq_eq_not, Bool.not_true, Bool.not_false, decide_eq_true_eq, decide_eq_false_iff_not, Bool.not_eq_true', Bool.not_eq_false', gt_iff_lt, ge_iff_le, Int.not_lt, Int.not_le, if01, Bool.false_eq_true, Bool.true_eq_false] at hb5
            refine AOps.offS rfl rfl ?_
            refine AOps.offS rfl rfl ?_
            refine AOps.offS rfl rfl ?_
            refine AOps.offS rfl rfl ?_
            refine AOps.offS rfl rfl ?_
            refine AOps.set rfl rfl (xPickF rfl rfl rfl rfl rfl) ?_
            refine AOps.done ?_
            refine AW.condF rfl ?_
            refine AW.skip ?_
            refine AW.seq ?_
            refine AW.region rfl ?_
            refine AOps.set rfl rfl (xMove rfl rfl rfl) ?_
            refine AOps.set rfl rfl (xMove rfl rfl rfl) ?_
            refine AOps.set rfl rfl (xBin rfl rfl rfl rfl bEql) ?_
            refine AOps.setB rfl rfl (xMove rfl rfl rfl) (fun hb3 => ?_) (fun hb3 => ?_)
            · try simp only [beq_true, beq_false, beq_iff_eq, beq_eq_false_iff_ne, ne_eq, decide_eq_decide, Bool.not_eq_true, Bool.not_eq_eq_eq_not, Bool.not_true, Bool.not_false, decide_eq_true_eq, decide_eq_false_iff_not, Bool.not_eq_true', Bool.not_eq_false', gt_iff_lt, ge_iff_le, Int.not_lt, Int.not_le, if01, Bool.false_eq_true, Bool.true_eq_false] at hb3
              refine AOps.set rfl rfl (xCallPure ok rfl rfl rfl rfl rfl rfl Tryd.func12 rfl rfl (c12 _)) ?_
              refine AOps.set rfl rfl (xPickT rfl rfl rfl rfl rfl) ?_
              refine AOps.set rfl rfl (xAssign rfl rfl rfl) ?_
              refine AOps.done ?_
              refine AW.ret ?_
              try dsimp only [AEx.then, AEx.inBlock, if_true]
              refine FnEnd.r1 rfl rfl rfl ?_
              first | exact ⟨rfl, _, rfl⟩ | (exfalso; simp_all; omega)
            · try simp only [beq_true, beq_false, beq_iff_eq, beq_eq_false_iff_ne, ne_eq, decide_eq_decide, Bool.not_eq_true, Bool.not_eq_eq_eq_not, Bool.not_true, Bool.not_false, decide_eq_true_eq, decide_eq_false_iff_not, Bool.not_eq_true', Bool.not_eq_false', gt_iff_lt, ge_iff_le, Int.not_lt, Int.not_le, if01, Bool.false_eq_true, Bool.true_eq_false] at hb3
              refine AOps.offS rfl rfl ?_
              refine AOps.set rfl rfl (xPickF rfl rfl rfl rfl rfl) ?_
              refine AOps.set rfl rfl (xAssign rfl rfl rfl) ?_
              refine AOps.done ?_
              refine AW.ret ?_
              try dsimp only [AEx.then, AEx.inBlock, if_true]
              refine FnEnd.r1 rfl rfl rfl ?_
              first | exact ⟨rfl, _, rfl⟩ | (exfalso; simp_all; omega)
end Go.Proofs.YtkiognclopmciaaDoor
