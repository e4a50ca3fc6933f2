/- The needles' functions. -/
import Derived.Test.YtkiognclopmciaaDoorNeedlesFns
import Derived.Test.YtkiognclopmciaaDoorProg
import Derived.KernelRfl
namespace Go.Proofs.YtkiognclopmciaaDoor
open Go Go.RowKit Go.Am
set_option linter.unusedSimpArgs false
-- gansey/ganseylaw01.NeedlesOrder
theorem c8 (a b k : Int) (h : AHeap) (h1 : 0 ≤ a ∧ a < 256) (h2 : 0 ≤ b ∧ b < 256) (h3 : 0 ≤ k ∧ k < 256) : ACalls Tryd.prog 8 [.int .u8 a, .int .u8 b, .int .u8 k] h (Pure (.bool true) h) := by
  refine ACalls.pureOf (by first | exact .bool _ | exact .int _ _ | exact .string _) (ACalls.ofBody Tryd.func8 rfl (Nat.le_of_ble_eq_true rfl) ?_)
  refine AW.seq ?_
  refine AW.region rfl ?_
  refine AOps.one rfl (xAssign rfl rfl rfl) ?_
  refine AOps.done ?_
  refine AW.seq ?_
  refine AW.region rfl ?_
  refine AOps.one rfl (xMove rfl rfl rfl) ?_
  refine AOps.one rfl (xBin rfl rfl rfl rfl (bRemN (by omega))) ?_
  refine AOps.one rfl (xConvK rfl rfl rfl rfl rfl (by first | exact IntWalk.i64_in _ (by omega) | exact rfl)) ?_
  refine AOps.one rfl (xBin rfl rfl rfl rfl (bSubK (by first | exact IntWalk.i64_in _ (by omega) | exact rfl))) ?_
  refine AOps.one rfl (xAssign rfl rfl rfl) ?_
  refine AOps.done ?_
  refine AW.seq ?_
  refine AW.region rfl ?_
  refine AOps.one rfl (xMove rfl rfl rfl) ?_
  refine AOps.one rfl (xCallPure ok rfl rfl rfl rfl rfl rfl Tryd.func15 rfl rfl (c15 _ _ (by omega))) ?_
  refine AOps.one rfl (xMove rfl rfl rfl) ?_
  refine AOps.one rfl (xCallPure ok rfl rfl rfl rfl rfl rfl Tryd.func15 rfl rfl (c15 _ _ (by omega))) ?_
  refine AOps.one rfl (xAlloc (cs := [.int .u8 0, .int .i64 0]) rfl rfl (by kernel_rfl) rfl (by first | (dsimp only [List.set, List.cons_append, List.nil_append]; exact rfl) | exact rfl)) ?_
  refine AOps.one rfl (xAlloc (cs := [.int .u8 0, .int .i64 0]) rfl rfl (by kernel_rfl) rfl (by first | (dsimp only [List.set, List.cons_append, List.nil_append]; exact rfl) | exact rfl)) ?_
  refine AOps.one rfl (xStoreAll rfl rfl rfl rfl rfl rfl rfl rfl (by first | (dsimp only [List.set, List.cons_append, List.nil_append]; exact rfl) | exact rfl)) ?_
  refine AOps.one rfl (xStoreAll rfl rfl rfl rfl rfl rfl rfl rfl (by first | (dsimp only [List.set, List.cons_append, List.nil_append]; exact rfl) | exact rfl)) ?_
  refine AOps.done ?_
  refine AW.seq ?_
  refine AW.regionDraw ok (fun _ => false) [] (by kernel_rfl) (by kernel_rfl) rfl ?_
  refine ADr.one rfl (xFieldAddr0 rfl rfl rfl rfl rfl rfl rfl) ?_
  refine ADr.one rfl (xLoad rfl rfl rfl rfl (by first | exact read_own rfl rfl | fail)) ?_
  refine ADr.one rfl (xFieldAddr0 rfl rfl rfl rfl rfl rfl rfl) ?_
  refine ADr.one rfl (xLoad rfl rfl rfl rfl (by first | exact read_own rfl rfl | fail)) ?_
  refine ADr.one rfl (xAssign rfl rfl rfl) ?_
  refine ADr.one rfl (xAssign rfl rfl rfl) ?_
  refine ADr.done trivial ?_
  refine AW.seq ?_
  refine AW.seq ?_
  refine AW.region rfl ?_
  refine AOps.one rfl (xFieldAddr0 rfl rfl rfl rfl rfl rfl rfl) ?_
  refine AOps.one rfl (xLoad rfl rfl rfl rfl (by first | exact read_own rfl rfl | fail)) ?_
  refine AOps.one rfl (xBin rfl rfl rfl rfl bEql) ?_
  refine AOps.done ?_
  refine AW.condB rfl (fun hc => ?_) (fun hc => ?_)
  · try simp only [beq_true, beq_false, beq_iff_eq, beq_eq_false_iff_ne, ne_eq, decide_eq_decide, Bool.not_eq_true, Bool.not_eq_eq_eq_not, Bool.not_true, Bool.not_false, decide_eq_true_eq, decide_eq_false_iff_not, Bool.not_eq_true', Bool.not_eq_false', gt_iff_lt, ge_iff_le, Int.not_lt, Int.not_le, if01, Bool.false_eq_true, Bool.true_eq_false] at hc
    refine AW.region rfl ?_
    refine AOps.one rfl (xMove rfl rfl rfl) ?_
    refine AOps.one rfl (xMove rfl rfl rfl) ?_
    refine AOps.one rfl (xBin rfl rfl rfl rfl (bAddK (by first | exact IntWalk.i64_in _ (by omega) | exact rfl))) ?_
    refine AOps.one rfl (xAssign rfl rfl rfl) ?_
    refine AOps.done ?_
    refine AW.seq ?_
    refine AW.seq ?_
    refine AW.region rfl ?_
    refine AOps.one rfl (xFieldAddr0 rfl rfl rfl rfl rfl rfl rfl) ?_
    refine AOps.one rfl (xLoad rfl rfl rfl rfl (by first | exact read_own rfl rfl | fail)) ?_
    refine AOps.one rfl (xBin rfl rfl rfl rfl bEql) ?_
    refine AOps.done ?_
    refine AW.condB rfl (fun hc => ?_) (fun hc => ?_)
    · try simp only [beq_true, beq_false, beq_iff_eq, beq_eq_false_iff_ne, ne_eq, decide_eq_decide, Bool.not_eq_true, Bool.not_eq_eq_eq_not, Bool.not_true, Bool.not_false, decide_eq_true_eq, decide_eq_false_iff_not, Bool.not_eq_true', Bool.not_eq_false', gt_iff_lt, ge_iff_le, Int.not_lt, Int.not_le, if01, Bool.false_eq_true, Bool.true_eq_false] at hc
      refine AW.region rfl ?_
      refine AOps.one rfl (xMove rfl rfl rfl) ?_
      refine AOps.one rfl (xMove rfl rfl rfl) ?_
      refine AOps.one rfl (xBin rfl rfl rfl rfl (bAddK (by first | exact IntWalk.i64_in _ (by omega) | exact rfl))) ?_
      refine AOps.one rfl (xAssign rfl rfl rfl) ?_
      refine AOps.done ?_
      refine AW.seq ?_
      refine AW.region rfl ?_
      refine AOps.one rfl (xMove rfl rfl rfl) ?_
      refine AOps.one rfl (xMove rfl rfl rfl) ?_
      refine AOps.one rfl (xBin rfl rfl rfl rfl bLss) ?_
      refine AOps.oneB rfl (xMove rfl rfl rfl) (fun hb3 => ?_) (fun hb3 => ?_)
      · try simp only [beq_true, beq_false, beq_iff_eq, beq_eq_false_iff_ne, ne_eq, decide_eq_decide, Bool.not_eq_true, Bool.not_eq_eq_eq_not, Bool.not_true, Bool.not_false, decide_eq_true_eq, decide_eq_false_iff_not, Bool.not_eq_true', Bool.not_eq_false', gt_iff_lt, ge_iff_le, Int.not_lt, Int.not_le, if01, Bool.false_eq_true, Bool.true_eq_false] at hb3
        refine AOps.off rfl ?_
        refine AOps.off rfl ?_
        refine AOps.off rfl ?_
        refine AOps.off rfl ?_
        refine AOps.off rfl ?_
        refine AOps.off rfl ?_
        refine AOps.off rfl ?_
        refine AOps.off rfl ?_
        refine AOps.off rfl ?_
        refine AOps.off rfl ?_
        refine AOps.one rfl (xPickT rfl rfl rfl rfl rfl) ?_
        refine AOps.one rfl (xAssign rfl rfl rfl) ?_
        refine AOps.done ?_
        refine AW.seq ?_
        refine AW.regionDraw ok (fun _ => false) [] (by kernel_rfl) (by kernel_rfl) rfl ?_
        refine ADr.one rfl (xLoadAgg rfl rfl rfl rfl rfl (by first | exact readN_all rfl rfl | fail)) ?_
        refine ADr.one rfl (xMove rfl rfl rfl) ?_
        refine ADr.one rfl (xCallPure ok rfl rfl rfl rfl rfl rfl Tryd.func11 rfl rfl (c11v _ _ _ _ (by omega))) ?_
        refine ADr.one rfl (xLoadAgg rfl rfl rfl rfl rfl (by first | exact readN_all rfl rfl | fail)) ?_
        refine ADr.one rfl (xMove rfl rfl rfl) ?_
        refine ADr.one rfl (xCallPure ok rfl rfl rfl rfl rfl rfl Tryd.func11 rfl rfl (c11v _ _ _ _ (by omega))) ?_
        refine ADr.one rfl (xBin rfl rfl rfl rfl bLss) ?_
        refine ADr.one rfl (xMove rfl rfl rfl) ?_
        refine ADr.one rfl (xBin rfl rfl rfl rfl (bEqlB rfl)) ?_
        refine ADr.oneB rfl (xMove rfl rfl rfl) (fun hb9 => ?_) (fun hb9 => ?_)
        · try simp only [beq_true, beq_false, beq_iff_eq, beq_eq_false_iff_ne, ne_eq, decide_eq_decide, Bool.not_eq_true, Bool.not_eq_eq_eq_not, Bool.not_true, Bool.not_false, decide_eq_true_eq, decide_eq_false_iff_not, Bool.not_eq_true', Bool.not_eq_false', gt_iff_lt, ge_iff_le, Int.not_lt, Int.not_le, if01, Bool.false_eq_true, Bool.true_eq_false] at hb9
          refine ADr.one rfl (xCallPure ok rfl rfl rfl rfl rfl rfl Tryd.func12 rfl rfl (c12 _)) ?_
          refine ADr.one rfl (xPickT rfl rfl rfl rfl rfl) ?_
          refine ADr.one rfl (xAssign rfl rfl rfl) ?_
          refine ADr.done trivial ?_
          refine AW.ret ?_
          try dsimp only [AEx.then, AEx.inBlock, if_true]
          refine FnEnd.r1 rfl rfl rfl ?_
          first | exact ⟨rfl, _, rfl⟩ | (exfalso; (repeat' split at hb9) <;> omega)
        · try simp only [beq_true, beq_false, beq_iff_eq, beq_eq_false_iff_ne, ne_eq, decide_eq_decide, Bool.not_eq_true, Bool.not_eq_eq_eq_not, Bool.not_true, Bool.not_false, decide_eq_true_eq, decide_eq_false_iff_not, Bool.not_eq_true', Bool.not_eq_false', gt_iff_lt, ge_iff_le, Int.not_lt, Int.not_le, if01, Bool.false_eq_true, Bool.true_eq_false] at hb9
          refine ADr.off rfl ?_
          refine ADr.one rfl (xPickF rfl rfl rfl rfl rfl) ?_
          refine ADr.one rfl (xAssign rfl rfl rfl) ?_
          refine ADr.done trivial ?_
          refine AW.ret ?_
          try dsimp only [AEx.then, AEx.inBlock, if_true]
          refine FnEnd.r1 rfl rfl rfl ?_
          first | exact ⟨rfl, _, rfl⟩ | (exfalso; (repeat' split at hb9) <;> omega)
      · try simp only [beq_true, beq_false, beq_iff_eq, beq_eq_false_iff_ne, ne_eq, decide_eq_decide, Bool.not_eq_true, Bool.not_eq_eq_eq_not, Bool.not_true, Bool.not_false, decide_eq_true_eq, decide_eq_false_iff_not, Bool.not_eq_true', Bool.not_eq_false', gt_iff_lt, ge_iff_le, Int.not_lt, Int.not_le, if01, Bool.false_eq_true, Bool.true_eq_false] at hb3
        refine AOps.one rfl (xMove rfl rfl rfl) ?_
        refine AOps.one rfl (xMove rfl rfl rfl) ?_
        refine AOps.one rfl (xBin rfl rfl rfl rfl bEql) ?_
        refine AOps.oneB rfl (xMove rfl rfl rfl) (fun hb7 => ?_) (fun hb7 => ?_)
        · try simp only [beq_true, beq_false, beq_iff_eq, beq_eq_false_iff_ne, ne_eq, decide_eq_decide, Bool.not_eq_true, Bool.not_eq_eq_eq_not, Bool.not_true, Bool.not_false, decide_eq_true_eq, decide_eq_false_iff_not, Bool.not_eq_true', Bool.not_eq_false', gt_iff_lt, ge_iff_le, Int.not_lt, Int.not_le, if01, Bool.false_eq_true, Bool.true_eq_false] at hb7
          refine AOps.one rfl (xFieldAddr0 rfl rfl rfl rfl rfl rfl rfl) ?_
          refine AOps.one rfl (xLoad rfl rfl rfl rfl (by first | exact read_own rfl rfl | fail)) ?_
          refine AOps.one rfl (xFieldAddr0 rfl rfl rfl rfl rfl rfl rfl) ?_
          refine AOps.one rfl (xLoad rfl rfl rfl rfl (by first | exact read_own rfl rfl | fail)) ?_
          refine AOps.one rfl (xBin rfl rfl rfl rfl bGtr) ?_
          refine AOps.one rfl (xPickT rfl rfl rfl rfl rfl) ?_
          refine AOps.one rfl (xPickF rfl rfl rfl rfl rfl) ?_
          refine AOps.one rfl (xAssign rfl rfl rfl) ?_
          refine AOps.done ?_
          refine AW.seq ?_
          refine AW.regionDraw ok (fun _ => false) [] (by kernel_rfl) (by kernel_rfl) rfl ?_
          refine ADr.one rfl (xLoadAgg rfl rfl rfl rfl rfl (by first | exact readN_all rfl rfl | fail)) ?_
          refine ADr.one rfl (xMove rfl rfl rfl) ?_
          refine ADr.one rfl (xCallPure ok rfl rfl rfl rfl rfl rfl Tryd.func11 rfl rfl (c11v _ _ _ _ (by omega))) ?_
          refine ADr.one rfl (xLoadAgg rfl rfl rfl rfl rfl (by first | exact readN_all rfl rfl | fail)) ?_
          refine ADr.one rfl (xMove rfl rfl rfl) ?_
          refine ADr.one rfl (xCallPure ok rfl rfl rfl rfl rfl rfl Tryd.func11 rfl rfl (c11v _ _ _ _ (by omega))) ?_
          refine ADr.one rfl (xBin rfl rfl rfl rfl bLss) ?_
          refine ADr.one rfl (xMove rfl rfl rfl) ?_
          refine ADr.one rfl (xBin rfl rfl rfl rfl (bEqlB rfl)) ?_
          refine ADr.oneB rfl (xMove rfl rfl rfl) (fun hb9 => ?_) (fun hb9 => ?_)
          · try simp only [beq_true, beq_false, beq_iff_eq, beq_eq_false_iff_ne, ne_eq, decide_eq_decide, Bool.not_eq_true, Bool.not_eq_eq_eq_not, Bool.not_true, Bool.not_false, decide_eq_true_eq, decide_eq_false_iff_not, Bool.not_eq_true', Bool.not_eq_false', gt_iff_lt, ge_iff_le, Int.not_lt, Int.not_le, if01, Bool.false_eq_true, Bool.true_eq_false] at hb9
            refine ADr.one rfl (xCallPure ok rfl rfl rfl rfl rfl rfl Tryd.func12 rfl rfl (c12 _)) ?_
            refine ADr.one rfl (xPickT rfl rfl rfl rfl rfl) ?_
            refine ADr.one rfl (xAssign rfl rfl rfl) ?_
            refine ADr.done trivial ?_
            refine AW.ret ?_
            try dsimp only [AEx.then, AEx.inBlock, if_true]
            refine FnEnd.r1 rfl rfl rfl ?_
            first | exact ⟨rfl, _, rfl⟩ | (exfalso; (repeat' split at hb9) <;> omega)
          · try simp only [beq_true, beq_false, beq_iff_eq, beq_eq_false_iff_ne, ne_eq, decide_eq_decide, Bool.not_eq_true, Bool.not_eq_eq_eq_not, Bool.not_true, Bool.not_false, decide_eq_true_eq, decide_eq_false_iff_not, Bool.not_eq_true', Bool.not_eq_false', gt_iff_lt, ge_iff_le, Int.not_lt, Int.not_le, if01, Bool.false_eq_true, Bool.true_eq_false] at hb9
            refine ADr.off rfl ?_
            refine ADr.one rfl (xPickF rfl rfl rfl rfl rfl) ?_
            refine ADr.one rfl (xAssign rfl rfl rfl) ?_
            refine ADr.done trivial ?_
            refine AW.ret ?_
            try dsimp only [AEx.then, AEx.inBlock, if_true]
            refine FnEnd.r1 rfl rfl rfl ?_
            first | exact ⟨rfl, _, rfl⟩ | (exfalso; (repeat' split at hb9) <;> omega)
        · try simp only [beq_true, beq_false, beq_iff_eq, beq_eq_false_iff_ne, ne_eq, decide_eq_decide, Bool.not_eq_true, Bool.not_eq_eq_eq_not, Bool.not_true, Bool.not_false, decide_eq_true_eq, decide_eq_false_iff_not, Bool.not_eq_true', Bool.not_eq_false', gt_iff_lt, ge_iff_le, Int.not_lt, Int.not_le, if01, Bool.false_eq_true, Bool.true_eq_false] at hb7
          refine AOps.off rfl ?_
          refine AOps.off rfl ?_
          refine AOps.off rfl ?_
          refine AOps.off rfl ?_
          refine AOps.off rfl ?_
          refine AOps.one rfl (xPickF rfl rfl rfl rfl rfl) ?_
          refine AOps.one rfl (xPickF rfl rfl rfl rfl rfl) ?_
          refine AOps.one rfl (xAssign rfl rfl rfl) ?_
          refine AOps.done ?_
          refine AW.seq ?_
          refine AW.regionDraw ok (fun _ => false) [] (by kernel_rfl) (by kernel_rfl) rfl ?_
          refine ADr.one rfl (xLoadAgg rfl rfl rfl rfl rfl (by first | exact readN_all rfl rfl | fail)) ?_
          refine ADr.one rfl (xMove rfl rfl rfl) ?_
          refine ADr.one rfl (xCallPure ok rfl rfl rfl rfl rfl rfl Tryd.func11 rfl rfl (c11v _ _ _ _ (by omega))) ?_
          refine ADr.one rfl (xLoadAgg rfl rfl rfl rfl rfl (by first | exact readN_all rfl rfl | fail)) ?_
          refine ADr.one rfl (xMove rfl rfl rfl) ?_
          refine ADr.one rfl (xCallPure ok rfl rfl rfl rfl rfl rfl Tryd.func11 rfl rfl (c11v _ _ _ _ (by omega))) ?_
          refine ADr.one rfl (xBin rfl rfl rfl rfl bLss) ?_
          refine ADr.one rfl (xMove rfl rfl rfl) ?_
          refine ADr.one rfl (xBin rfl rfl rfl rfl (bEqlB rfl)) ?_
          refine ADr.oneB rfl (xMove rfl rfl rfl) (fun hb9 => ?_) (fun hb9 => ?_)
          · try simp only [beq_true, beq_false, beq_iff_eq, beq_eq_false_iff_ne, ne_eq, decide_eq_decide, Bool.not_eq_true, Bool.not_eq_eq_eq_not, Bool.not_true, Bool.not_false, decide_eq_true_eq, decide_eq_false_iff_not, Bool.not_eq_true', Bool.not_eq_false', gt_iff_lt, ge_iff_le, Int.not_lt, Int.not_le, if01, Bool.false_eq_true, Bool.true_eq_false] at hb9
            refine ADr.one rfl (xCallPure ok rfl rfl rfl rfl rfl rfl Tryd.func12 rfl rfl (c12 _)) ?_
            refine ADr.one rfl (xPickT rfl rfl rfl rfl rfl) ?_
            refine ADr.one rfl (xAssign rfl rfl rfl) ?_
            refine ADr.done trivial ?_
            refine AW.ret ?_
            try dsimp only [AEx.then, AEx.inBlock, if_true]
            refine FnEnd.r1 rfl rfl rfl ?_
            first | exact ⟨rfl, _, rfl⟩ | (exfalso; (repeat' split at hb9) <;> omega)
          · try simp only [beq_true, beq_false, beq_iff_eq, beq_eq_false_iff_ne, ne_eq, decide_eq_decide, Bool.not_eq_true, Bool.not_eq_eq_eq_not, Bool.not_true, Bool.not_false, decide_eq_true_eq, decide_eq_false_iff_not, Bool.not_eq_true', Bool.not_eq_false', gt_iff_lt, ge_iff_le, Int.not_lt, Int.not_le, if01, Bool.false_eq_true, Bool.true_eq_false] at hb9
            refine ADr.off rfl ?_
            refine ADr.one rfl (xPickF rfl rfl rfl rfl rfl) ?_
            refine ADr.one rfl (xAssign rfl rfl rfl) ?_
            refine ADr.done trivial ?_
            refine AW.ret ?_
            try dsimp only [AEx.then, AEx.inBlock, if_true]
            refine FnEnd.r1 rfl rfl rfl ?_
            first | exact ⟨rfl, _, rfl⟩ | (exfalso; (repeat' split at hb9) <;> omega)
    · try simp only [beq_true, beq_false, beq_iff_eq, beq_eq_false_iff_ne, ne_eq, decide_eq_decide, Bool.not_eq_true, Bool.not_eq_eq_eq_not, Bool.not_true, Bool.not_false, decide_eq_true_eq, decide_eq_false_iff_not, Bool.not_eq_true', Bool.not_eq_false', gt_iff_lt, ge_iff_le, Int.not_lt, Int.not_le, if01, Bool.false_eq_true, Bool.true_eq_false] at hc
      refine AW.skip ?_
      refine AW.seq ?_
      refine AW.region rfl ?_
      refine AOps.one rfl (xMove rfl rfl rfl) ?_
      refine AOps.one rfl (xMove rfl rfl rfl) ?_
      refine AOps.one rfl (xBin rfl rfl rfl rfl bLss) ?_
      refine AOps.oneB rfl (xMove rfl rfl rfl) (fun hb3 => ?_) (fun hb3 => ?_)
      · try simp only [beq_true, beq_false, beq_iff_eq, beq_eq_false_iff_ne, ne_eq, decide_eq_decide, Bool.not_eq_true, Bool.not_eq_eq_eq_not, Bool.not_true, Bool.not_false, decide_eq_true_eq, decide_eq_false_iff_not, Bool.not_eq_true', Bool.not_eq_false', gt_iff_lt, ge_iff_le, Int.not_lt, Int.not_le, if01, Bool.false_eq_true, Bool.true_eq_false] at hb3
        refine AOps.off rfl ?_
        refine AOps.off rfl ?_
        refine AOps.off rfl ?_
        refine AOps.off rfl ?_
        refine AOps.off rfl ?_
        refine AOps.off rfl ?_
        refine AOps.off rfl ?_
        refine AOps.off rfl ?_
        refine AOps.off rfl ?_
        refine AOps.off rfl ?_
        refine AOps.one rfl (xPickT rfl rfl rfl rfl rfl) ?_
        refine AOps.one rfl (xAssign rfl rfl rfl) ?_
        refine AOps.done ?_
        refine AW.seq ?_
        refine AW.regionDraw ok (fun _ => false) [] (by kernel_rfl) (by kernel_rfl) rfl ?_
        refine ADr.one rfl (xLoadAgg rfl rfl rfl rfl rfl (by first | exact readN_all rfl rfl | fail)) ?_
        refine ADr.one rfl (xMove rfl rfl rfl) ?_
        refine ADr.one rfl (xCallPure ok rfl rfl rfl rfl rfl rfl Tryd.func11 rfl rfl (c11v _ _ _ _ (by omega))) ?_
        refine ADr.one rfl (xLoadAgg rfl rfl rfl rfl rfl (by first | exact readN_all rfl rfl | fail)) ?_
        refine ADr.one rfl (xMove rfl rfl rfl) ?_
        refine ADr.one rfl (xCallPure ok rfl rfl rfl rfl rfl rfl Tryd.func11 rfl rfl (c11v _ _ _ _ (by omega))) ?_
        refine ADr.one rfl (xBin rfl rfl rfl rfl bLss) ?_
        refine ADr.one rfl (xMove rfl rfl rfl) ?_
        refine ADr.one rfl (xBin rfl rfl rfl rfl (bEqlB rfl)) ?_
        refine ADr.oneB rfl (xMove rfl rfl rfl) (fun hb9 => ?_) (fun hb9 => ?_)
        · try simp only [beq_true, beq_false, beq_iff_eq, beq_eq_false_iff_ne, ne_eq, decide_eq_decide, Bool.not_eq_true, Bool.not_eq_eq_eq_not, Bool.not_true, Bool.not_false, decide_eq_true_eq, decide_eq_false_iff_not, Bool.not_eq_true', Bool.not_eq_false', gt_iff_lt, ge_iff_le, Int.not_lt, Int.not_le, if01, Bool.false_eq_true, Bool.true_eq_false] at hb9
          refine ADr.one rfl (xCallPure ok rfl rfl rfl rfl rfl rfl Tryd.func12 rfl rfl (c12 _)) ?_
          refine ADr.one rfl (xPickT rfl rfl rfl rfl rfl) ?_
          refine ADr.one rfl (xAssign rfl rfl rfl) ?_
          refine ADr.done trivial ?_
          refine AW.ret ?_
          try dsimp only [AEx.then, AEx.inBlock, if_true]
          refine FnEnd.r1 rfl rfl rfl ?_
          first | exact ⟨rfl, _, rfl⟩ | (exfalso; (repeat' split at hb9) <;> omega)
        · try simp only [beq_true, beq_false, beq_iff_eq, beq_eq_false_iff_ne, ne_eq, decide_eq_decide, Bool.not_eq_true, Bool.not_eq_eq_eq_not, Bool.not_true, Bool.not_false, decide_eq_true_eq, decide_eq_false_iff_not, Bool.not_eq_true', Bool.not_eq_false', gt_iff_lt, ge_iff_le, Int.not_lt, Int.not_le, if01, Bool.false_eq_true, Bool.true_eq_false] at hb9
          refine ADr.off rfl ?_
          refine ADr.one rfl (xPickF rfl rfl rfl rfl rfl) ?_
          refine ADr.one rfl (xAssign rfl rfl rfl) ?_
          refine ADr.done trivial ?_
          refine AW.ret ?_
          try dsimp only [AEx.then, AEx.inBlock, if_true]
          refine FnEnd.r1 rfl rfl rfl ?_
          first | exact ⟨rfl, _, rfl⟩ | (exfalso; (repeat' split at hb9) <;> omega)
      · try simp only [beq_true, beq_false, beq_iff_eq, beq_eq_false_iff_ne, ne_eq, decide_eq_decide, Bool.not_eq_true, Bool.not_eq_eq_eq_not, Bool.not_true, Bool.not_false, decide_eq_true_eq, decide_eq_false_iff_not, Bool.not_eq_true', Bool.not_eq_false', gt_iff_lt, ge_iff_le, Int.not_lt, Int.not_le, if01, Bool.false_eq_true, Bool.true_eq_false] at hb3
        refine AOps.one rfl (xMove rfl rfl rfl) ?_
        refine AOps.one rfl (xMove rfl rfl rfl) ?_
        refine AOps.one rfl (xBin rfl rfl rfl rfl bEql) ?_
        refine AOps.oneB rfl (xMove rfl rfl rfl) (fun hb7 => ?_) (fun hb7 => ?_)
        · try simp only [beq_true, beq_false, beq_iff_eq, beq_eq_false_iff_ne, ne_eq, decide_eq_decide, Bool.not_eq_true, Bool.not_eq_eq_eq_not, Bool.not_true, Bool.not_false, decide_eq_true_eq, decide_eq_false_iff_not, Bool.not_eq_true', Bool.not_eq_false', gt_iff_lt, ge_iff_le, Int.not_lt, Int.not_le, if01, Bool.false_eq_true, Bool.true_eq_false] at hb7
          refine AOps.one rfl (xFieldAddr0 rfl rfl rfl rfl rfl rfl rfl) ?_
          refine AOps.one rfl (xLoad rfl rfl rfl rfl (by first | exact read_own rfl rfl | fail)) ?_
          refine AOps.one rfl (xFieldAddr0 rfl rfl rfl rfl rfl rfl rfl) ?_
          refine AOps.one rfl (xLoad rfl rfl rfl rfl (by first | exact read_own rfl rfl | fail)) ?_
          refine AOps.one rfl (xBin rfl rfl rfl rfl bGtr) ?_
          refine AOps.one rfl (xPickT rfl rfl rfl rfl rfl) ?_
          refine AOps.one rfl (xPickF rfl rfl rfl rfl rfl) ?_
          refine AOps.one rfl (xAssign rfl rfl rfl) ?_
          refine AOps.done ?_
          refine AW.seq ?_
          refine AW.regionDraw ok (fun _ => false) [] (by kernel_rfl) (by kernel_rfl) rfl ?_
          refine ADr.one rfl (xLoadAgg rfl rfl rfl rfl rfl (by first | exact readN_all rfl rfl | fail)) ?_
          refine ADr.one rfl (xMove rfl rfl rfl) ?_
          refine ADr.one rfl (xCallPure ok rfl rfl rfl rfl rfl rfl Tryd.func11 rfl rfl (c11v _ _ _ _ (by omega))) ?_
          refine ADr.one rfl (xLoadAgg rfl rfl rfl rfl rfl (by first | exact readN_all rfl rfl | fail)) ?_
          refine ADr.one rfl (xMove rfl rfl rfl) ?_
          refine ADr.one rfl (xCallPure ok rfl rfl rfl rfl rfl rfl Tryd.func11 rfl rfl (c11v _ _ _ _ (by omega))) ?_
          refine ADr.one rfl (xBin rfl rfl rfl rfl bLss) ?_
          refine ADr.one rfl (xMove rfl rfl rfl) ?_
          refine ADr.one rfl (xBin rfl rfl rfl rfl (bEqlB rfl)) ?_
          refine ADr.oneB rfl (xMove rfl rfl rfl) (fun hb9 => ?_) (fun hb9 => ?_)
          · try simp only [beq_true, beq_false, beq_iff_eq, beq_eq_false_iff_ne, ne_eq, decide_eq_decide, Bool.not_eq_true, Bool.not_eq_eq_eq_not, Bool.not_true, Bool.not_false, decide_eq_true_eq, decide_eq_false_iff_not, Bool.not_eq_true', Bool.not_eq_false', gt_iff_lt, ge_iff_le, Int.not_lt, Int.not_le, if01, Bool.false_eq_true, Bool.true_eq_false] at hb9
            refine ADr.one rfl (xCallPure ok rfl rfl rfl rfl rfl rfl Tryd.func12 rfl rfl (c12 _)) ?_
            refine ADr.one rfl (xPickT rfl rfl rfl rfl rfl) ?_
            refine ADr.one rfl (xAssign rfl rfl rfl) ?_
            refine ADr.done trivial ?_
            refine AW.ret ?_
            try dsimp only [AEx.then, AEx.inBlock, if_true]
            refine FnEnd.r1 rfl rfl rfl ?_
            first | exact ⟨rfl, _, rfl⟩ | (exfalso; (repeat' split at hb9) <;> omega)
          · try simp only [beq_true, beq_false, beq_iff_eq, beq_eq_false_iff_ne, ne_eq, decide_eq_decide, Bool.not_eq_true, Bool.not_eq_eq_eq_not, Bool.not_true, Bool.not_false, decide_eq_true_eq, decide_eq_false_iff_not, Bool.not_eq_true', Bool.not_eq_false', gt_iff_lt, ge_iff_le, Int.not_lt, Int.not_le, if01, Bool.false_eq_true, Bool.true_eq_false] at hb9
            refine ADr.off rfl ?_
            refine ADr.one rfl (xPickF rfl rfl rfl rfl rfl) ?_
            refine ADr.one rfl (xAssign rfl rfl rfl) ?_
            refine ADr.done trivial ?_
            refine AW.ret ?_
            try dsimp only [AEx.then, AEx.inBlock, if_true]
            refine FnEnd.r1 rfl rfl rfl ?_
            first | exact ⟨rfl, _, rfl⟩ | (exfalso; (repeat' split at hb9) <;> omega)
        · try simp only [beq_true, beq_false, beq_iff_eq, beq_eq_false_iff_ne, ne_eq, decide_eq_decide, Bool.not_eq_true, Bool.not_eq_eq_eq_not, Bool.not_true, Bool.not_false, decide_eq_true_eq, decide_eq_false_iff_not, Bool.not_eq_true', Bool.not_eq_false', gt_iff_lt, ge_iff_le, Int.not_lt, Int.not_le, if01, Bool.false_eq_true, Bool.true_eq_false] at hb7
          refine AOps.off rfl ?_
          refine AOps.off rfl ?_
          refine AOps.off rfl ?_
          refine AOps.off rfl ?_
          refine AOps.off rfl ?_
          refine AOps.one rfl (xPickF rfl rfl rfl rfl rfl) ?_
          refine AOps.one rfl (xPickF rfl rfl rfl rfl rfl) ?_
          refine AOps.one rfl (xAssign rfl rfl rfl) ?_
          refine AOps.done ?_
          refine AW.seq ?_
          refine AW.regionDraw ok (fun _ => false) [] (by kernel_rfl) (by kernel_rfl) rfl ?_
          refine ADr.one rfl (xLoadAgg rfl rfl rfl rfl rfl (by first | exact readN_all rfl rfl | fail)) ?_
          refine ADr.one rfl (xMove rfl rfl rfl) ?_
          refine ADr.one rfl (xCallPure ok rfl rfl rfl rfl rfl rfl Tryd.func11 rfl rfl (c11v _ _ _ _ (by omega))) ?_
          refine ADr.one rfl (xLoadAgg rfl rfl rfl rfl rfl (by first | exact readN_all rfl rfl | fail)) ?_
          refine ADr.one rfl (xMove rfl rfl rfl) ?_
          refine ADr.one rfl (xCallPure ok rfl rfl rfl rfl rfl rfl Tryd.func11 rfl rfl (c11v _ _ _ _ (by omega))) ?_
          refine ADr.one rfl (xBin rfl rfl rfl rfl bLss) ?_
          refine ADr.one rfl (xMove rfl rfl rfl) ?_
          refine ADr.one rfl (xBin rfl rfl rfl rfl (bEqlB rfl)) ?_
          refine ADr.oneB rfl (xMove rfl rfl rfl) (fun hb9 => ?_) (fun hb9 => ?_)
          · try simp only [beq_true, beq_false, beq_iff_eq, beq_eq_false_iff_ne, ne_eq, decide_eq_decide, Bool.not_eq_true, Bool.not_eq_eq_eq_not, Bool.not_true, Bool.not_false, decide_eq_true_eq, decide_eq_false_iff_not, Bool.not_eq_true', Bool.not_eq_false', gt_iff_lt, ge_iff_le, Int.not_lt, Int.not_le, if01, Bool.false_eq_true, Bool.true_eq_false] at hb9
            refine ADr.one rfl (xCallPure ok rfl rfl rfl rfl rfl rfl Tryd.func12 rfl rfl (c12 _)) ?_
            refine ADr.one rfl (xPickT rfl rfl rfl rfl rfl) ?_
            refine ADr.one rfl (xAssign rfl rfl rfl) ?_
            refine ADr.done trivial ?_
            refine AW.ret ?_
            try dsimp only [AEx.then, AEx.inBlock, if_true]
            refine FnEnd.r1 rfl rfl rfl ?_
            first | exact ⟨rfl, _, rfl⟩ | (exfalso; (repeat' split at hb9) <;> omega)
          · try simp only [beq_true, beq_false, beq_iff_eq, beq_eq_false_iff_ne, ne_eq, decide_eq_decide, Bool.not_eq_true, Bool.not_eq_eq_eq_not, Bool.not_true, Bool.not_false, decide_eq_true_eq, decide_eq_false_iff_not, Bool.not_eq_true', Bool.not_eq_false', gt_iff_lt, ge_iff_le, Int.not_lt, Int.not_le, if01, Bool.false_eq_true, Bool.true_eq_false] at hb9
            refine ADr.off rfl ?_
            refine ADr.one rfl (xPickF rfl rfl rfl rfl rfl) ?_
            refine ADr.one rfl (xAssign rfl rfl rfl) ?_
            refine ADr.done trivial ?_
            refine AW.ret ?_
            try dsimp only [AEx.then, AEx.inBlock, if_true]
            refine FnEnd.r1 rfl rfl rfl ?_
            first | exact ⟨rfl, _, rfl⟩ | (exfalso; (repeat' split at hb9) <;> omega)
  · try simp only [beq_true, beq_false, beq_iff_eq, beq_eq_false_iff_ne, ne_eq, decide_eq_decide, Bool.not_eq_true, Bool.not_eq_eq_eq_not, Bool.not_true, Bool.not_false, decide_eq_true_eq, decide_eq_false_iff_not, Bool.not_eq_true', Bool.not_eq_false', gt_iff_lt, ge_iff_le, Int.not_lt, Int.not_le, if01, Bool.false_eq_true, Bool.true_eq_false] at hc
    refine AW.skip ?_
    refine AW.seq ?_
    refine AW.seq ?_
    refine AW.region rfl ?_
    refine AOps.one rfl (xFieldAddr0 rfl rfl rfl rfl rfl rfl rfl) ?_
    refine AOps.one rfl (xLoad rfl rfl rfl rfl (by first | exact read_own rfl rfl | fail)) ?_
    refine AOps.one rfl (xBin rfl rfl rfl rfl bEql) ?_
    refine AOps.done ?_
    refine AW.condB rfl (fun hc => ?_) (fun hc => ?_)
    · try simp only [beq_true, beq_false, beq_iff_eq, beq_eq_false_iff_ne, ne_eq, decide_eq_decide, Bool.not_eq_true, Bool.not_eq_eq_eq_not, Bool.not_true, Bool.not_false, decide_eq_true_eq, decide_eq_false_iff_not, Bool.not_eq_true', Bool.not_eq_false', gt_iff_lt, ge_iff_le, Int.not_lt, Int.not_le, if01, Bool.false_eq_true, Bool.true_eq_false] at hc
      refine AW.region rfl ?_
      refine AOps.one rfl (xMove rfl rfl rfl) ?_
      refine AOps.one rfl (xMove rfl rfl rfl) ?_
      refine AOps.one rfl (xBin rfl rfl rfl rfl (bAddK (by first | exact IntWalk.i64_in _ (by omega) | exact rfl))) ?_
      refine AOps.one rfl (xAssign rfl rfl rfl) ?_
      refine AOps.done ?_
      refine AW.seq ?_
      refine AW.region rfl ?_
      refine AOps.one rfl (xMove rfl rfl rfl) ?_
      refine AOps.one rfl (xMove rfl rfl rfl) ?_
      refine AOps.one rfl (xBin rfl rfl rfl rfl bLss) ?_
      refine AOps.oneB rfl (xMove rfl rfl rfl) (fun hb3 => ?_) (fun hb3 => ?_)
      · try simp only [beq_true, beq_false, beq_iff_eq, beq_eq_false_iff_ne, ne_eq, decide_eq_decide, Bool.not_eq_true, Bool.not_eq_eq_eq_not, Bool.not_true, Bool.not_false, decide_eq_true_eq, decide_eq_false_iff_not, Bool.not_eq_true', Bool.not_eq_false', gt_iff_lt, ge_iff_le, Int.not_lt, Int.not_le, if01, Bool.false_eq_true, Bool.true_eq_false] at hb3
        refine AOps.off rfl ?_
        refine AOps.off rfl ?_
        refine AOps.off rfl ?_
        refine AOps.off rfl ?_
        refine AOps.off rfl ?_
        refine AOps.off rfl ?_
        refine AOps.off rfl ?_
        refine AOps.off rfl ?_
        refine AOps.off rfl ?_
        refine AOps.off rfl ?_
        refine AOps.one rfl (xPickT rfl rfl rfl rfl rfl) ?_
        refine AOps.one rfl (xAssign rfl rfl rfl) ?_
        refine AOps.done ?_
        refine AW.seq ?_
        refine AW.regionDraw ok (fun _ => false) [] (by kernel_rfl) (by kernel_rfl) rfl ?_
        refine ADr.one rfl (xLoadAgg rfl rfl rfl rfl rfl (by first | exact readN_all rfl rfl | fail)) ?_
        refine ADr.one rfl (xMove rfl rfl rfl) ?_
        refine ADr.one rfl (xCallPure ok rfl rfl rfl rfl rfl rfl Tryd.func11 rfl rfl (c11v _ _ _ _ (by omega))) ?_
        refine ADr.one rfl (xLoadAgg rfl rfl rfl rfl rfl (by first | exact readN_all rfl rfl | fail)) ?_
        refine ADr.one rfl (xMove rfl rfl rfl) ?_
        refine ADr.one rfl (xCallPure ok rfl rfl rfl rfl rfl rfl Tryd.func11 rfl rfl (c11v _ _ _ _ (by omega))) ?_
        refine ADr.one rfl (xBin rfl rfl rfl rfl bLss) ?_
        refine ADr.one rfl (xMove rfl rfl rfl) ?_
        refine ADr.one rfl (xBin rfl rfl rfl rfl (bEqlB rfl)) ?_
        refine ADr.oneB rfl (xMove rfl rfl rfl) (fun hb9 => ?_) (fun hb9 => ?_)
        · try simp only [beq_true, beq_false, beq_iff_eq, beq_eq_false_iff_ne, ne_eq, decide_eq_decide, Bool.not_eq_true, Bool.not_eq_eq_eq_not, Bool.not_true, Bool.not_false, decide_eq_true_eq, decide_eq_false_iff_not, Bool.not_eq_true', Bool.not_eq_false', gt_iff_lt, ge_iff_le, Int.not_lt, Int.not_le, if01, Bool.false_eq_true, Bool.true_eq_false] at hb9
          refine ADr.one rfl (xCallPure ok rfl rfl rfl rfl rfl rfl Tryd.func12 rfl rfl (c12 _)) ?_
          refine ADr.one rfl (xPickT rfl rfl rfl rfl rfl) ?_
          refine ADr.one rfl (xAssign rfl rfl rfl) ?_
          refine ADr.done trivial ?_
          refine AW.ret ?_
          try dsimp only [AEx.then, AEx.inBlock, if_true]
          refine FnEnd.r1 rfl rfl rfl ?_
          first | exact ⟨rfl, _, rfl⟩ | (exfalso; (repeat' split at hb9) <;> omega)
        · try simp only [beq_true, beq_false, beq_iff_eq, beq_eq_false_iff_ne, ne_eq, decide_eq_decide, Bool.not_eq_true, Bool.not_eq_eq_eq_not, Bool.not_true, Bool.not_false, decide_eq_true_eq, decide_eq_false_iff_not, Bool.not_eq_true', Bool.not_eq_false', gt_iff_lt, ge_iff_le, Int.not_lt, Int.not_le, if01, Bool.false_eq_true, Bool.true_eq_false] at hb9
          refine ADr.off rfl ?_
          refine ADr.one rfl (xPickF rfl rfl rfl rfl rfl) ?_
          refine ADr.one rfl (xAssign rfl rfl rfl) ?_
          refine ADr.done trivial ?_
          refine AW.ret ?_
          try dsimp only [AEx.then, AEx.inBlock, if_true]
          refine FnEnd.r1 rfl rfl rfl ?_
          first | exact ⟨rfl, _, rfl⟩ | (exfalso; (repeat' split at hb9) <;> omega)
      · try simp only [beq_true, beq_false, beq_iff_eq, beq_eq_false_iff_ne, ne_eq, decide_eq_decide, Bool.not_eq_true, Bool.not_eq_eq_eq_not, Bool.not_true, Bool.not_false, decide_eq_true_eq, decide_eq_false_iff_not, Bool.not_eq_true', Bool.not_eq_false', gt_iff_lt, ge_iff_le, Int.not_lt, Int.not_le, if01, Bool.false_eq_true, Bool.true_eq_false] at hb3
        refine AOps.one rfl (xMove rfl rfl rfl) ?_
        refine AOps.one rfl (xMove rfl rfl rfl) ?_
        refine AOps.one rfl (xBin rfl rfl rfl rfl bEql) ?_
        refine AOps.oneB rfl (xMove rfl rfl rfl) (fun hb7 => ?_) (fun hb7 => ?_)
        · try simp only [beq_true, beq_false, beq_iff_eq, beq_eq_false_iff_ne, ne_eq, decide_eq_decide, Bool.not_eq_true, Bool.not_eq_eq_eq_not, Bool.not_true, Bool.not_false, decide_eq_true_eq, decide_eq_false_iff_not, Bool.not_eq_true', Bool.not_eq_false', gt_iff_lt, ge_iff_le, Int.not_lt, Int.not_le, if01, Bool.false_eq_true, Bool.true_eq_false] at hb7
          refine AOps.one rfl (xFieldAddr0 rfl rfl rfl rfl rfl rfl rfl) ?_
          refine AOps.one rfl (xLoad rfl rfl rfl rfl (by first | exact read_own rfl rfl | fail)) ?_
          refine AOps.one rfl (xFieldAddr0 rfl rfl rfl rfl rfl rfl rfl) ?_
          refine AOps.one rfl (xLoad rfl rfl rfl rfl (by first | exact read_own rfl rfl | fail)) ?_
          refine AOps.one rfl (xBin rfl rfl rfl rfl bGtr) ?_
          refine AOps.one rfl (xPickT rfl rfl rfl rfl rfl) ?_
          refine AOps.one rfl (xPickF rfl rfl rfl rfl rfl) ?_
          refine AOps.one rfl (xAssign rfl rfl rfl) ?_
          refine AOps.done ?_
          refine AW.seq ?_
          refine AW.regionDraw ok (fun _ => false) [] (by kernel_rfl) (by kernel_rfl) rfl ?_
          refine ADr.one rfl (xLoadAgg rfl rfl rfl rfl rfl (by first | exact readN_all rfl rfl | fail)) ?_
          refine ADr.one rfl (xMove rfl rfl rfl) ?_
          refine ADr.one rfl (xCallPure ok rfl rfl rfl rfl rfl rfl Tryd.func11 rfl rfl (c11v _ _ _ _ (by omega))) ?_
          refine ADr.one rfl (xLoadAgg rfl rfl rfl rfl rfl (by first | exact readN_all rfl rfl | fail)) ?_
          refine ADr.one rfl (xMove rfl rfl rfl) ?_
          refine ADr.one rfl (xCallPure ok rfl rfl rfl rfl rfl rfl Tryd.func11 rfl rfl (c11v _ _ _ _ (by omega))) ?_
          refine ADr.one rfl (xBin rfl rfl rfl rfl bLss) ?_
          refine ADr.one rfl (xMove rfl rfl rfl) ?_
          refine ADr.one rfl (xBin rfl rfl rfl rfl (bEqlB rfl)) ?_
          refine ADr.oneB rfl (xMove rfl rfl rfl) (fun hb9 => ?_) (fun hb9 => ?_)
          · try simp only [beq_true, beq_false, beq_iff_eq, beq_eq_false_iff_ne, ne_eq, decide_eq_decide, Bool.not_eq_true, Bool.not_eq_eq_eq_not, Bool.not_true, Bool.not_false, decide_eq_true_eq, decide_eq_false_iff_not, Bool.not_eq_true', Bool.not_eq_false', gt_iff_lt, ge_iff_le, Int.not_lt, Int.not_le, if01, Bool.false_eq_true, Bool.true_eq_false] at hb9
            refine ADr.one rfl (xCallPure ok rfl rfl rfl rfl rfl rfl Tryd.func12 rfl rfl (c12 _)) ?_
            refine ADr.one rfl (xPickT rfl rfl rfl rfl rfl) ?_
            refine ADr.one rfl (xAssign rfl rfl rfl) ?_
            refine ADr.done trivial ?_
            refine AW.ret ?_
            try dsimp only [AEx.then, AEx.inBlock, if_true]
            refine FnEnd.r1 rfl rfl rfl ?_
            first | exact ⟨rfl, _, rfl⟩ | (exfalso; (repeat' split at hb9) <;> omega)
          · try simp only [beq_true, beq_false, beq_iff_eq, beq_eq_false_iff_ne, ne_eq, decide_eq_decide, Bool.not_eq_true, Bool.not_eq_eq_eq_not, Bool.not_true, Bool.not_false, decide_eq_true_eq, decide_eq_false_iff_not, Bool.not_eq_true', Bool.not_eq_false', gt_iff_lt, ge_iff_le, Int.not_lt, Int.not_le, if01, Bool.false_eq_true, Bool.true_eq_false] at hb9
            refine ADr.off rfl ?_
            refine ADr.one rfl (xPickF rfl rfl rfl rfl rfl) ?_
            refine ADr.one rfl (xAssign rfl rfl rfl) ?_
            refine ADr.done trivial ?_
            refine AW.ret ?_
            try dsimp only [AEx.then, AEx.inBlock, if_true]
            refine FnEnd.r1 rfl rfl rfl ?_
            first | exact ⟨rfl, _, rfl⟩ | (exfalso; (repeat' split at hb9) <;> omega)
        · try simp only [beq_true, beq_false, beq_iff_eq, beq_eq_false_iff_ne, ne_eq, decide_eq_decide, Bool.not_eq_true, Bool.not_eq_eq_eq_not, Bool.not_true, Bool.not_false, decide_eq_true_eq, decide_eq_false_iff_not, Bool.not_eq_true', Bool.not_eq_false', gt_iff_lt, ge_iff_le, Int.not_lt, Int.not_le, if01, Bool.false_eq_true, Bool.true_eq_false] at hb7
          refine AOps.off rfl ?_
          refine AOps.off rfl ?_
          refine AOps.off rfl ?_
          refine AOps.off rfl ?_
          refine AOps.off rfl ?_
          refine AOps.one rfl (xPickF rfl rfl rfl rfl rfl) ?_
          refine AOps.one rfl (xPickF rfl rfl rfl rfl rfl) ?_
          refine AOps.one rfl (xAssign rfl rfl rfl) ?_
          refine AOps.done ?_
          refine AW.seq ?_
          refine AW.regionDraw ok (fun _ => false) [] (by kernel_rfl) (by kernel_rfl) rfl ?_
          refine ADr.one rfl (xLoadAgg rfl rfl rfl rfl rfl (by first | exact readN_all rfl rfl | fail)) ?_
          refine ADr.one rfl (xMove rfl rfl rfl) ?_
          refine ADr.one rfl (xCallPure ok rfl rfl rfl rfl rfl rfl Tryd.func11 rfl rfl (c11v _ _ _ _ (by omega))) ?_
          refine ADr.one rfl (xLoadAgg rfl rfl rfl rfl rfl (by first | exact readN_all rfl rfl | fail)) ?_
          refine ADr.one rfl (xMove rfl rfl rfl) ?_
          refine ADr.one rfl (xCallPure ok rfl rfl rfl rfl rfl rfl Tryd.func11 rfl rfl (c11v _ _ _ _ (by omega))) ?_
          refine ADr.one rfl (xBin rfl rfl rfl rfl bLss) ?_
          refine ADr.one rfl (xMove rfl rfl rfl) ?_
          refine ADr.one rfl (xBin rfl rfl rfl rfl (bEqlB rfl)) ?_
          refine ADr.oneB rfl (xMove rfl rfl rfl) (fun hb9 => ?_) (fun hb9 => ?_)
          · try simp only [beq_true, beq_false, beq_iff_eq, beq_eq_false_iff_ne, ne_eq, decide_eq_decide, Bool.not_eq_true, Bool.not_eq_eq_eq_not, Bool.not_true, Bool.not_false, decide_eq_true_eq, decide_eq_false_iff_not, Bool.not_eq_true', Bool.not_eq_false', gt_iff_lt, ge_iff_le, Int.not_lt, Int.not_le, if01, Bool.false_eq_true, Bool.true_eq_false] at hb9
            refine ADr.one rfl (xCallPure ok rfl rfl rfl rfl rfl rfl Tryd.func12 rfl rfl (c12 _)) ?_
            refine ADr.one rfl (xPickT rfl rfl rfl rfl rfl) ?_
            refine ADr.one rfl (xAssign rfl rfl rfl) ?_
            refine ADr.done trivial ?_
            refine AW.ret ?_
            try dsimp only [AEx.then, AEx.inBlock, if_true]
            refine FnEnd.r1 rfl rfl rfl ?_
            first | exact ⟨rfl, _, rfl⟩ | (exfalso; (repeat' split at hb9) <;> omega)
          · try simp only [beq_true, beq_false, beq_iff_eq, beq_eq_false_iff_ne, ne_eq, decide_eq_decide, Bool.not_eq_true, Bool.not_eq_eq_eq_not, Bool.not_true, Bool.not_false, decide_eq_true_eq, decide_eq_false_iff_not, Bool.not_eq_true', Bool.not_eq_false', gt_iff_lt, ge_iff_le, Int.not_lt, Int.not_le, if01, Bool.false_eq_true, Bool.true_eq_false] at hb9
            refine ADr.off rfl ?_
            refine ADr.one rfl (xPickF rfl rfl rfl rfl rfl) ?_
            refine ADr.one rfl (xAssign rfl rfl rfl) ?_
            refine ADr.done trivial ?_
            refine AW.ret ?_
            try dsimp only [AEx.then, AEx.inBlock, if_true]
            refine FnEnd.r1 rfl rfl rfl ?_
            first | exact ⟨rfl, _, rfl⟩ | (exfalso; (repeat' split at hb9) <;> omega)
    · try simp only [beq_true, beq_false, beq_iff_eq, beq_eq_false_iff_ne, ne_eq, decide_eq_decide, Bool.not_eq_true, Bool.not_eq_eq_eq_not, Bool.not_true, Bool.not_false, decide_eq_true_eq, decide_eq_false_iff_not, Bool.not_eq_true', Bool.not_eq_false', gt_iff_lt, ge_iff_le, Int.not_lt, Int.not_le, if01, Bool.false_eq_true, Bool.true_eq_false] at hc
      refine AW.skip ?_
      refine AW.seq ?_
      refine AW.region rfl ?_
      refine AOps.one rfl (xMove rfl rfl rfl) ?_
      refine AOps.one rfl (xMove rfl rfl rfl) ?_
      refine AOps.one rfl (xBin rfl rfl rfl rfl bLss) ?_
      refine AOps.oneB rfl (xMove rfl rfl rfl) (fun hb3 => ?_) (fun hb3 => ?_)
      · try simp only [beq_true, beq_false, beq_iff_eq, beq_eq_false_iff_ne, ne_eq, decide_eq_decide, Bool.not_eq_true, Bool.not_eq_eq_eq_not, Bool.not_true, Bool.not_false, decide_eq_true_eq, decide_eq_false_iff_not, Bool.not_eq_true', Bool.not_eq_false', gt_iff_lt, ge_iff_le, Int.not_lt, Int.not_le, if01, Bool.false_eq_true, Bool.true_eq_false] at hb3
        refine AOps.off rfl ?_
        refine AOps.off rfl ?_
        refine AOps.off rfl ?_
        refine AOps.off rfl ?_
        refine AOps.off rfl ?_
        refine AOps.off rfl ?_
        refine AOps.off rfl ?_
        refine AOps.off rfl ?_
        refine AOps.off rfl ?_
        refine AOps.off rfl ?_
        refine AOps.one rfl (xPickT rfl rfl rfl rfl rfl) ?_
        refine AOps.one rfl (xAssign rfl rfl rfl) ?_
        refine AOps.done ?_
        refine AW.seq ?_
        refine AW.regionDraw ok (fun _ => false) [] (by kernel_rfl) (by kernel_rfl) rfl ?_
        refine ADr.one rfl (xLoadAgg rfl rfl rfl rfl rfl (by first | exact readN_all rfl rfl | fail)) ?_
        refine ADr.one rfl (xMove rfl rfl rfl) ?_
        refine ADr.one rfl (xCallPure ok rfl rfl rfl rfl rfl rfl Tryd.func11 rfl rfl (c11v _ _ _ _ (by omega))) ?_
        refine ADr.one rfl (xLoadAgg rfl rfl rfl rfl rfl (by first | exact readN_all rfl rfl | fail)) ?_
        refine ADr.one rfl (xMove rfl rfl rfl) ?_
        refine ADr.one rfl (xCallPure ok rfl rfl rfl rfl rfl rfl Tryd.func11 rfl rfl (c11v _ _ _ _ (by omega))) ?_
        refine ADr.one rfl (xBin rfl rfl rfl rfl bLss) ?_
        refine ADr.one rfl (xMove rfl rfl rfl) ?_
        refine ADr.one rfl (xBin rfl rfl rfl rfl (bEqlB rfl)) ?_
        refine ADr.oneB rfl (xMove rfl rfl rfl) (fun hb9 => ?_) (fun hb9 => ?_)
        · try simp only [beq_true, beq_false, beq_iff_eq, beq_eq_false_iff_ne, ne_eq, decide_eq_decide, Bool.not_eq_true, Bool.not_eq_eq_eq_not, Bool.not_true, Bool.not_false, decide_eq_true_eq, decide_eq_false_iff_not, Bool.not_eq_true', Bool.not_eq_false', gt_iff_lt, ge_iff_le, Int.not_lt, Int.not_le, if01, Bool.false_eq_true, Bool.true_eq_false] at hb9
          refine ADr.one rfl (xCallPure ok rfl rfl rfl rfl rfl rfl Tryd.func12 rfl rfl (c12 _)) ?_
          refine ADr.one rfl (xPickT rfl rfl rfl rfl rfl) ?_
          refine ADr.one rfl (xAssign rfl rfl rfl) ?_
          refine ADr.done trivial ?_
          refine AW.ret ?_
          try dsimp only [AEx.then, AEx.inBlock, if_true]
          refine FnEnd.r1 rfl rfl rfl ?_
          first | exact ⟨rfl, _, rfl⟩ | (exfalso; (repeat' split at hb9) <;> omega)
        · try simp only [beq_true, beq_false, beq_iff_eq, beq_eq_false_iff_ne, ne_eq, decide_eq_decide, Bool.not_eq_true, Bool.not_eq_eq_eq_not, Bool.not_true, Bool.not_false, decide_eq_true_eq, decide_eq_false_iff_not, Bool.not_eq_true', Bool.not_eq_false', gt_iff_lt, ge_iff_le, Int.not_lt, Int.not_le, if01, Bool.false_eq_true, Bool.true_eq_false] at hb9
          refine ADr.off rfl ?_
          refine ADr.one rfl (xPickF rfl rfl rfl rfl rfl) ?_
          refine ADr.one rfl (xAssign rfl rfl rfl) ?_
          refine ADr.done trivial ?_
          refine AW.ret ?_
          try dsimp only [AEx.then, AEx.inBlock, if_true]
          refine FnEnd.r1 rfl rfl rfl ?_
          first | exact ⟨rfl, _, rfl⟩ | (exfalso; (repeat' split at hb9) <;> omega)
      · try simp only [beq_true, beq_false, beq_iff_eq, beq_eq_false_iff_ne, ne_eq, decide_eq_decide, Bool.not_eq_true, Bool.not_eq_eq_eq_not, Bool.not_true, Bool.not_false, decide_eq_true_eq, decide_eq_false_iff_not, Bool.not_eq_true', Bool.not_eq_false', gt_iff_lt, ge_iff_le, Int.not_lt, Int.not_le, if01, Bool.false_eq_true, Bool.true_eq_false] at hb3
        refine AOps.one rfl (xMove rfl rfl rfl) ?_
        refine AOps.one rfl (xMove rfl rfl rfl) ?_
        refine AOps.one rfl (xBin rfl rfl rfl rfl bEql) ?_
        refine AOps.oneB rfl (xMove rfl rfl rfl) (fun hb7 => ?_) (fun hb7 => ?_)
        · try simp only [beq_true, beq_false, beq_iff_eq, beq_eq_false_iff_ne, ne_eq, decide_eq_decide, Bool.not_eq_true, Bool.not_eq_eq_eq_not, Bool.not_true, Bool.not_false, decide_eq_true_eq, decide_eq_false_iff_not, Bool.not_eq_true', Bool.not_eq_false', gt_iff_lt, ge_iff_le, Int.not_lt, Int.not_le, if01, Bool.false_eq_true, Bool.true_eq_false] at hb7
          refine AOps.one rfl (xFieldAddr0 rfl rfl rfl rfl rfl rfl rfl) ?_
          refine AOps.one rfl (xLoad rfl rfl rfl rfl (by first | exact read_own rfl rfl | fail)) ?_
          refine AOps.one rfl (xFieldAddr0 rfl rfl rfl rfl rfl rfl rfl) ?_
          refine AOps.one rfl (xLoad rfl rfl rfl rfl (by first | exact read_own rfl rfl | fail)) ?_
          refine AOps.one rfl (xBin rfl rfl rfl rfl bGtr) ?_
          refine AOps.one rfl (xPickT rfl rfl rfl rfl rfl) ?_
          refine AOps.one rfl (xPickF rfl rfl rfl rfl rfl) ?_
          refine AOps.one rfl (xAssign rfl rfl rfl) ?_
          refine AOps.done ?_
          refine AW.seq ?_
          refine AW.regionDraw ok (fun _ => false) [] (by kernel_rfl) (by kernel_rfl) rfl ?_
          refine ADr.one rfl (xLoadAgg rfl rfl rfl rfl rfl (by first | exact readN_all rfl rfl | fail)) ?_
          refine ADr.one rfl (xMove rfl rfl rfl) ?_
          refine ADr.one rfl (xCallPure ok rfl rfl rfl rfl rfl rfl Tryd.func11 rfl rfl (c11v _ _ _ _ (by omega))) ?_
          refine ADr.one rfl (xLoadAgg rfl rfl rfl rfl rfl (by first | exact readN_all rfl rfl | fail)) ?_
          refine ADr.one rfl (xMove rfl rfl rfl) ?_
          refine ADr.one rfl (xCallPure ok rfl rfl rfl rfl rfl rfl Tryd.func11 rfl rfl (c11v _ _ _ _ (by omega))) ?_
          refine ADr.one rfl (xBin rfl rfl rfl rfl bLss) ?_
          refine ADr.one rfl (xMove rfl rfl rfl) ?_
          refine ADr.one rfl (xBin rfl rfl rfl rfl (bEqlB rfl)) ?_
          refine ADr.oneB rfl (xMove rfl rfl rfl) (fun hb9 => ?_) (fun hb9 => ?_)
          · try simp only [beq_true, beq_false, beq_iff_eq, beq_eq_false_iff_ne, ne_eq, decide_eq_decide, Bool.not_eq_true, Bool.not_eq_eq_eq_not, Bool.not_true, Bool.not_false, decide_eq_true_eq, decide_eq_false_iff_not, Bool.not_eq_true', Bool.not_eq_false', gt_iff_lt, ge_iff_le, Int.not_lt, Int.not_le, if01, Bool.false_eq_true, Bool.true_eq_false] at hb9
            refine ADr.one rfl (xCallPure ok rfl rfl rfl rfl rfl rfl Tryd.func12 rfl rfl (c12 _)) ?_
            refine ADr.one rfl (xPickT rfl rfl rfl rfl rfl) ?_
            refine ADr.one rfl (xAssign rfl rfl rfl) ?_
            refine ADr.done trivial ?_
            refine AW.ret ?_
            try dsimp only [AEx.then, AEx.inBlock, if_true]
            refine FnEnd.r1 rfl rfl rfl ?_
            first | exact ⟨rfl, _, rfl⟩ | (exfalso; (repeat' split at hb9) <;> omega)
          · try simp only [beq_true, beq_false, beq_iff_eq, beq_eq_false_iff_ne, ne_eq, decide_eq_decide, Bool.not_eq_true, Bool.not_eq_eq_eq_not, Bool.not_true, Bool.not_false, decide_eq_true_eq, decide_eq_false_iff_not, Bool.not_eq_true', Bool.not_eq_false', gt_iff_lt, ge_iff_le, Int.not_lt, Int.not_le, if01, Bool.false_eq_true, Bool.true_eq_false] at hb9
            refine ADr.off rfl ?_
            refine ADr.one rfl (xPickF rfl rfl rfl rfl rfl) ?_
            refine ADr.one rfl (xAssign rfl rfl rfl) ?_
            refine ADr.done trivial ?_
            refine AW.ret ?_
            try dsimp only [AEx.then, AEx.inBlock, if_true]
            refine FnEnd.r1 rfl rfl rfl ?_
            first | exact ⟨rfl, _, rfl⟩ | (exfalso; (repeat' split at hb9) <;> omega)
        · try simp only [beq_true, beq_false, beq_iff_eq, beq_eq_false_iff_ne, ne_eq, decide_eq_decide, Bool.not_eq_true, Bool.not_eq_eq_eq_not, Bool.not_true, Bool.not_false, decide_eq_true_eq, decide_eq_false_iff_not, Bool.not_eq_true', Bool.not_eq_false', gt_iff_lt, ge_iff_le, Int.not_lt, Int.not_le, if01, Bool.false_eq_true, Bool.true_eq_false] at hb7
          refine AOps.off rfl ?_
          refine AOps.off rfl ?_
          refine AOps.off rfl ?_
          refine AOps.off rfl ?_
          refine AOps.off rfl ?_
          refine AOps.one rfl (xPickF rfl rfl rfl rfl rfl) ?_
          refine AOps.one rfl (xPickF rfl rfl rfl rfl rfl) ?_
          refine AOps.one rfl (xAssign rfl rfl rfl) ?_
          refine AOps.done ?_
          refine AW.seq ?_
          refine AW.regionDraw ok (fun _ => false) [] (by kernel_rfl) (by kernel_rfl) rfl ?_
          refine ADr.one rfl (xLoadAgg rfl rfl rfl rfl rfl (by first | exact readN_all rfl rfl | fail)) ?_
          refine ADr.one rfl (xMove rfl rfl rfl) ?_
          refine ADr.one rfl (xCallPure ok rfl rfl rfl rfl rfl rfl Tryd.func11 rfl rfl (c11v _ _ _ _ (by omega))) ?_
          refine ADr.one rfl (xLoadAgg rfl rfl rfl rfl rfl (by first | exact readN_all rfl rfl | fail)) ?_
          refine ADr.one rfl (xMove rfl rfl rfl) ?_
          refine ADr.one rfl (xCallPure ok rfl rfl rfl rfl rfl rfl Tryd.func11 rfl rfl (c11v _ _ _ _ (by omega))) ?_
          refine ADr.one rfl (xBin rfl rfl rfl rfl bLss) ?_
          refine ADr.one rfl (xMove rfl rfl rfl) ?_
          refine ADr.one rfl (xBin rfl rfl rfl rfl (bEqlB rfl)) ?_
          refine ADr.oneB rfl (xMove rfl rfl rfl) (fun hb9 => ?_) (fun hb9 => ?_)
          · try simp only [beq_true, beq_false, beq_iff_eq, beq_eq_false_iff_ne, ne_eq, decide_eq_decide, Bool.not_eq_true, Bool.not_eq_eq_eq_not, Bool.not_true, Bool.not_false, decide_eq_true_eq, decide_eq_false_iff_not, Bool.not_eq_true', Bool.not_eq_false', gt_iff_lt, ge_iff_le, Int.not_lt, Int.not_le, if01, Bool.false_eq_true, Bool.true_eq_false] at hb9
            refine ADr.one rfl (xCallPure ok rfl rfl rfl rfl rfl rfl Tryd.func12 rfl rfl (c12 _)) ?_
            refine ADr.one rfl (xPickT rfl rfl rfl rfl rfl) ?_
            refine ADr.one rfl (xAssign rfl rfl rfl) ?_
            refine ADr.done trivial ?_
            refine AW.ret ?_
            try dsimp only [AEx.then, AEx.inBlock, if_true]
            refine FnEnd.r1 rfl rfl rfl ?_
            first | exact ⟨rfl, _, rfl⟩ | (exfalso; (repeat' split at hb9) <;> omega)
          · try simp only [beq_true, beq_false, beq_iff_eq, beq_eq_false_iff_ne, ne_eq, decide_eq_decide, Bool.not_eq_true, Bool.not_eq_eq_eq_not, Bool.not_true, Bool.not_false, decide_eq_true_eq, decide_eq_false_iff_not, Bool.not_eq_true', Bool.not_eq_false', gt_iff_lt, ge_iff_le, Int.not_lt, Int.not_le, if01, Bool.false_eq_true, Bool.true_eq_false] at hb9
            refine ADr.off rfl ?_
            refine ADr.one rfl (xPickF rfl rfl rfl rfl rfl) ?_
            refine ADr.one rfl (xAssign rfl rfl rfl) ?_
            refine ADr.done trivial ?_
            refine AW.ret ?_
            try dsimp only [AEx.then, AEx.inBlock, if_true]
            refine FnEnd.r1 rfl rfl rfl ?_
            first | exact ⟨rfl, _, rfl⟩ | (exfalso; (repeat' split at hb9) <;> omega)
end Go.Proofs.YtkiognclopmciaaDoor
