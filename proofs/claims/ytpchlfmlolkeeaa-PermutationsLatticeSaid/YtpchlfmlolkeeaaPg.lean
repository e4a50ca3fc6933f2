/-
  Texts that belong together: Pf3, PMath.
-/
import Derived.Test.YtpchlfmlolkeeaaPd
set_option linter.unusedSimpArgs false
set_option linter.unusedVariables false
namespace Go.Proofs.Ytpchlfmlolkeeaa
open Go Go.RowKit Go.Am
set_option linter.unusedSimpArgs false
set_option linter.unusedVariables false
set_option maxRecDepth 20000
set_option maxHeartbeats 4000000
theorem c36 (n : Int) : PCalls Try.prog 36 [.int .i64 n] (fun d => d = .clo 51 [] [.fptr (.int .i64) n]) := by
  refine PCalls.go ok ck15 (c := d36) (rs := r36) Try.func36 rfl (by kernel_rfl) (by kernel_rfl) rfl rfl rfl ?_
  simp (config := { maxSteps := 20000000 }) only [d36, r36, go_nil, go_reg, go_seq, go_ret, go_ops0, go_opsG7, go_opsP, go_opsE, endP, unl, nilqD, eff1, gh1, wantD, dpure, ev, evs, lk, putD, killT, lkO, rmO, newO, argsD, nbeqB,  ↓cond_true, ↓cond_false, Option.map_some, sideP, asTy, unflat, DV.cellA, DV.cell, Ty.D, fnQ, dress, dres1, unl, finDV, frzV, sidesP, DV.kill, DV.killL, Nat.reduceAdd, beq_self_eq_true, Bool.and_self, if_true, Nat.ble, eq_self, and_self, Nat.reduceBEq]
  
def CO36 : CF := fun f args L => bif Nat.beq f 36 then (match args with
  | [.int .i64 n] => some (none, .clo 51 [] [.fptr (.int .i64) n], L, [])
  | _ => none) else CO15 f args L
theorem ck36 : CFOk Try.prog CO36 := by
  intro f args L side d L' ks hc hs
  unfold CO36 at hc
  cases hb : Nat.beq f 36 with
  | false => rw [hb] at hc; exact ck15 f args L side d L' ks hc hs
  | true =>
    have := Nat.eq_of_beq_eq_true hb
    subst this
    simp only [hb, cond_true] at hc
    split at hc
    · simp only [Option.some.injEq, Prod.mk.injEq] at hc
      obtain ⟨rfl, rfl, rfl, rfl⟩ := hc
      exact c36 _ L
    · cases hc

/-- The pairs of indices, row by row. -/
def rowP (n a b : Nat) : List (Nat × Nat) := (List.range (n - b)).map fun k => (a, b + k)
def prs (n : Nat) : Nat → List (Nat × Nat)
  | 0 => []
  | m + 1 => rowP n (n - (m + 1)) (n - (m + 1) + 1) ++ prs n m
theorem rowP_cons {n a b : Nat} (h : b < n) : rowP n a b = (a, b) :: rowP n a (b + 1) := by
  unfold rowP
  have e : n - b = (n - (b + 1)) + 1 := by omega
  rw [e, List.range_succ_eq_map]
  simp only [List.map_cons, List.map_map, Nat.add_zero, List.cons.injEq, true_and]
  exact List.map_congr_left fun k _ => by simp; omega
theorem rowP_nil {n a b : Nat} (h : n ≤ b) : rowP n a b = [] := by
  unfold rowP
  have e : n - b = 0 := by omega
  rw [e]; rfl
abbrev prD (y : Nat × Nat) : List DV := [.int .i64 y.1, .int .i64 y.2]
theorem it51 (n : Nat) (hn : n < 1000) : Iter Try.prog 51 [] [.fptr (.int .i64) (n : Int)] prD (prs n n) := by
  refine ⟨⟨_, Try.func51, rfl⟩, fun X t r M inv K hy hK x hx => ?_⟩
  refine DI_in ok ck36 (c := d51) (rs := r51) Try.func51 rfl (by kernel_rfl) (by kernel_rfl) rfl rfl ?_
  simp (config := { maxSteps := 20000000 }) only [d51, r51, go_reg, go_seq, go_block, go_loop, go_ops0, go_opsP, wantD, dpure, ev, lk, putD, argsD, nbeqB,  ↓cond_true, ↓cond_false, Option.map_some, sideP, dLoad, subT, flat, Ty.size, Ty.isAgg, Nat.zero_add, beq_self_eq_true, Bool.and_self, List.nil_append, List.cons_append, List.getD_cons_zero, Nat.reduceBEq]
  refine DWc.loopG ok ck36 (α := Nat × X) (fun y => ⟨[(6, .int .i64 ((n - y.1 : Nat) : Int)), (5, .int .i64 (n : Int)), (1, .fptr (.int .i64) (n : Int)), (0, .yl r)] ++ shT t, M y.2⟩) (fun y => y.1 ≤ n ∧ inv (prs n y.1) y.2) (fun y => y.1) (n, x) ?_ ?_ ?_
  · refine DEnt.ov (a := [(6, _), (5, _), (0, .yl r), (1, _)]) ?_ rfl rfl
    simp only [SubX, lk, nbeqB,  ↓cond_true, ↓cond_false, beq_self_eq_true, eq_self, Option.some.injEq, and_true, and_self, Nat.reduceBEq]
    simp
  · exact ⟨Nat.le_refl _, hx⟩
  · rintro ⟨m, x⟩ ⟨hm, hi⟩
    simp only [l51_0, inK, dresL, unT, unT_sh, go_nil, go_skip, go_reg, go_seq, go_cond, go_block, go_loop, go_exit, go_codeX, go_ops0, go_opsK, keepM_lo, keepM_sh, FB, Nat.reducePow, Nat.reduceDiv, Nat.reduceMod, go_opsP, go_blkX, go_rndX, wantD, dpure, ev, lk, putD, nbeqB,  ↓cond_true, ↓cond_false, Option.map_some, sideP, dBin, finDV, sidesP, decide_true, decide_false, beq_self_eq_true, List.nil_append, List.cons_append, eq_self, Nat.reduceLeDiff, Nat.reduceBEq, brB_eq, decide_eq_true_eq, decide_eq_false_iff_not, Int.not_lt, eq_self]
    refine ⟨fun h => ?_, fun h => ?_⟩
    · have hm1 : 0 < m := by simp only at hm; omega
      obtain ⟨m, rfl⟩ : ∃ k, m = k + 1 := ⟨m - 1, by omega⟩
      rw [wrap64' (by omega)]
      refine DWc.loopG ok ck36 (α := Nat × X) (fun y => ⟨[(4, .int .i64 (y.1 : Int)), (3, .int .i64 ((n - (m + 1) : Nat) : Int)), (6, .int .i64 ((n - (m + 1) : Nat) : Int)), (5, .int .i64 (n : Int)), (1, .fptr (.int .i64) (n : Int)), (0, .yl r)] ++ shT t, M y.2⟩)
        (fun y => n - m ≤ y.1 ∧ y.1 ≤ n ∧ inv (rowP n (n - (m + 1)) y.1 ++ prs n m) y.2) (fun y => n - y.1) (n - m, x) ?_ ?_ ?_
      · refine DEnt.ovk 6 6 rfl rfl ?_ rfl rfl
        simp only [SubX, List.take_succ_cons, List.take_zero, lk, nbeqB,  ↓cond_true, ↓cond_false, beq_self_eq_true, List.nil_append, List.cons_append, eq_self, Option.some.injEq, List.take_succ_cons, List.take_zero, and_true, and_self, Nat.reduceBEq]
        congr 1; omega
      · refine ⟨Nat.le_refl _, by omega, ?_⟩
        have : n - m = n - (m + 1) + 1 := by simp only at hm; omega
        rw [this]; exact hi
      · rintro ⟨b, x⟩ ⟨h1, h2, hi⟩
        simp only [l51_1, go_nil, go_skip, go_reg, go_seq, go_cond, go_block, go_exit, go_codeX, go_ops0, go_opsK, keepM_lo, keepM_sh, FB, Nat.reducePow, Nat.reduceDiv, Nat.reduceMod, go_opsP, go_opsC, go_blkN, go_blkX, go_rndN, go_rndX, unS_and, tgtD, callD, wantD, dpure, ev, evs, lk, putD, nbeqB,  ↓cond_true, ↓cond_false, Option.map_some, sideP, dBin, dLoad, subT, flat, Ty.size, Ty.isAgg, decide_true, decide_false, beq_self_eq_true, Bool.and_self, List.nil_append, List.cons_append, List.getD_cons_zero, eq_self, Nat.reduceLeDiff, Nat.reduceBEq, brB_eq, decide_eq_true_eq, decide_eq_false_iff_not, Int.not_lt, eq_self]
        refine ⟨fun h3 => ?_, fun h3 => ?_⟩
        · simp only at h1 h2 hi hm
          have hb : b < n := by omega
          rw [rowP_cons hb] at hi
          refine goY_it 10 (hy _ _ _ hi _ ?_) rfl ?_
          · simp only [List.take_succ_cons, List.take_zero, nnT_cons, nnT_nil, DV.nn, nisN, ltT, FB, nbeqB,  beq_self_eq_true, Bool.and_self, Nat.ble, Nat.blt, List.all_cons, List.all_nil, eq_self, List.take_succ_cons, List.take_zero, Bool.not_true, Bool.not_false, Nat.succ_eq_add_one]
          · rintro d t' L' (⟨rfl, rfl, x', hx', rfl⟩ | ⟨rfl, t'', rfl, hKK⟩)
            · simp only [go_skip, go_reg, go_cond, go_ops0, go_opsK, keepM_lo, keepM_sh, FB, Nat.reducePow, Nat.reduceDiv, Nat.reduceMod, go_opsP, go_blkN, go_rndN, ↓brB_false, ↓brM_false, wantD, dpure, ev, lk, putD, nbeqB,  ↓cond_true, ↓cond_false, Option.map_some, sideP, dBin, decide_true, decide_false, beq_self_eq_true, List.nil_append, List.cons_append, eq_self, List.take_succ_cons, List.take_zero, Nat.reduceLeDiff, Bool.not_true, Nat.reduceBEq, eq_self, Bool.not_true]
              rw [wrap64' (by omega)]
              refine ⟨(b + 1, x'), by omega, ⟨by omega, by omega, hx'⟩, ?_⟩
              refine DEnt.ovk 7 6 rfl rfl ?_ rfl rfl
              simp only [SubX, List.take_succ_cons, List.take_zero, lk, nbeqB,  ↓cond_true, ↓cond_false, beq_self_eq_true, eq_self, Option.some.injEq, List.take_succ_cons, List.take_zero, and_true, and_self, Nat.reduceBEq]
              rfl
            · simp only [inK, dresL, unT, unT_sh, go_nil, go_cond, go_ret, go_codeR, go_ops0, go_opsK, keepM_lo, keepM_sh, FB, Nat.reducePow, Nat.reduceDiv, Nat.reduceMod, go_opsP, go_blkR, go_rndR, ↓brB_true, ↓brM_true, wantD, dpure, ev, lk, putD, nbeqB,  ↓cond_true, ↓cond_false, sideP, finDV, sidesP, decide_false, beq_self_eq_true, List.nil_append, List.cons_append, eq_self, List.take_succ_cons, List.take_zero, Nat.reduceLeDiff, Bool.not_false, Nat.reduceBEq, eq_self, Bool.not_false]
              exact hKK
        · have : b = n := by simp only at h2; omega
          subst this
          rw [rowP_nil (Nat.le_refl _)] at hi
          simp only at hm
          rw [wrap64' (by omega)]
          refine ⟨(m, x), by omega, ⟨by omega, hi⟩, ?_⟩
          refine DEnt.ovk 9 4 rfl rfl ?_ rfl rfl
          simp only [SubX, List.take_succ_cons, List.take_zero, lk, nbeqB,  ↓cond_true, ↓cond_false, beq_self_eq_true, eq_self, Option.some.injEq, List.take_succ_cons, List.take_zero, and_true, and_self, Nat.reduceBEq]
          congr 1; omega
    · have : m = 0 := by simp only at hm; omega
      subst this
      exact hK x hi


abbrev PT2 : Ty := .pair (.int .u8) (.pair (.int .u8) .unit)

theorem c37 (s : Sl PT2.D) (hp : s.l.length < 1000000000) : PCalls Try.prog 37 [.sl PT2 s] (fun d => d = .sl PT2 ⟨s.l, some s.l.length⟩) := by
  refine PCalls.go ok ck36 (c := d37) (rs := r37) Try.func37 rfl (by kernel_rfl) (by kernel_rfl) rfl rfl rfl ?_
  simp (config := { maxSteps := 20000000 }) only [d37, r37, go_nil, go_reg, go_seq, go_ret, go_gh, go_ops0, go_opsK, keepM_nil, keepM_lo, FB, Nat.reducePow, Nat.reduceDiv, Nat.reduceMod, go_opsP, endP, unS_and, unl, gh1, wantD, dpure, ev, evO, lk, putD, argsD, nbeqB,  ↓cond_true, ↓cond_false, Option.map_some, sideP, lenD, dSlc, Ty.size, Ty.D, fnQ, dress, dres1, unl, finDV, frzV, sidesP, DV.kill, decide_false, Nat.reduceAdd, Nat.add_zero, beq_self_eq_true, Option.getD_none, eq_self, List.drop_zero, true_and, Nat.reduceLeDiff, and_self, Int.reduceLE, Int.toNat_zero, Int.sub_zero, Nat.reduceBEq]
  refine ⟨by omega, ?_⟩
  simp
def CO37 : CF := fun f args L => bif Nat.beq f 37 then (match args with
  | [.sl (.pair (.int .u8) (.pair (.int .u8) .unit)) s] => some (some (s.l.length < 1000000000), .sl PT2 ⟨s.l, some s.l.length⟩, L, [])
  | _ => none) else CO36 f args L
theorem ck37 : CFOk Try.prog CO37 := by
  intro f args L side d L' ks hc hs
  unfold CO37 at hc
  cases hb : Nat.beq f 37 with
  | false => rw [hb] at hc; exact ck36 f args L side d L' ks hc hs
  | true =>
    have := Nat.eq_of_beq_eq_true hb
    subst this
    simp only [hb, cond_true] at hc
    split at hc
    · simp only [Option.some.injEq, Prod.mk.injEq] at hc
      obtain ⟨rfl, rfl, rfl, rfl⟩ := hc
      exact c37 _ (hs _ rfl) L
    · cases hc

def prV (y : Nat × Nat) : Int × Int × Unit := ((y.1 : Int) + 1, (y.2 : Int) + 1, ())
def crosses (p : List Int) (y : Nat × Nat) : Bool := decide (p.getD y.2 0 < p.getD y.1 0)
def invL (p : List Int) : List (Int × Int × Unit) := ((prs p.length p.length).filter (crosses p)).map prV


theorem prs_bd {n : Nat} : ∀ {m : Nat}, m ≤ n → ∀ {y : Nat × Nat}, y ∈ prs n m → y.1 < n ∧ y.2 < n
  | 0, _, y, hy => by cases hy
  | m + 1, hm, y, hy => by
    simp only [prs, List.mem_append] at hy
    rcases hy with hy | hy
    · simp only [rowP, List.mem_map, List.mem_range] at hy
      obtain ⟨k, hk, rfl⟩ := hy
      simp only
      omega
    · exact prs_bd (by omega) hy
theorem prs_len (n : Nat) : ∀ m, m ≤ n → (prs n m).length ≤ m * n
  | 0, _ => by simp [prs]
  | m + 1, hm => by
    have := prs_len n m (by omega)
    simp only [prs, rowP, List.length_append, List.length_map, List.length_range]
    rw [Nat.succ_mul]
    omega
theorem invL_len (p : List Int) (h : p.length ≤ 8) : (invL p).length ≤ 64 := by
  have h1 := prs_len p.length p.length (Nat.le_refl _)
  have h2 : (invL p).length ≤ (prs p.length p.length).length := by
    unfold invL
    rw [List.length_map]
    exact List.length_filter_le _ _
  have h3 : p.length * p.length ≤ 8 * 8 := Nat.mul_le_mul h h
  omega

theorem c16 (p : Sl Int) (hp : Perm p.l) : PCalls Try.prog 16 [.sl (.int .u8) p] (fun d => d = .tup [.sl PT2 ⟨invL p.l, some (invL p.l).length⟩, .int .i64 0]) := by
  refine PCalls.go ok ck37 (c := d16) (rs := r16) Try.func16 rfl (by kernel_rfl) (by kernel_rfl) rfl rfl rfl ?_
  simp (config := { maxSteps := 20000000 }) only [d16, r16, go_nil, go_skip, go_reg, go_seq, go_cond, go_block, go_ret, go_gh, go_rfn, go_codeR, go_ops0, go_opsK, keepM_nil, keepM_lo, FB, Nat.reducePow, Nat.reduceDiv, Nat.reduceMod, go_opsP, go_opsE, go_opsC, endP, brB_not, brB_dec, unS_and, unl, callD, nilqD, eff1, gh1, wantD, dpure, ev, evs, lk, putD, killT, lkO, newO, argsD, nbeqB,  ↓cond_true, ↓cond_false, Option.map_some, sideP, lenD, dBin, dLoad, DV.cellA, DV.cell, Ty.D, fnQ, dress, dres1, unl, finDV, frzV, frzVs, sidesP, DV.kill, DV.killL, decide_true, decide_false, Nat.reduceAdd, beq_self_eq_true, List.append_nil, eq_self, List.getElem?_cons_zero, true_and, Nat.reduceLeDiff, Nat.reduceBEq, CO37, CO30, CO42, CO43, CO39, CO14, CO8, CO9, CO24, CO25, CO26, CO27, CO12, CO40, CO15, CO36]
  have h1 := hp.chk
  have hl := hp.len
  refine ⟨by omega, fun _ => ?_, fun q => absurd h1 q⟩
  refine DWc.rangeG ok ck37 (it51 p.l.length (by omega)) (X := List (Int × Int × Unit)) 0 [(15, .clo 51 [] [.fptr (.int .i64) (p.l.length : Int)]), (5, .bptr 4 0), (1, .bptr 3 0)]
    (fun x => ⟨6, 0, [(5, .arr PT2 x), (4, .box [.osl 5 PT2 0 x.length none]), (3, .box [.sl (.int .u8) p])]⟩)
    (fun rest x => x ++ (rest.filter (crosses p.l)).map prV = invL p.l ∧ ∀ y ∈ rest, y.1 < p.l.length ∧ y.2 < p.l.length) [] rfl ?_ ?_ ?_ ?_ ?_ ?_
  · refine DEnt.trans (DEnt.ownB 4 0 PT2 rfl rfl) ?_
    refine DEnt.of ?_; simp only [entD, entS, entO, Loc.kill, lk, lkO, stO, Loc.kill, nbeqB,  ↓cond_true, ↓cond_false, Ty.D, DV.kill, DV.killL, geN, beq_self_eq_true, Nat.ble, List.length_nil, eq_self, List.set_cons_zero, and_self, Nat.zero_le, Nat.reduceBEq, eq_self]
  · intro x
    simp only [rngOk, ownOk, nnM, nnT, noE, Loc.nn, DV.nn, DV.nnL, lowT, hasB, isB, DV.bd, DV.bdL, List.filter_cons, List.filter_nil, Option.isNone_none, Option.isNone_some, FB, bif_ff, lk, List.any_cons, List.any_nil, Bool.or_false, lkO, nbeqB,  ↓cond_true, ↓cond_false, beq_self_eq_true, Bool.and_self, if_true, Nat.ble, Nat.blt, List.all_cons, List.all_nil, eq_self, Bool.not_false, Nat.succ_eq_add_one, Nat.reduceBEq, Bool.or_true, Bool.or_self]
  · intro y; exact ⟨rfl, rfl⟩
  · exact ⟨rfl, fun y hy => prs_bd (Nat.le_refl _) hy⟩
  · intro x hx
    simp only [go_nil, go_reg, go_seq, go_ret, go_gh, go_ops0, go_opsK, keepM_nil, keepM_lo, FB, Nat.reducePow, Nat.reduceDiv, Nat.reduceMod, go_opsG1, go_opsP, go_opsC, go_blkN, unS_and, unl, callD, gh1, frzP, frzOne, List.map_cons, List.map_nil, wantD, dpure, ev, evs, lk, putD, killT, lkO, rmO, nbeqB,  ↓cond_true, ↓cond_false, Option.map_some, sideP, dLoad, Ty.D, fnQ, dress, dres1, unl, finDV, frzV, frzVs, sidesP, DV.kill, DV.killL, decide_true, decide_false, Nat.zero_add, beq_self_eq_true, Bool.and_self, List.append_nil, Nat.ble, eq_self, List.getElem?_cons_zero, List.drop_zero, and_true, true_and, Nat.reduceLeDiff, Nat.le_refl, and_self, Nat.reduceBEq, CO37, DV.tup.injEq, List.cons.injEq, true_and, and_true, eq_self]
    have hxe : x = invL p.l := by have := hx.1; simpa using this
    subst hxe
    have : (invL p.l).length < 1000000000 := by have := invL_len p.l hl.2; omega
    rw [List.take_length]
    exact ⟨this, rfl⟩
  · intro y rest x hx
    have hy := hx.2 y (List.mem_cons_self ..)
    have e1 : IntKind.i64.wrap ((y.1 : Int) + 1) = (y.1 : Int) + 1 := wrap64' (by omega)
    have e2 : IntKind.i64.wrap ((y.2 : Int) + 1) = (y.2 : Int) + 1 := wrap64' (by omega)
    have e3 : IntKind.u8.wrap ((y.1 : Int) + 1) = (y.1 : Int) + 1 := wrapU8 (by omega)
    have e4 : IntKind.u8.wrap ((y.2 : Int) + 1) = (y.2 : Int) + 1 := wrapU8 (by omega)
    simp (config := { maxSteps := 20000000 }) only [e1, e2, e3, e4, midQ, rngQ, setD, shT, lowT, List.filter_cons, List.filter_nil, go_nil, go_skip, go_reg, go_seq, go_cond, go_block, go_ops0, go_opsK, keepM_nil, keepM_hi, keepM_lo, FB, Nat.reducePow, Nat.reduceDiv, Nat.reduceMod, go_opsP, go_opsE, go_blkN, unS_and, nilqD, eff1, eStore, eApp, List.map_cons, List.map_nil, wantD, dpure, ev, evs, lk, putD, killT, memN, List.any_cons, List.any_nil, Bool.or_false, lkO, stO, newO, setO, renew, killO, Loc.kill, nbeqB,  ↓cond_true, ↓cond_false, Option.map_some, sideP, dBin, dIdx, dLoad, elB, elemsOf, asTy, unflat, DV.cellA, DV.cell, setAllD, partsD, subT, flat, Ty.size, Ty.isAgg, Ty.zero, Ty.D, DV.kill, DV.killL, decide_true, decide_false, Nat.reduceAdd, Nat.zero_add, beq_self_eq_true, Bool.and_self, if_true, List.nil_append, List.cons_append, Nat.ble, Nat.blt, List.length_cons, List.length_nil, List.all_cons, List.all_nil, List.getD_cons_zero, dite_true, eq_self, List.getElem?_cons_zero, List.set_cons_zero, List.set_cons_succ, List.drop_zero, List.take_succ_cons, true_and, Nat.reduceLeDiff, Nat.le_refl, Nat.succ_eq_add_one, List.take_nil, Nat.reduceBEq, Bool.or_self, brB_eq, decide_eq_true_eq, decide_eq_false_iff_not, Int.not_lt, Int.toNat_natCast, true_and, eq_self]
    have hlen : x.length < 1000 := by
      have h5 := congrArg List.length hx.1
      rw [List.length_append] at h5
      have := invL_len p.l hl.2
      omega
    refine ⟨by omega, by omega, fun h => ⟨by omega, x ++ [prV y], ⟨?_, fun z hz => hx.2 z (List.mem_cons_of_mem _ hz)⟩, ?_⟩, fun h => ⟨x, ⟨?_, fun z hz => hx.2 z (List.mem_cons_of_mem _ hz)⟩, ?_⟩⟩
    · have h5 : crosses p.l y = true := by unfold crosses; exact decide_eq_true h
      have := hx.1
      rw [List.filter_cons_of_pos h5] at this
      rw [List.append_assoc]
      exact this
    · refine DEnt.of ?_; simp only [entD, entS, entO, Loc.kill, Loc.box.injEq, lk, lkO, Loc.kill, nbeqB,  ↓cond_true, ↓cond_false, DV.kill, DV.killL, geN, beq_self_eq_true, Nat.ble, eq_self, and_true, true_and, and_self, Nat.zero_le, Nat.reduceBEq, List.cons.injEq, true_and, and_true, eq_self]
      rw [List.take_length, List.length_append]
      exact ⟨rfl, rfl⟩
    · have h5 : ¬ crosses p.l y = true := by unfold crosses; simp only [decide_eq_true_eq]; omega
      have := hx.1
      rw [List.filter_cons_of_neg h5] at this
      exact this
    · refine DEnt.of ?_; simp only [entD, entS, entO, Loc.kill, lk, lkO, Loc.kill, nbeqB,  ↓cond_true, ↓cond_false, DV.kill, DV.killL, geN, beq_self_eq_true, Nat.ble, eq_self, and_self, Nat.zero_le, Nat.reduceBEq, eq_self]
def CO16 : CF := fun f args L => bif Nat.beq f 16 then (match args with
  | [.sl (.int .u8) p] => some (some (Perm p.l), .tup [.sl PT2 ⟨invL p.l, some (invL p.l).length⟩, .int .i64 0], L, [])
  | _ => none) else CO37 f args L
theorem ck16 : CFOk Try.prog CO16 := by
  intro f args L side d L' ks hc hs
  unfold CO16 at hc
  cases hb : Nat.beq f 16 with
  | false => rw [hb] at hc; exact ck37 f args L side d L' ks hc hs
  | true =>
    have := Nat.eq_of_beq_eq_true hb
    subst this
    simp only [hb, cond_true] at hc
    split at hc
    · simp only [Option.some.injEq, Prod.mk.injEq] at hc
      obtain ⟨rfl, rfl, rfl, rfl⟩ := hc
      exact c16 _ (hs _ rfl) L
    · cases hc

def crB (p : List Int) (a b : Int) : Bool := (decide (a < b) && decide (p.getD b.toNat 0 < p.getD a.toNat 0)) || (decide (b < a) && decide (p.getD a.toNat 0 < p.getD b.toNat 0))
/-- The letters at which a list falls. -/
def fallsT (p : List Int) (n : Nat) : List Int := ((List.range n).filter fun k => decide (p.getD (k + 1) 0 < p.getD k 0)).map fun (k : Nat) => ((k : Int) + 1 : Int)
def fallsL (p : List Int) : List Int := fallsT p (p.length - 1)

theorem c17 (p : Sl Int) (hp : Perm p.l) : PCalls Try.prog 17 [.sl (.int .u8) p] (fun d => d = .tup [.int .i64 (invL p.l).length, .int .i64 0]) := by
  refine PCalls.go ok ck16 (c := d17) (rs := r17) Try.func17 rfl (by kernel_rfl) (by kernel_rfl) rfl rfl rfl ?_
  simp (config := { maxSteps := 20000000 }) only [d17, r17, go_nil, go_reg, go_seq, go_ret, go_ops0, go_opsK, keepM_nil, keepM_lo, FB, Nat.reducePow, Nat.reduceDiv, Nat.reduceMod, go_opsP, go_opsC, endP, unl, callD, wantD, dpure, ev, evs, lk, putD, killT, argsD, nbeqB,  ↓cond_true, ↓cond_false, Option.map_some, sideP, lenD, Ty.D, fnQ, dress, dres1, unl, finDV, frzV, frzVs, sidesP, DV.kill, DV.killL, decide_false, beq_self_eq_true, List.append_nil, eq_self, List.getElem?_cons_zero, List.getElem?_cons_succ, and_true, Nat.reduceLeDiff, Nat.reduceBEq, CO16]
  exact hp
def CO17 : CF := fun f args L => bif Nat.beq f 17 then (match args with
  | [.sl (.int .u8) p] => some (some (Perm p.l), .tup [.int .i64 (invL p.l).length, .int .i64 0], L, [])
  | _ => none) else CO16 f args L
theorem ck17 : CFOk Try.prog CO17 := by
  intro f args L side d L' ks hc hs
  unfold CO17 at hc
  cases hb : Nat.beq f 17 with
  | false => rw [hb] at hc; exact ck16 f args L side d L' ks hc hs
  | true =>
    have := Nat.eq_of_beq_eq_true hb
    subst this
    simp only [hb, cond_true] at hc
    split at hc
    · simp only [Option.some.injEq, Prod.mk.injEq] at hc
      obtain ⟨rfl, rfl, rfl, rfl⟩ := hc
      exact c17 _ (hs _ rfl) L
    · cases hc
theorem c45 (s : Sl Int) (hp : s.l.length < 1000000000) : PCalls Try.prog 45 [.sl (.int .i64) s] (fun d => d = .sl (.int .i64) ⟨s.l, some s.l.length⟩) := by
  refine PCalls.go ok ck17 (c := d45) (rs := r45) Try.func45 rfl (by kernel_rfl) (by kernel_rfl) rfl rfl rfl ?_
  simp (config := { maxSteps := 20000000 }) only [d45, r45, go_nil, go_reg, go_seq, go_ret, go_gh, go_ops0, go_opsK, keepM_nil, keepM_lo, FB, Nat.reducePow, Nat.reduceDiv, Nat.reduceMod, go_opsP, endP, unS_and, unl, gh1, wantD, dpure, ev, evO, lk, putD, argsD, nbeqB,  ↓cond_true, ↓cond_false, Option.map_some, sideP, lenD, dSlc, Ty.size, Ty.D, fnQ, dress, dres1, unl, finDV, frzV, sidesP, DV.kill, decide_false, beq_self_eq_true, Option.getD_none, eq_self, List.drop_zero, true_and, Nat.reduceLeDiff, and_self, Int.reduceLE, Int.toNat_zero, Int.sub_zero, Nat.reduceBEq]
  refine ⟨by omega, ?_⟩
  simp
def CO45 : CF := fun f args L => bif Nat.beq f 45 then (match args with
  | [.sl (.int .i64) s] => some (some (s.l.length < 1000000000), .sl (.int .i64) ⟨s.l, some s.l.length⟩, L, [])
  | _ => none) else CO17 f args L
theorem ck45 : CFOk Try.prog CO45 := by
  intro f args L side d L' ks hc hs
  unfold CO45 at hc
  cases hb : Nat.beq f 45 with
  | false => rw [hb] at hc; exact ck17 f args L side d L' ks hc hs
  | true =>
    have := Nat.eq_of_beq_eq_true hb
    subst this
    simp only [hb, cond_true] at hc
    split at hc
    · simp only [Option.some.injEq, Prod.mk.injEq] at hc
      obtain ⟨rfl, rfl, rfl, rfl⟩ := hc
      exact c45 _ (hs _ rfl) L
    · cases hc
theorem c20 (p : Sl Int) (a b : Int) (hp : 0 ≤ a ∧ a < p.l.length ∧ 0 ≤ b ∧ b < p.l.length) : PCalls Try.prog 20 [.sl (.int .u8) p, .int .i64 a, .int .i64 b] (fun d => d = .bool (crB p.l a b)) := by
  refine PCalls.go ok ck45 (c := d20) (rs := r20) Try.func20 rfl (by kernel_rfl) (by kernel_rfl) rfl rfl rfl ?_
  simp (config := { maxSteps := 20000000 }) only [d20, r20, go_nil, go_reg, go_seq, go_ret, go_ops0, go_opsK, go_opsM, keepM_nil, keepM_lo, dropM_nil, dropM_lo, FB, Nat.reducePow, Nat.reduceDiv, Nat.reduceMod, go_opsP, endP, ↓brM_true, ↓brM_false, unS_stp, unS_and, brM_mm, brM_sm, brM_ms, and_goS, bif_ff, bif_tt, unl, wantD, dpure, ev, lk, putD, argsD, nbeqB,  ↓cond_true, ↓cond_false, Option.map_some, sideP, dBin, dIdx, dLoad, dPick, subT, flat, Ty.size, Ty.isAgg, Ty.zero, Ty.D, fnQ, dress, dres1, unl, finDV, frzV, sidesP, DV.kill, decide_true, decide_false, Nat.reduceAdd, Nat.zero_add, beq_self_eq_true, bTF, bFT, Bool.and_self, Bool.and_true, List.getD_cons_zero, eq_self, Nat.reduceLeDiff, Nat.reduceBEq]
  refine ⟨fun _ => ⟨⟨by omega, by omega⟩, by omega, by omega⟩, fun _ _ => ⟨⟨by omega, by omega⟩, by omega, by omega⟩, rfl⟩
def CO20 : CF := fun f args L => bif Nat.beq f 20 then (match args with
  | [.sl (.int .u8) p, .int .i64 a, .int .i64 b] => some (some (0 ≤ a ∧ a < p.l.length ∧ 0 ≤ b ∧ b < p.l.length), .bool (crB p.l a b), L, [])
  | _ => none) else CO45 f args L
theorem ck20 : CFOk Try.prog CO20 := by
  intro f args L side d L' ks hc hs
  unfold CO20 at hc
  cases hb : Nat.beq f 20 with
  | false => rw [hb] at hc; exact ck45 f args L side d L' ks hc hs
  | true =>
    have := Nat.eq_of_beq_eq_true hb
    subst this
    simp only [hb, cond_true] at hc
    split at hc
    · simp only [Option.some.injEq, Prod.mk.injEq] at hc
      obtain ⟨rfl, rfl, rfl, rfl⟩ := hc
      exact c20 _ _ _ (hs _ rfl) L
    · cases hc

theorem fallsT_succ (p : List Int) (n : Nat) : fallsT p (n + 1) = fallsT p n ++ (if p.getD (n + 1) 0 < p.getD n 0 then [(n : Int) + 1] else []) := by
  unfold fallsT
  rw [List.range_succ, List.filter_append, List.map_append]
  congr 1
  by_cases h : p.getD (n + 1) 0 < p.getD n 0
  · rw [if_pos h, List.filter_cons_of_pos (by simpa using h)]; rfl
  · rw [if_neg h, List.filter_cons_of_neg (by simpa using h)]; rfl
theorem fallsT_len (p : List Int) (n : Nat) : (fallsT p n).length ≤ n := by
  unfold fallsT
  rw [List.length_map]
  exact Nat.le_trans (List.length_filter_le _ _) (by simp)

theorem c38 (p : Sl Int) (hp : p.l.length < 1000) : PCalls Try.prog 38 [.sl (.int .u8) p] (fun d => d = .sl (.int .i64) ⟨fallsL p.l, some (fallsL p.l).length⟩) := by
  refine PCalls.go ok ck20 (c := d38) (rs := r38) Try.func38 rfl (by kernel_rfl) (by kernel_rfl) rfl rfl rfl ?_
  simp (config := { maxSteps := 20000000 }) only [d38, r38, go_reg, go_seq, go_block, go_loop, go_ops0, go_opsG2, go_opsP, endP, gh1, wantD, dpure, ev, lk, putD, newO, argsD, nbeqB,  ↓cond_true, ↓cond_false, Option.map_some, sideP, Ty.D, Nat.reduceAdd, beq_self_eq_true, true_and]
  refine DWc.loopG ok ck20 (α := Nat) (fun i => ⟨[(4, .int .i64 ((i : Int) + 1)), (3, .osl 3 (.int .i64) 0 (fallsT p.l i).length none), (0, .sl (.int .u8) p)], ⟨4, 0, [(3, .arr (.int .i64) (fallsT p.l i))]⟩⟩) (fun i => i ≤ p.l.length - 1) (fun i => p.l.length - i) 0 ?_ ?_ ?_
  · refine DEnt.of ?_; simp only [entD, entS, entO, Loc.kill, lk, lkO, Loc.kill, nbeqB,  ↓cond_true, ↓cond_false, DV.kill, geN, beq_self_eq_true, Nat.ble, eq_self, and_true, true_and, and_self, Nat.zero_le, Nat.reduceBEq, DV.int.injEq, true_and, and_true, eq_self]
    exact ⟨⟨rfl, rfl⟩, rfl⟩
  · simp
  · intro i hi
    simp only [l38_0, go_nil, go_skip, go_reg, go_seq, go_cond, go_block, go_exit, go_ret, go_gh, go_codeX, go_ops0, go_opsK, keepM_nil, keepM_lo, FB, Nat.reducePow, Nat.reduceDiv, Nat.reduceMod, go_opsG1, go_opsP, go_opsE, go_opsC, go_blkN, go_blkX, go_rndN, go_rndX, unS_and, unl, callD, nilqD, eff1, eApp, gh1, frzP, frzOne, List.map_cons, List.map_nil, wantD, dpure, ev, evs, lk, putD, killT, memN, List.any_cons, List.any_nil, Bool.or_false, lkO, stO, rmO, newO, renew, killO, Loc.kill, nbeqB,  ↓cond_true, ↓cond_false, Option.map_some, sideP, lenD, dBin, dIdx, dLoad, elB, elemsOf, asTy, unflat, DV.cellA, DV.cell, subT, flat, Ty.size, Ty.isAgg, Ty.zero, Ty.D, fnQ, dress, dres1, unl, finDV, frzV, sidesP, DV.kill, decide_true, decide_false, Nat.reduceAdd, Nat.zero_add, beq_self_eq_true, Bool.and_self, if_true, Nat.ble, List.length_cons, List.length_nil, List.getD_cons_zero, dite_true, eq_self, List.drop_zero, List.take_succ_cons, true_and, Nat.reduceLeDiff, Nat.le_refl, and_self, List.take_nil, Nat.reduceBEq, Bool.or_self, CO20, CO45, brB_eq, decide_eq_true_eq, decide_eq_false_iff_not, Int.not_lt, true_and, eq_self]
    have hf := fallsT_len p.l i
    have e1 : IntKind.i64.wrap ((i : Int) + 1 - 1) = i := by rw [wrap64' (by omega)]; omega
    have e2 : IntKind.i64.wrap ((i : Int) + 1 + 1) = ((i + 1 : Nat) : Int) + 1 := by rw [wrap64' (by omega)]; omega
    have e3 : ((i : Int) + 1).toNat = i + 1 := by omega
    rw [e1, e2, e3, Int.toNat_natCast]
    refine ⟨fun h => ⟨by omega, by omega, fun h2 => ⟨by omega, i + 1, by omega, by omega, ?_⟩, fun h2 => ⟨i + 1, by omega, by omega, ?_⟩⟩, fun h => ?_⟩
    · have e := fallsT_succ p.l i
      rw [if_pos h2] at e
      refine DEnt.of ?_; simp only [entD, entS, entO, Loc.kill, lk, lkO, Loc.kill, nbeqB,  ↓cond_true, ↓cond_false, DV.kill, geN, beq_self_eq_true, Nat.ble, eq_self, and_true, true_and, and_self, Nat.zero_le, Nat.reduceBEq, true_and, and_true, eq_self]
      rw [e, List.take_length, List.length_append]
      exact ⟨rfl, rfl⟩
    · have e := fallsT_succ p.l i
      rw [if_neg (by omega), List.append_nil] at e
      refine DEnt.of ?_; simp only [entD, entS, entO, Loc.kill, lk, lkO, Loc.kill, nbeqB,  ↓cond_true, ↓cond_false, DV.kill, geN, beq_self_eq_true, Nat.ble, eq_self, and_true, true_and, and_self, Nat.zero_le, Nat.reduceBEq, true_and, and_true, eq_self]
      rw [e]
      exact ⟨rfl, rfl⟩
    · have : i = p.l.length - 1 := by omega
      subst this
      unfold fallsL
      rw [List.take_length]
      exact ⟨by omega, rfl⟩
def CO38 : CF := fun f args L => bif Nat.beq f 38 then (match args with
  | [.sl (.int .u8) p] => some (some (p.l.length < 1000), .sl (.int .i64) ⟨fallsL p.l, some (fallsL p.l).length⟩, L, [])
  | _ => none) else CO20 f args L
theorem ck38 : CFOk Try.prog CO38 := by
  intro f args L side d L' ks hc hs
  unfold CO38 at hc
  cases hb : Nat.beq f 38 with
  | false => rw [hb] at hc; exact ck20 f args L side d L' ks hc hs
  | true =>
    have := Nat.eq_of_beq_eq_true hb
    subst this
    simp only [hb, cond_true] at hc
    split at hc
    · simp only [Option.some.injEq, Prod.mk.injEq] at hc
      obtain ⟨rfl, rfl, rfl, rfl⟩ := hc
      exact c38 _ (hs _ rfl) L
    · cases hc
theorem c18 (p : Sl Int) (hp : Perm p.l) : PCalls Try.prog 18 [.sl (.int .u8) p] (fun d => d = .tup [.sl (.int .i64) ⟨fallsL p.l, some (fallsL p.l).length⟩, .int .i64 0]) := by
  refine PCalls.go ok ck38 (c := d18) (rs := r18) Try.func18 rfl (by kernel_rfl) (by kernel_rfl) rfl rfl rfl ?_
  simp (config := { maxSteps := 20000000 }) only [d18, r18, go_nil, go_skip, go_reg, go_seq, go_cond, go_ret, go_gh, go_codeR, go_ops0, go_opsK, keepM_nil, keepM_lo, FB, Nat.reducePow, Nat.reduceDiv, Nat.reduceMod, go_opsP, go_opsC, endP, brB_not, brB_dec, unS_and, unl, callD, gh1, wantD, dpure, ev, evs, lk, putD, killT, argsD, nbeqB,  ↓cond_true, ↓cond_false, Option.map_some, sideP, dBin, Ty.D, fnQ, dress, dres1, unl, finDV, frzV, frzVs, sidesP, DV.kill, DV.killL, decide_true, decide_false, beq_self_eq_true, List.append_nil, eq_self, and_true, true_and, Nat.reduceLeDiff, and_self, Nat.reduceBEq, CO38, CO30, CO42, CO43, CO39, CO14, CO8, CO9, CO24, CO25, CO26, CO27, CO12, CO40, CO15, CO36, CO37, CO16, CO17, CO45, CO20]
  have h1 := hp.chk
  have h3 := hp.len
  refine ⟨by omega, fun _ => by omega, fun q => absurd h1 q⟩
def CO18 : CF := fun f args L => bif Nat.beq f 18 then (match args with
  | [.sl (.int .u8) p] => some (some (Perm p.l), .tup [.sl (.int .i64) ⟨fallsL p.l, some (fallsL p.l).length⟩, .int .i64 0], L, [])
  | _ => none) else CO38 f args L
theorem ck18 : CFOk Try.prog CO18 := by
  intro f args L side d L' ks hc hs
  unfold CO18 at hc
  cases hb : Nat.beq f 18 with
  | false => rw [hb] at hc; exact ck38 f args L side d L' ks hc hs
  | true =>
    have := Nat.eq_of_beq_eq_true hb
    subst this
    simp only [hb, cond_true] at hc
    split at hc
    · simp only [Option.some.injEq, Prod.mk.injEq] at hc
      obtain ⟨rfl, rfl, rfl, rfl⟩ := hc
      exact c18 _ (hs _ rfl) L
    · cases hc
theorem c19 (p : Sl Int) (hp : Perm p.l) : PCalls Try.prog 19 [.sl (.int .u8) p] (fun d => d = .tup [.sl (.int .i64) ⟨fallsL (backS p.l).l, some (fallsL (backS p.l).l).length⟩, .int .i64 0]) := by
  refine PCalls.go ok ck18 (c := d19) (rs := r19) Try.func19 rfl (by kernel_rfl) (by kernel_rfl) rfl rfl rfl ?_
  simp (config := { maxSteps := 20000000 }) only [d19, r19, go_nil, go_skip, go_reg, go_seq, go_cond, go_ret, go_gh, go_codeR, go_ops0, go_opsK, keepM_nil, keepM_lo, FB, Nat.reducePow, Nat.reduceDiv, Nat.reduceMod, go_opsP, go_opsC, endP, brB_not, brB_dec, unS_and, unl, callD, gh1, wantD, dpure, ev, evs, lk, putD, killT, argsD, nbeqB,  ↓cond_true, ↓cond_false, Option.map_some, sideP, dBin, Ty.D, fnQ, dress, dres1, unl, finDV, frzV, frzVs, sidesP, DV.kill, DV.killL, decide_true, decide_false, beq_self_eq_true, List.append_nil, eq_self, and_true, true_and, Nat.reduceLeDiff, and_self, Nat.reduceBEq, CO18, CO30, CO42, CO43, CO39, CO14, CO8, CO9, CO24, CO25, CO26, CO27, CO12, CO40, backS_len, CO15, CO36, CO37, CO16, CO17, CO45, CO20, CO38]
  have h1 := hp.chk
  have h3 := hp.len
  refine ⟨by omega, fun _ => ⟨hp, by omega⟩, fun q => absurd h1 q⟩
def CO19 : CF := fun f args L => bif Nat.beq f 19 then (match args with
  | [.sl (.int .u8) p] => some (some (Perm p.l), .tup [.sl (.int .i64) ⟨fallsL (backS p.l).l, some (fallsL (backS p.l).l).length⟩, .int .i64 0], L, [])
  | _ => none) else CO18 f args L
theorem ck19 : CFOk Try.prog CO19 := by
  intro f args L side d L' ks hc hs
  unfold CO19 at hc
  cases hb : Nat.beq f 19 with
  | false => rw [hb] at hc; exact ck18 f args L side d L' ks hc hs
  | true =>
    have := Nat.eq_of_beq_eq_true hb
    subst this
    simp only [hb, cond_true] at hc
    split at hc
    · simp only [Option.some.injEq, Prod.mk.injEq] at hc
      obtain ⟨rfl, rfl, rfl, rfl⟩ := hc
      exact c19 _ (hs _ rfl) L
    · cases hc
theorem c21a (a : List Int) (c : Nat) (b : Sl Int) (hp : a.length < 1000000 ∧ b.l.length < 1000000) : PCalls Try.prog 21 [.sl (.int .i64) ⟨a, some c⟩, .sl (.int .i64) b] (fun d => d = .bool (decide (a = b.l ∧ c = a.length))) := by
  refine PCalls.go ok ck19 (c := d21) (rs := r21) Try.func21 rfl (by kernel_rfl) (by kernel_rfl) rfl rfl rfl ?_
  simp (config := { maxSteps := 20000000 }) only [d21, r21, go_nil, go_skip, go_reg, go_seq, go_cond, go_block, go_loop, go_ret, go_codeR, go_ops0, go_opsK, go_opsM, keepM_nil, keepM_lo, dropM_nil, dropM_lo, FB, Nat.reducePow, Nat.reduceDiv, Nat.reduceMod, go_opsP, endP, ↓brB_true, ↓brB_false, brB_not, brB_dec, unS_stp, brM_mm, bif_ff, bif_tt, unl, wantD, dpure, ev, lk, putD, argsD, nbeqB,  ↓cond_true, ↓cond_false, Option.map_some, sideP, lenD, capD, dBin, dPick, Ty.D, fnQ, dress, dres1, unl, finDV, frzV, sidesP, DV.kill, decide_true, decide_false, Nat.zero_add, beq_self_eq_true, bTF, Bool.and_true, eq_self, Nat.reduceLeDiff, Nat.reduceBEq]
  rw [brB_eq]
  refine ⟨fun h => ?_, fun h => ?_⟩
  · have : ¬ (a = b.l ∧ c = a.length) := by
      rintro ⟨h1, h2⟩
      subst h2
      rw [h1] at h
      simp at h
    simp [this]
  · have h : a.length = b.l.length ∧ c = a.length := by
      simp only [Bool.or_eq_false_iff, decide_eq_true_eq, Bool.not_eq_false'] at h
      omega
    refine DWc.loopG ok ck19 (α := Nat) (fun i => ⟨[(5, .int .i64 (i : Int)), (0, .sl (.int .i64) ⟨a, some c⟩), (1, .sl (.int .i64) b)], ⟨3, 0, []⟩⟩) (fun i => i ≤ a.length ∧ ∀ j, j < i → a.getD j 0 = b.l.getD j 0) (fun i => a.length - i) 0 ?_ ?_ ?_
    · refine DEnt.of ?_; simp only [entD, entS, entO, lk, nbeqB,  ↓cond_true, ↓cond_false, Ty.D, DV.kill, beq_self_eq_true, eq_self, and_true, true_and, and_self, Nat.zero_le, Nat.reduceBEq, DV.int.injEq, true_and, and_true, eq_self]
      rfl
    · exact ⟨Nat.zero_le _, fun j hj => by omega⟩
    · intro i hi
      simp only [l21_0, go_nil, go_skip, go_reg, go_seq, go_cond, go_block, go_exit, go_ret, go_codeX, go_codeR, go_ops0, go_opsK, keepM_nil, keepM_lo, FB, Nat.reducePow, Nat.reduceDiv, Nat.reduceMod, go_opsP, go_blkN, go_blkX, go_blkR, go_rndN, go_rndX, go_rndR, unS_and, unl, wantD, dpure, ev, lk, putD, nbeqB,  ↓cond_true, ↓cond_false, Option.map_some, sideP, lenD, dBin, dIdx, dLoad, subT, flat, Ty.size, Ty.isAgg, Ty.zero, Ty.D, fnQ, dress, dres1, unl, finDV, frzV, sidesP, DV.kill, decide_true, decide_false, beq_self_eq_true, Bool.and_self, List.getD_cons_zero, eq_self, Nat.reduceLeDiff, Nat.reduceBEq, brB_eq, decide_eq_true_eq, decide_eq_false_iff_not, Bool.not_eq_true', Bool.not_eq_false', Int.not_lt, Int.toNat_natCast, DV.bool.injEq, eq_self]
      refine ⟨fun h1 => ⟨by omega, by omega, fun h2 => ?_, fun h2 => ⟨i + 1, by omega, ⟨by omega, fun j hj => ?_⟩, ?_⟩⟩, fun h1 => ?_⟩
      · have : ¬ a = b.l := by rintro rfl; exact absurd rfl h2
        simp [this]
      · rcases Nat.lt_or_ge j i with hji | hji
        · exact hi.2 j hji
        · have : j = i := by omega
          subst this; exact h2
      · refine DEnt.of ?_; simp only [entD, entS, entO, lk, nbeqB,  ↓cond_true, ↓cond_false, DV.kill, beq_self_eq_true, eq_self, and_true, true_and, and_self, Nat.zero_le, Nat.reduceBEq, DV.int.injEq, true_and, and_true, eq_self]
        rw [wrap64' (by omega)]; rfl
      · have e : a = b.l := by
          refine List.ext_getElem h.1 fun j h2 h3 => ?_
          have := hi.2 j (by omega)
          simpa [h2, h3] using this
        simp [e, h.2]

def eqL (a b : List Int) (c : Nat) : Bool := decide (a = b ∧ c = a.length)
theorem c21 (a b : Sl Int) (h : a.cap ≠ none ∧ a.l.length < 1000000 ∧ b.l.length < 1000000) : PCalls Try.prog 21 [.sl (.int .i64) a, .sl (.int .i64) b] (fun d => d = .bool (eqL a.l b.l (a.cap.getD 0))) := by
  obtain ⟨a, c⟩ := a
  cases c with
  | none => exact absurd rfl h.1
  | some c => exact c21a a c b h.2

def CO21 : CF := fun f args L => bif Nat.beq f 21 then (match args with
  | [.sl (.int .i64) a, .sl (.int .i64) b] => some (some (a.cap ≠ none ∧ a.l.length < 1000000 ∧ b.l.length < 1000000), .bool (eqL a.l b.l (a.cap.getD 0)), L, [])
  | _ => none) else CO19 f args L
theorem ck21 : CFOk Try.prog CO21 := by
  intro f args L side d L' ks hc hs
  unfold CO21 at hc
  cases hb : Nat.beq f 21 with
  | false => rw [hb] at hc; exact ck19 f args L side d L' ks hc hs
  | true =>
    have := Nat.eq_of_beq_eq_true hb
    subst this
    simp only [hb, cond_true] at hc
    split at hc
    · simp only [Option.some.injEq, Prod.mk.injEq] at hc
      obtain ⟨rfl, rfl, rfl, rfl⟩ := hc
      exact c21 _ _ (hs _ rfl) L
    · cases hc
end Go.Proofs.Ytpchlfmlolkeeaa

namespace Go.Proofs.Ytpchlfmlolkeeaa
open Go Go.RowKit Go.Am
/-! Inversions are counted. -/
def nInv : List Int → Nat
  | [] => 0
  | x :: l => l.countP (fun y => decide (y < x)) + nInv l
def swp (l : List Int) (k : Nat) : List Int := (l.set k (l.getD (k + 1) 0)).set (k + 1) (l.getD k 0)
theorem swp_zero (x y : Int) (l : List Int) : swp (x :: y :: l) 0 = y :: x :: l := by simp [swp]
theorem swp_succ (z : Int) (l : List Int) (k : Nat) : swp (z :: l) (k + 1) = z :: swp l k := by simp [swp]
theorem swp_len (l : List Int) (k : Nat) : (swp l k).length = l.length := by simp [swp]
theorem swp_perm : ∀ (l : List Int) (k : Nat), k + 1 < l.length → (swp l k).Perm l
  | [], k, h => by simp at h
  | [x], k, h => by simp at h
  | x :: y :: l, 0, _ => by rw [swp_zero]; exact List.Perm.swap x y l
  | z :: l, k + 1, h => by rw [swp_succ]; exact (swp_perm l k (by simpa using h)).cons z
theorem nInv_swp : ∀ (l : List Int) (k : Nat), k + 1 < l.length → l.getD (k + 1) 0 < l.getD k 0 → nInv (swp l k) + 1 = nInv l
  | [], k, h, _ => by simp at h
  | [x], k, h, _ => by simp at h
  | x :: y :: l, 0, _, h2 => by
    rw [swp_zero]
    simp only [nInv, List.countP_cons]
    simp at h2
    have h3 : ¬ x < y := by omega
    simp [h2, h3]
    omega
  | z :: l, k + 1, h, h2 => by
    have hl : k + 1 < l.length := by simpa using h
    rw [swp_succ]
    simp only [nInv]
    rw [(swp_perm l k hl).countP_eq]
    have := nInv_swp l k hl (by simpa using h2)
    omega
theorem rowP_eq (n a : Nat) : rowP n a (a + 1) = ((List.range (n - (a + 1))).map fun k => a + 1 + k).map fun b => (a, b) := by
  unfold rowP; rw [List.map_map]; rfl
theorem row_count (p : List Int) (a : Nat) (h : a < p.length) : (rowP p.length a (a + 1)).countP (crosses p) = (p.drop (a + 1)).countP fun y => decide (y < p.getD a 0) := by
  unfold rowP
  rw [List.countP_map]
  have e : p.drop (a + 1) = (List.range (p.length - (a + 1))).map fun k => p.getD (a + 1 + k) 0 := by
    apply List.ext_getElem
    · simp
    · intro i h1 h2
      simp at h1
      have : a + 1 + i < p.length := by omega
      simp [this]
  rw [e, List.countP_map]
  rfl
theorem nInv_prs (p : List Int) : ∀ m, m ≤ p.length → (prs p.length m).countP (crosses p) = nInv (p.drop (p.length - m))
  | 0, _ => by simp [prs, nInv]
  | m + 1, h => by
    simp only [prs, List.countP_append]
    rw [row_count p _ (by omega), nInv_prs p m (by omega)]
    have e : p.drop (p.length - (m + 1)) = p.getD (p.length - (m + 1)) 0 :: p.drop (p.length - m) := by
      rw [List.drop_eq_getElem_cons (by omega)]
      have e1 : p.length - (m + 1) + 1 = p.length - m := by omega
      have : p.length - (m + 1) < p.length := by omega
      rw [e1]; simp [this]
    rw [e]
    simp only [nInv]
    have e1 : p.length - (m + 1) + 1 = p.length - m := by omega
    rw [e1]
theorem invL_nInv (p : List Int) : (invL p).length = nInv p := by
  unfold invL
  rw [List.length_map, ← List.countP_eq_length_filter, nInv_prs p p.length (Nat.le_refl _)]
  simp
/-! Pairs are counted twice. -/
theorem prs_succ (f : Nat × Nat → Bool) (n : Nat) : ∀ m, m ≤ n → (prs (n + 1) (m + 1)).countP f = (prs n m).countP f + ((List.range m).map fun t => n - m + t).countP fun a => f (a, n)
  | 0, _ => by simp [prs, rowP]
  | m + 1, h => by
    have e1 : prs (n + 1) (m + 1 + 1) = rowP (n + 1) (n - (m + 1)) (n - (m + 1) + 1) ++ prs (n + 1) (m + 1) := by
      simp only [prs]
      have : n + 1 - (m + 1 + 1) = n - (m + 1) := by omega
      rw [this]
    have e2 : rowP (n + 1) (n - (m + 1)) (n - (m + 1) + 1) = rowP n (n - (m + 1)) (n - (m + 1) + 1) ++ [(n - (m + 1), n)] := by
      unfold rowP
      have : n + 1 - (n - (m + 1) + 1) = (n - (n - (m + 1) + 1)) + 1 := by omega
      rw [this, List.range_succ, List.map_append]
      congr 1
      simp; omega
    have e3 : (List.range (m + 1)).map (fun t => n - (m + 1) + t) = (n - (m + 1)) :: (List.range m).map fun t => n - m + t := by
      rw [List.range_succ_eq_map]
      simp only [List.map_cons, List.map_map, Nat.add_zero, List.cons.injEq, true_and]
      exact List.map_congr_left fun k _ => by simp; omega
    rw [e1, e2, e3, List.countP_append, List.countP_append, prs_succ f n m (by omega)]
    simp only [prs, List.countP_append, List.countP_cons, List.countP_nil]
    omega
theorem range_map_id (n : Nat) : ((List.range n).map fun t => n - n + t) = List.range n := by
  have : (fun t => n - n + t) = id := by funext t; simp
  rw [this, List.map_id]
def dbl (f : Nat × Nat → Bool) (n : Nat) : Nat := ((List.range n).map fun a => (List.range n).countP fun b => f (a, b)).sum
theorem sum_add (f g : Nat → Nat) : ∀ l : List Nat, (l.map fun a => f a + g a).sum = (l.map f).sum + (l.map g).sum
  | [] => rfl
  | x :: l => by simp [sum_add f g l]; omega
theorem sum_ind (f : Nat → Bool) : ∀ l : List Nat, (l.map fun a => if f a = true then 1 else 0).sum = l.countP f
  | [] => rfl
  | x :: l => by simp [sum_ind f l, List.countP_cons]; omega
theorem dbl_prs (f : Nat × Nat → Bool) (hs : ∀ a b, f (a, b) = f (b, a)) (hi : ∀ a, f (a, a) = false) : ∀ n, dbl f n = 2 * (prs n n).countP f
  | 0 => by simp [dbl, prs]
  | n + 1 => by
    rw [prs_succ f n n (Nat.le_refl _), range_map_id]
    have ih := dbl_prs f hs hi n
    unfold dbl at ih ⊢
    rw [List.range_succ, List.map_append, List.sum_append]
    simp only [List.map_cons, List.map_nil, List.countP_append, List.countP_cons, List.countP_nil, Nat.zero_add, List.sum_cons, List.sum_nil, hi, Bool.false_eq_true, if_false, Nat.add_zero]
    rw [sum_add, sum_ind, ih]
    have : (List.range n).countP (fun b => f (n, b)) = (List.range n).countP fun a => f (a, n) := by
      congr 1; funext b; exact hs n b
    rw [this]
    omega
theorem prs_two : ∀ n, 2 * (prs n n).length = n * (n - 1)
  | 0 => rfl
  | n + 1 => by
    have h := prs_succ (fun _ => true) n n (Nat.le_refl _)
    rw [range_map_id] at h
    simp only [List.countP_true, List.length_range] at h
    have ih := prs_two n
    rw [h, Nat.mul_add, ih]
    cases n with
    | zero => rfl
    | succ n => simp only [Nat.add_sub_cancel]; rw [Nat.mul_comm 2, ← Nat.mul_add, Nat.mul_comm]
/-- The pairs that two permutations order differently. -/
def dis (p q : List Int) (y : Nat × Nat) : Bool := (decide (p.getD y.1 0 < p.getD y.2 0) && decide (q.getD y.2 0 < q.getD y.1 0)) || (decide (p.getD y.2 0 < p.getD y.1 0) && decide (q.getD y.1 0 < q.getD y.2 0))
def sig (p : List Int) (i : Nat) : Nat := (idxOf p ((i : Int) + 1)).toNat
theorem sig_spec {p : List Int} (hp : Perm p) {i : Nat} (hi : i < p.length) : sig p i < p.length ∧ p.getD (sig p i) 0 = (i : Int) + 1 ∧ ((sig p i : Nat) : Int) = idxOf p ((i : Int) + 1) := by
  have m := idxOf_mem (hp.all i hi)
  have b := idxOf_bd p ((i : Int) + 1)
  unfold sig
  refine ⟨by omega, m.2, by omega⟩
theorem sig_perm {p : List Int} (hp : Perm p) : ((List.range p.length).map (sig p)).Perm (List.range p.length) := by
  have nd : ((List.range p.length).map (sig p)).Nodup := by
    rw [List.nodup_iff_pairwise_ne, List.pairwise_map]
    refine List.Pairwise.imp_of_mem (fun {a b} ha hb hab e => ?_) (List.pairwise_lt_range (n := p.length))
    have h1 := (sig_spec hp (List.mem_range.1 ha)).2.1
    have h2 := (sig_spec hp (List.mem_range.1 hb)).2.1
    rw [e] at h1
    omega
  have mem : ∀ x, x ∈ (List.range p.length).map (sig p) ↔ x ∈ List.range p.length := by
    intro x
    constructor
    · intro hx
      obtain ⟨i, hi, rfl⟩ := List.mem_map.1 hx
      exact List.mem_range.2 (sig_spec hp (List.mem_range.1 hi)).1
    · intro hx
      have hx := List.mem_range.1 hx
      have hg := hp.get hx
      refine List.mem_map.2 ⟨(p.getD x 0 - 1).toNat, List.mem_range.2 (by omega), ?_⟩
      unfold sig
      have : (((p.getD x 0 - 1).toNat : Nat) : Int) + 1 = p.getD x 0 := by omega
      rw [this, hp.idx hx]; rfl
  rw [List.perm_iff_count]
  intro x
  rw [nd.count, List.nodup_range.count]
  by_cases h : x ∈ List.range p.length
  · rw [if_pos ((mem x).2 h), if_pos h]
  · rw [if_neg (fun q => h ((mem x).1 q)), if_neg h]
theorem prs_lt {n : Nat} : ∀ {m : Nat} {y : Nat × Nat}, y ∈ prs n m → y.1 < y.2
  | 0, y, hy => by cases hy
  | m + 1, y, hy => by
    simp only [prs, List.mem_append] at hy
    rcases hy with hy | hy
    · simp only [rowP, List.mem_map, List.mem_range] at hy
      obtain ⟨k, hk, rfl⟩ := hy
      simp only; omega
    · exact prs_lt hy
theorem crB_lt' {p : List Int} {a b : Nat} (h : a < b) : crB p a b = crosses p (a, b) := by
  unfold crB crosses
  have h1 : ((a : Int) < b) := by omega
  have h2 : ¬ ((b : Int) < a) := by omega
  simp [h1, h2]
theorem nInv_rest {p q : List Int} (hp : Perm p) : nInv (thenS (backS p).l q).l = (prs p.length p.length).countP (dis p q) := by
  generalize hr : (thenS (backS p).l q).l = r
  have hrl : r.length = p.length := by rw [← hr, thenS_len, backS_len]
  have hrg : ∀ i, i < p.length → r.getD i 0 = q.getD (sig p i) 0 := by
    intro i hi
    rw [← hr, thenS_get (by rw [backS_len]; exact hi)]
    have e : (backS p).l.getD i 0 = idxOf p ((i : Int) + 1) + 1 := tab_get hi
    rw [e]
    unfold sig
    congr 2; omega
  let f : Nat × Nat → Bool := fun y => crB r y.1 y.2
  have fs : ∀ a b, f (a, b) = f (b, a) := fun a b => by simp only [f, crB, Bool.or_comm]
  have fi : ∀ a, f (a, a) = false := fun a => by simp [f, crB]
  have ds : ∀ a b, dis p q (a, b) = dis p q (b, a) := fun a b => by simp only [dis, Bool.or_comm]
  have di : ∀ a, dis p q (a, a) = false := fun a => by simp [dis]
  have h1 := dbl_prs f fs fi p.length
  have h2 := dbl_prs (dis p q) ds di p.length
  have hsame : dbl f p.length = dbl (dis p q) p.length := by
    have e1 : dbl f p.length = ((List.range p.length).map fun i => ((List.range p.length).map (sig p)).countP fun b => dis p q (sig p i, b)).sum := by
      unfold dbl
      congr 1
      refine List.map_congr_left fun i hi => ?_
      rw [List.countP_map]
      refine List.countP_congr fun j hj => ?_
      have hi := List.mem_range.1 hi
      have hj := List.mem_range.1 hj
      obtain ⟨a1, a2, a3⟩ := sig_spec hp hi
      obtain ⟨b1, b2, b3⟩ := sig_spec hp hj
      have c1 : ((i : Int) < j) = ((i : Int) + 1 < (j : Int) + 1) := by simp
      simp only [f, crB, dis, Function.comp, Int.toNat_natCast, hrg i hi, hrg j hj, a2, b2]
      simp
    rw [e1]
    have e2 : ((List.range p.length).map fun i => ((List.range p.length).map (sig p)).countP fun b => dis p q (sig p i, b)) = ((List.range p.length).map (sig p)).map fun a => (List.range p.length).countP fun b => dis p q (a, b) := by
      rw [List.map_map]
      refine List.map_congr_left fun i hi => ?_
      simp only [Function.comp]
      exact (sig_perm hp).countP_eq _
    rw [e2]
    unfold dbl
    exact List.Perm.sum_nat ((sig_perm hp).map _)
  have h3 : nInv r = (prs p.length p.length).countP f := by
    rw [← invL_nInv]
    unfold invL
    rw [List.length_map, ← List.countP_eq_length_filter, hrl]
    refine List.countP_congr fun y hy => ?_
    have : y.1 < y.2 := prs_lt hy
    show crosses r y = true ↔ crB r y.1 y.2 = true
    rw [crB_lt' this]
  omega
end Go.Proofs.Ytpchlfmlolkeeaa

