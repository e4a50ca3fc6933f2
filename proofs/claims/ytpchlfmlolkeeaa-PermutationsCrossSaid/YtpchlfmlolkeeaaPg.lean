/-
  Texts that belong together: Pf3, Pf4.
-/
import Derived.Test.YtpchlfmlolkeeaaPd
set_option linter.unusedSimpArgs false
set_option linter.unusedVariables false
namespace Go.Proofs.Ytpchlfmlolkeeaa
open Go Go.RowKit Go.Am
set_option linter.unusedSimpArgs false
set_option linter.unusedVariables false
set_option maxRecDepth 20000
set_option maxHeartbeats 4000000
theorem c36 (n : Int) : PCalls Try.prog 36 [.int .i64 n] (fun d => d = .clo 51 [] [.fptr (.int .i64) n]) := by
  refine PCalls.go ok ck15 (c := d36) (rs := r36) Try.func36 rfl (by kernel_rfl) (by kernel_rfl) rfl rfl rfl ?_
  simp (config := { maxSteps := 20000000 }) only [d36, r36, go_nil, go_reg, go_seq, go_ret, go_ops0, go_opsG7, go_opsP, go_opsE, endP, unl, nilqD, eff1, gh1, wantD, dpure, ev, evs, lk, putD, killT, lkO, rmO, newO, argsD, nbeqB,  ↓cond_true, ↓cond_false, Option.map_some, sideP, asTy, unflat, DV.cellA, DV.cell, Ty.D, fnQ, dress, dres1, unl, finDV, frzV, sidesP, DV.kill, DV.killL, Nat.reduceAdd, beq_self_eq_true, Bool.and_self, if_true, Nat.ble, eq_self, and_self, Nat.reduceBEq]
  
def CO36 : CF := fun f args L => bif Nat.beq f 36 then (match args with
  | [.int .i64 n] => some (none, .clo 51 [] [.fptr (.int .i64) n], L, [])
  | _ => none) else CO15 f args L
theorem ck36 : CFOk Try.prog CO36 := by
  intro f args L side d L' ks hc hs
  unfold CO36 at hc
  cases hb : Nat.beq f 36 with
  | false => rw [hb] at hc; exact ck15 f args L side d L' ks hc hs
  | true =>
    have := Nat.eq_of_beq_eq_true hb
    subst this
    simp only [hb, cond_true] at hc
    split at hc
    · simp only [Option.some.injEq, Prod.mk.injEq] at hc
      obtain ⟨rfl, rfl, rfl, rfl⟩ := hc
      exact c36 _ L
    · cases hc

/-- The pairs of indices, row by row. -/
def rowP (n a b : Nat) : List (Nat × Nat) := (List.range (n - b)).map fun k => (a, b + k)
def prs (n : Nat) : Nat → List (Nat × Nat)
  | 0 => []
  | m + 1 => rowP n (n - (m + 1)) (n - (m + 1) + 1) ++ prs n m
theorem rowP_cons {n a b : Nat} (h : b < n) : rowP n a b = (a, b) :: rowP n a (b + 1) := by
  unfold rowP
  have e : n - b = (n - (b + 1)) + 1 := by omega
  rw [e, List.range_succ_eq_map]
  simp only [List.map_cons, List.map_map, Nat.add_zero, List.cons.injEq, true_and]
  exact List.map_congr_left fun k _ => by simp; omega
theorem rowP_nil {n a b : Nat} (h : n ≤ b) : rowP n a b = [] := by
  unfold rowP
  have e : n - b = 0 := by omega
  rw [e]; rfl
abbrev prD (y : Nat × Nat) : List DV := [.int .i64 y.1, .int .i64 y.2]
theorem it51 (n : Nat) (hn : n < 1000) : Iter Try.prog 51 [] [.fptr (.int .i64) (n : Int)] prD (prs n n) := by
  refine ⟨⟨_, Try.func51, rfl⟩, fun X t r M inv K hy hK x hx => ?_⟩
  refine DI_in ok ck36 (c := d51) (rs := r51) Try.func51 rfl (by kernel_rfl) (by kernel_rfl) rfl rfl ?_
  simp (config := { maxSteps := 20000000 }) only [d51, r51, go_reg, go_seq, go_block, go_loop, go_ops0, go_opsP, wantD, dpure, ev, lk, putD, argsD, nbeqB,  ↓cond_true, ↓cond_false, Option.map_some, sideP, dLoad, subT, flat, Ty.size, Ty.isAgg, Nat.zero_add, beq_self_eq_true, Bool.and_self, List.nil_append, List.cons_append, List.getD_cons_zero, Nat.reduceBEq]
  refine DWc.loopG ok ck36 (α := Nat × X) (fun y => ⟨[(6, .int .i64 ((n - y.1 : Nat) : Int)), (5, .int .i64 (n : Int)), (1, .fptr (.int .i64) (n : Int)), (0, .yl r)] ++ shT t, M y.2⟩) (fun y => y.1 ≤ n ∧ inv (prs n y.1) y.2) (fun y => y.1) (n, x) ?_ ?_ ?_
  · refine DEnt.ov (a := [(6, _), (5, _), (0, .yl r), (1, _)]) ?_ rfl rfl
    simp only [SubX, lk, nbeqB,  ↓cond_true, ↓cond_false, beq_self_eq_true, eq_self, Option.some.injEq, and_true, and_self, Nat.reduceBEq]
    simp
  · exact ⟨Nat.le_refl _, hx⟩
  · rintro ⟨m, x⟩ ⟨hm, hi⟩
    simp only [l51_0, inK, dresL, unT, unT_sh, go_nil, go_skip, go_reg, go_seq, go_cond, go_block, go_loop, go_exit, go_codeX, go_ops0, go_opsK, keepM_lo, keepM_sh, FB, Nat.reducePow, Nat.reduceDiv, Nat.reduceMod, go_opsP, go_blkX, go_rndX, wantD, dpure, ev, lk, putD, nbeqB,  ↓cond_true, ↓cond_false, Option.map_some, sideP, dBin, finDV, sidesP, decide_true, decide_false, beq_self_eq_true, List.nil_append, List.cons_append, eq_self, Nat.reduceLeDiff, Nat.reduceBEq, brB_eq, decide_eq_true_eq, decide_eq_false_iff_not, Int.not_lt, eq_self]
    refine ⟨fun h => ?_, fun h => ?_⟩
    · have hm1 : 0 < m := by simp only at hm; omega
      obtain ⟨m, rfl⟩ : ∃ k, m = k + 1 := ⟨m - 1, by omega⟩
      rw [wrap64' (by omega)]
      refine DWc.loopG ok ck36 (α := Nat × X) (fun y => ⟨[(4, .int .i64 (y.1 : Int)), (3, .int .i64 ((n - (m + 1) : Nat) : Int)), (6, .int .i64 ((n - (m + 1) : Nat) : Int)), (5, .int .i64 (n : Int)), (1, .fptr (.int .i64) (n : Int)), (0, .yl r)] ++ shT t, M y.2⟩)
        (fun y => n - m ≤ y.1 ∧ y.1 ≤ n ∧ inv (rowP n (n - (m + 1)) y.1 ++ prs n m) y.2) (fun y => n - y.1) (n - m, x) ?_ ?_ ?_
      · refine DEnt.ovk 6 6 rfl rfl ?_ rfl rfl
        simp only [SubX, List.take_succ_cons, List.take_zero, lk, nbeqB,  ↓cond_true, ↓cond_false, beq_self_eq_true, List.nil_append, List.cons_append, eq_self, Option.some.injEq, List.take_succ_cons, List.take_zero, and_true, and_self, Nat.reduceBEq]
        congr 1; omega
      · refine ⟨Nat.le_refl _, by omega, ?_⟩
        have : n - m = n - (m + 1) + 1 := by simp only at hm; omega
        rw [this]; exact hi
      · rintro ⟨b, x⟩ ⟨h1, h2, hi⟩
        simp only [l51_1, go_nil, go_skip, go_reg, go_seq, go_cond, go_block, go_exit, go_codeX, go_ops0, go_opsK, keepM_lo, keepM_sh, FB, Nat.reducePow, Nat.reduceDiv, Nat.reduceMod, go_opsP, go_opsC, go_blkN, go_blkX, go_rndN, go_rndX, unS_and, tgtD, callD, wantD, dpure, ev, evs, lk, putD, nbeqB,  ↓cond_true, ↓cond_false, Option.map_some, sideP, dBin, dLoad, subT, flat, Ty.size, Ty.isAgg, decide_true, decide_false, beq_self_eq_true, Bool.and_self, List.nil_append, List.cons_append, List.getD_cons_zero, eq_self, Nat.reduceLeDiff, Nat.reduceBEq, brB_eq, decide_eq_true_eq, decide_eq_false_iff_not, Int.not_lt, eq_self]
        refine ⟨fun h3 => ?_, fun h3 => ?_⟩
        · simp only at h1 h2 hi hm
          have hb : b < n := by omega
          rw [rowP_cons hb] at hi
          refine goY_it 10 (hy _ _ _ hi _ ?_) rfl ?_
          · simp only [List.take_succ_cons, List.take_zero, nnT_cons, nnT_nil, DV.nn, nisN, ltT, FB, nbeqB,  beq_self_eq_true, Bool.and_self, Nat.ble, Nat.blt, List.all_cons, List.all_nil, eq_self, List.take_succ_cons, List.take_zero, Bool.not_true, Bool.not_false, Nat.succ_eq_add_one]
          · rintro d t' L' (⟨rfl, rfl, x', hx', rfl⟩ | ⟨rfl, t'', rfl, hKK⟩)
            · simp only [go_skip, go_reg, go_cond, go_ops0, go_opsK, keepM_lo, keepM_sh, FB, Nat.reducePow, Nat.reduceDiv, Nat.reduceMod, go_opsP, go_blkN, go_rndN, ↓brB_false, ↓brM_false, wantD, dpure, ev, lk, putD, nbeqB,  ↓cond_true, ↓cond_false, Option.map_some, sideP, dBin, decide_true, decide_false, beq_self_eq_true, List.nil_append, List.cons_append, eq_self, List.take_succ_cons, List.take_zero, Nat.reduceLeDiff, Bool.not_true, Nat.reduceBEq, eq_self, Bool.not_true]
              rw [wrap64' (by omega)]
              refine ⟨(b + 1, x'), by omega, ⟨by omega, by omega, hx'⟩, ?_⟩
              refine DEnt.ovk 7 6 rfl rfl ?_ rfl rfl
              simp only [SubX, List.take_succ_cons, List.take_zero, lk, nbeqB,  ↓cond_true, ↓cond_false, beq_self_eq_true, eq_self, Option.some.injEq, List.take_succ_cons, List.take_zero, and_true, and_self, Nat.reduceBEq]
              rfl
            · simp only [inK, dresL, unT, unT_sh, go_nil, go_cond, go_ret, go_codeR, go_ops0, go_opsK, keepM_lo, keepM_sh, FB, Nat.reducePow, Nat.reduceDiv, Nat.reduceMod, go_opsP, go_blkR, go_rndR, ↓brB_true, ↓brM_true, wantD, dpure, ev, lk, putD, nbeqB,  ↓cond_true, ↓cond_false, sideP, finDV, sidesP, decide_false, beq_self_eq_true, List.nil_append, List.cons_append, eq_self, List.take_succ_cons, List.take_zero, Nat.reduceLeDiff, Bool.not_false, Nat.reduceBEq, eq_self, Bool.not_false]
              exact hKK
        · have : b = n := by simp only at h2; omega
          subst this
          rw [rowP_nil (Nat.le_refl _)] at hi
          simp only at hm
          rw [wrap64' (by omega)]
          refine ⟨(m, x), by omega, ⟨by omega, hi⟩, ?_⟩
          refine DEnt.ovk 9 4 rfl rfl ?_ rfl rfl
          simp only [SubX, List.take_succ_cons, List.take_zero, lk, nbeqB,  ↓cond_true, ↓cond_false, beq_self_eq_true, eq_self, Option.some.injEq, List.take_succ_cons, List.take_zero, and_true, and_self, Nat.reduceBEq]
          congr 1; omega
    · have : m = 0 := by simp only at hm; omega
      subst this
      exact hK x hi


abbrev PT2 : Ty := .pair (.int .u8) (.pair (.int .u8) .unit)

theorem c37 (s : Sl PT2.D) (hp : s.l.length < 1000000000) : PCalls Try.prog 37 [.sl PT2 s] (fun d => d = .sl PT2 ⟨s.l, some s.l.length⟩) := by
  refine PCalls.go ok ck36 (c := d37) (rs := r37) Try.func37 rfl (by kernel_rfl) (by kernel_rfl) rfl rfl rfl ?_
  simp (config := { maxSteps := 20000000 }) only [d37, r37, go_nil, go_reg, go_seq, go_ret, go_gh, go_ops0, go_opsK, keepM_nil, keepM_lo, FB, Nat.reducePow, Nat.reduceDiv, Nat.reduceMod, go_opsP, endP, unS_and, unl, gh1, wantD, dpure, ev, evO, lk, putD, argsD, nbeqB,  ↓cond_true, ↓cond_false, Option.map_some, sideP, lenD, dSlc, Ty.size, Ty.D, fnQ, dress, dres1, unl, finDV, frzV, sidesP, DV.kill, decide_false, Nat.reduceAdd, Nat.add_zero, beq_self_eq_true, Option.getD_none, eq_self, List.drop_zero, true_and, Nat.reduceLeDiff, and_self, Int.reduceLE, Int.toNat_zero, Int.sub_zero, Nat.reduceBEq]
  refine ⟨by omega, ?_⟩
  simp
def CO37 : CF := fun f args L => bif Nat.beq f 37 then (match args with
  | [.sl (.pair (.int .u8) (.pair (.int .u8) .unit)) s] => some (some (s.l.length < 1000000000), .sl PT2 ⟨s.l, some s.l.length⟩, L, [])
  | _ => none) else CO36 f args L
theorem ck37 : CFOk Try.prog CO37 := by
  intro f args L side d L' ks hc hs
  unfold CO37 at hc
  cases hb : Nat.beq f 37 with
  | false => rw [hb] at hc; exact ck36 f args L side d L' ks hc hs
  | true =>
    have := Nat.eq_of_beq_eq_true hb
    subst this
    simp only [hb, cond_true] at hc
    split at hc
    · simp only [Option.some.injEq, Prod.mk.injEq] at hc
      obtain ⟨rfl, rfl, rfl, rfl⟩ := hc
      exact c37 _ (hs _ rfl) L
    · cases hc

def prV (y : Nat × Nat) : Int × Int × Unit := ((y.1 : Int) + 1, (y.2 : Int) + 1, ())
def crosses (p : List Int) (y : Nat × Nat) : Bool := decide (p.getD y.2 0 < p.getD y.1 0)
def invL (p : List Int) : List (Int × Int × Unit) := ((prs p.length p.length).filter (crosses p)).map prV


theorem prs_bd {n : Nat} : ∀ {m : Nat}, m ≤ n → ∀ {y : Nat × Nat}, y ∈ prs n m → y.1 < n ∧ y.2 < n
  | 0, _, y, hy => by cases hy
  | m + 1, hm, y, hy => by
    simp only [prs, List.mem_append] at hy
    rcases hy with hy | hy
    · simp only [rowP, List.mem_map, List.mem_range] at hy
      obtain ⟨k, hk, rfl⟩ := hy
      simp only
      omega
    · exact prs_bd (by omega) hy
theorem prs_len (n : Nat) : ∀ m, m ≤ n → (prs n m).length ≤ m * n
  | 0, _ => by simp [prs]
  | m + 1, hm => by
    have := prs_len n m (by omega)
    simp only [prs, rowP, List.length_append, List.length_map, List.length_range]
    rw [Nat.succ_mul]
    omega
theorem invL_len (p : List Int) (h : p.length ≤ 8) : (invL p).length ≤ 64 := by
  have h1 := prs_len p.length p.length (Nat.le_refl _)
  have h2 : (invL p).length ≤ (prs p.length p.length).length := by
    unfold invL
    rw [List.length_map]
    exact List.length_filter_le _ _
  have h3 : p.length * p.length ≤ 8 * 8 := Nat.mul_le_mul h h
  omega

theorem c16 (p : Sl Int) (hp : Perm p.l) : PCalls Try.prog 16 [.sl (.int .u8) p] (fun d => d = .tup [.sl PT2 ⟨invL p.l, some (invL p.l).length⟩, .int .i64 0]) := by
  refine PCalls.go ok ck37 (c := d16) (rs := r16) Try.func16 rfl (by kernel_rfl) (by kernel_rfl) rfl rfl rfl ?_
  simp (config := { maxSteps := 20000000 }) only [d16, r16, go_nil, go_skip, go_reg, go_seq, go_cond, go_block, go_ret, go_gh, go_rfn, go_codeR, go_ops0, go_opsK, keepM_nil, keepM_lo, FB, Nat.reducePow, Nat.reduceDiv, Nat.reduceMod, go_opsP, go_opsE, go_opsC, endP, brB_not, brB_dec, unS_and, unl, callD, nilqD, eff1, gh1, wantD, dpure, ev, evs, lk, putD, killT, lkO, newO, argsD, nbeqB,  ↓cond_true, ↓cond_false, Option.map_some, sideP, lenD, dBin, dLoad, DV.cellA, DV.cell, Ty.D, fnQ, dress, dres1, unl, finDV, frzV, frzVs, sidesP, DV.kill, DV.killL, decide_true, decide_false, Nat.reduceAdd, beq_self_eq_true, List.append_nil, eq_self, List.getElem?_cons_zero, true_and, Nat.reduceLeDiff, Nat.reduceBEq, CO37, CO30, CO42, CO43, CO39, CO14, CO8, CO9, CO24, CO25, CO26, CO27, CO12, CO40, CO15, CO36]
  have h1 := hp.chk
  have hl := hp.len
  refine ⟨by omega, fun _ => ?_, fun q => absurd h1 q⟩
  refine DWc.rangeG ok ck37 (it51 p.l.length (by omega)) (X := List (Int × Int × Unit)) 0 [(15, .clo 51 [] [.fptr (.int .i64) (p.l.length : Int)]), (5, .bptr 4 0), (1, .bptr 3 0)]
    (fun x => ⟨6, 0, [(5, .arr PT2 x), (4, .box [.osl 5 PT2 0 x.length none]), (3, .box [.sl (.int .u8) p])]⟩)
    (fun rest x => x ++ (rest.filter (crosses p.l)).map prV = invL p.l ∧ ∀ y ∈ rest, y.1 < p.l.length ∧ y.2 < p.l.length) [] rfl ?_ ?_ ?_ ?_ ?_ ?_
  · refine DEnt.trans (DEnt.ownB 4 0 PT2 rfl rfl) ?_
    refine DEnt.of ?_; simp only [entD, entS, entO, Loc.kill, lk, lkO, stO, Loc.kill, nbeqB,  ↓cond_true, ↓cond_false, Ty.D, DV.kill, DV.killL, geN, beq_self_eq_true, Nat.ble, List.length_nil, eq_self, List.set_cons_zero, and_self, Nat.zero_le, Nat.reduceBEq, eq_self]
  · intro x
    simp only [rngOk, ownOk, nnM, nnT, noE, Loc.nn, DV.nn, DV.nnL, lowT, hasB, isB, DV.bd, DV.bdL, List.filter_cons, List.filter_nil, Option.isNone_none, Option.isNone_some, FB, bif_ff, lk, List.any_cons, List.any_nil, Bool.or_false, lkO, nbeqB,  ↓cond_true, ↓cond_false, beq_self_eq_true, Bool.and_self, if_true, Nat.ble, Nat.blt, List.all_cons, List.all_nil, eq_self, Bool.not_false, Nat.succ_eq_add_one, Nat.reduceBEq, Bool.or_true, Bool.or_self]
  · intro y; exact ⟨rfl, rfl⟩
  · exact ⟨rfl, fun y hy => prs_bd (Nat.le_refl _) hy⟩
  · intro x hx
    simp only [go_nil, go_reg, go_seq, go_ret, go_gh, go_ops0, go_opsK, keepM_nil, keepM_lo, FB, Nat.reducePow, Nat.reduceDiv, Nat.reduceMod, go_opsG1, go_opsP, go_opsC, go_blkN, unS_and, unl, callD, gh1, frzP, frzOne, List.map_cons, List.map_nil, wantD, dpure, ev, evs, lk, putD, killT, lkO, rmO, nbeqB,  ↓cond_true, ↓cond_false, Option.map_some, sideP, dLoad, Ty.D, fnQ, dress, dres1, unl, finDV, frzV, frzVs, sidesP, DV.kill, DV.killL, decide_true, decide_false, Nat.zero_add, beq_self_eq_true, Bool.and_self, List.append_nil, Nat.ble, eq_self, List.getElem?_cons_zero, List.drop_zero, and_true, true_and, Nat.reduceLeDiff, Nat.le_refl, and_self, Nat.reduceBEq, CO37, DV.tup.injEq, List.cons.injEq, true_and, and_true, eq_self]
    have hxe : x = invL p.l := by have := hx.1; simpa using this
    subst hxe
    have : (invL p.l).length < 1000000000 := by have := invL_len p.l hl.2; omega
    rw [List.take_length]
    exact ⟨this, rfl⟩
  · intro y rest x hx
    have hy := hx.2 y (List.mem_cons_self ..)
    have e1 : IntKind.i64.wrap ((y.1 : Int) + 1) = (y.1 : Int) + 1 := wrap64' (by omega)
    have e2 : IntKind.i64.wrap ((y.2 : Int) + 1) = (y.2 : Int) + 1 := wrap64' (by omega)
    have e3 : IntKind.u8.wrap ((y.1 : Int) + 1) = (y.1 : Int) + 1 := wrapU8 (by omega)
    have e4 : IntKind.u8.wrap ((y.2 : Int) + 1) = (y.2 : Int) + 1 := wrapU8 (by omega)
    simp (config := { maxSteps := 20000000 }) only [e1, e2, e3, e4, midQ, rngQ, setD, shT, lowT, List.filter_cons, List.filter_nil, go_nil, go_skip, go_reg, go_seq, go_cond, go_block, go_ops0, go_opsK, keepM_nil, keepM_hi, keepM_lo, FB, Nat.reducePow, Nat.reduceDiv, Nat.reduceMod, go_opsP, go_opsE, go_blkN, unS_and, nilqD, eff1, eStore, eApp, List.map_cons, List.map_nil, wantD, dpure, ev, evs, lk, putD, killT, memN, List.any_cons, List.any_nil, Bool.or_false, lkO, stO, newO, setO, renew, killO, Loc.kill, nbeqB,  ↓cond_true, ↓cond_false, Option.map_some, sideP, dBin, dIdx, dLoad, elB, elemsOf, asTy, unflat, DV.cellA, DV.cell, setAllD, partsD, subT, flat, Ty.size, Ty.isAgg, Ty.zero, Ty.D, DV.kill, DV.killL, decide_true, decide_false, Nat.reduceAdd, Nat.zero_add, beq_self_eq_true, Bool.and_self, if_true, List.nil_append, List.cons_append, Nat.ble, Nat.blt, List.length_cons, List.length_nil, List.all_cons, List.all_nil, List.getD_cons_zero, dite_true, eq_self, List.getElem?_cons_zero, List.set_cons_zero, List.set_cons_succ, List.drop_zero, List.take_succ_cons, true_and, Nat.reduceLeDiff, Nat.le_refl, Nat.succ_eq_add_one, List.take_nil, Nat.reduceBEq, Bool.or_self, brB_eq, decide_eq_true_eq, decide_eq_false_iff_not, Int.not_lt, Int.toNat_natCast, true_and, eq_self]
    have hlen : x.length < 1000 := by
      have h5 := congrArg List.length hx.1
      rw [List.length_append] at h5
      have := invL_len p.l hl.2
      omega
    refine ⟨by omega, by omega, fun h => ⟨by omega, x ++ [prV y], ⟨?_, fun z hz => hx.2 z (List.mem_cons_of_mem _ hz)⟩, ?_⟩, fun h => ⟨x, ⟨?_, fun z hz => hx.2 z (List.mem_cons_of_mem _ hz)⟩, ?_⟩⟩
    · have h5 : crosses p.l y = true := by unfold crosses; exact decide_eq_true h
      have := hx.1
      rw [List.filter_cons_of_pos h5] at this
      rw [List.append_assoc]
      exact this
    · refine DEnt.of ?_; simp only [entD, entS, entO, Loc.kill, Loc.box.injEq, lk, lkO, Loc.kill, nbeqB,  ↓cond_true, ↓cond_false, DV.kill, DV.killL, geN, beq_self_eq_true, Nat.ble, eq_self, and_true, true_and, and_self, Nat.zero_le, Nat.reduceBEq, List.cons.injEq, true_and, and_true, eq_self]
      rw [List.take_length, List.length_append]
      exact ⟨rfl, rfl⟩
    · have h5 : ¬ crosses p.l y = true := by unfold crosses; simp only [decide_eq_true_eq]; omega
      have := hx.1
      rw [List.filter_cons_of_neg h5] at this
      exact this
    · refine DEnt.of ?_; simp only [entD, entS, entO, Loc.kill, lk, lkO, Loc.kill, nbeqB,  ↓cond_true, ↓cond_false, DV.kill, DV.killL, geN, beq_self_eq_true, Nat.ble, eq_self, and_self, Nat.zero_le, Nat.reduceBEq, eq_self]
def CO16 : CF := fun f args L => bif Nat.beq f 16 then (match args with
  | [.sl (.int .u8) p] => some (some (Perm p.l), .tup [.sl PT2 ⟨invL p.l, some (invL p.l).length⟩, .int .i64 0], L, [])
  | _ => none) else CO37 f args L
theorem ck16 : CFOk Try.prog CO16 := by
  intro f args L side d L' ks hc hs
  unfold CO16 at hc
  cases hb : Nat.beq f 16 with
  | false => rw [hb] at hc; exact ck37 f args L side d L' ks hc hs
  | true =>
    have := Nat.eq_of_beq_eq_true hb
    subst this
    simp only [hb, cond_true] at hc
    split at hc
    · simp only [Option.some.injEq, Prod.mk.injEq] at hc
      obtain ⟨rfl, rfl, rfl, rfl⟩ := hc
      exact c16 _ (hs _ rfl) L
    · cases hc

def crB (p : List Int) (a b : Int) : Bool := (decide (a < b) && decide (p.getD b.toNat 0 < p.getD a.toNat 0)) || (decide (b < a) && decide (p.getD a.toNat 0 < p.getD b.toNat 0))
/-- The letters at which a list falls. -/
def fallsT (p : List Int) (n : Nat) : List Int := ((List.range n).filter fun k => decide (p.getD (k + 1) 0 < p.getD k 0)).map fun (k : Nat) => ((k : Int) + 1 : Int)
def fallsL (p : List Int) : List Int := fallsT p (p.length - 1)

theorem c17 (p : Sl Int) (hp : Perm p.l) : PCalls Try.prog 17 [.sl (.int .u8) p] (fun d => d = .tup [.int .i64 (invL p.l).length, .int .i64 0]) := by
  refine PCalls.go ok ck16 (c := d17) (rs := r17) Try.func17 rfl (by kernel_rfl) (by kernel_rfl) rfl rfl rfl ?_
  simp (config := { maxSteps := 20000000 }) only [d17, r17, go_nil, go_reg, go_seq, go_ret, go_ops0, go_opsK, keepM_nil, keepM_lo, FB, Nat.reducePow, Nat.reduceDiv, Nat.reduceMod, go_opsP, go_opsC, endP, unl, callD, wantD, dpure, ev, evs, lk, putD, killT, argsD, nbeqB,  ↓cond_true, ↓cond_false, Option.map_some, sideP, lenD, Ty.D, fnQ, dress, dres1, unl, finDV, frzV, frzVs, sidesP, DV.kill, DV.killL, decide_false, beq_self_eq_true, List.append_nil, eq_self, List.getElem?_cons_zero, List.getElem?_cons_succ, and_true, Nat.reduceLeDiff, Nat.reduceBEq, CO16]
  exact hp
def CO17 : CF := fun f args L => bif Nat.beq f 17 then (match args with
  | [.sl (.int .u8) p] => some (some (Perm p.l), .tup [.int .i64 (invL p.l).length, .int .i64 0], L, [])
  | _ => none) else CO16 f args L
theorem ck17 : CFOk Try.prog CO17 := by
  intro f args L side d L' ks hc hs
  unfold CO17 at hc
  cases hb : Nat.beq f 17 with
  | false => rw [hb] at hc; exact ck16 f args L side d L' ks hc hs
  | true =>
    have := Nat.eq_of_beq_eq_true hb
    subst this
    simp only [hb, cond_true] at hc
    split at hc
    · simp only [Option.some.injEq, Prod.mk.injEq] at hc
      obtain ⟨rfl, rfl, rfl, rfl⟩ := hc
      exact c17 _ (hs _ rfl) L
    · cases hc
theorem c45 (s : Sl Int) (hp : s.l.length < 1000000000) : PCalls Try.prog 45 [.sl (.int .i64) s] (fun d => d = .sl (.int .i64) ⟨s.l, some s.l.length⟩) := by
  refine PCalls.go ok ck17 (c := d45) (rs := r45) Try.func45 rfl (by kernel_rfl) (by kernel_rfl) rfl rfl rfl ?_
  simp (config := { maxSteps := 20000000 }) only [d45, r45, go_nil, go_reg, go_seq, go_ret, go_gh, go_ops0, go_opsK, keepM_nil, keepM_lo, FB, Nat.reducePow, Nat.reduceDiv, Nat.reduceMod, go_opsP, endP, unS_and, unl, gh1, wantD, dpure, ev, evO, lk, putD, argsD, nbeqB,  ↓cond_true, ↓cond_false, Option.map_some, sideP, lenD, dSlc, Ty.size, Ty.D, fnQ, dress, dres1, unl, finDV, frzV, sidesP, DV.kill, decide_false, beq_self_eq_true, Option.getD_none, eq_self, List.drop_zero, true_and, Nat.reduceLeDiff, and_self, Int.reduceLE, Int.toNat_zero, Int.sub_zero, Nat.reduceBEq]
  refine ⟨by omega, ?_⟩
  simp
def CO45 : CF := fun f args L => bif Nat.beq f 45 then (match args with
  | [.sl (.int .i64) s] => some (some (s.l.length < 1000000000), .sl (.int .i64) ⟨s.l, some s.l.length⟩, L, [])
  | _ => none) else CO17 f args L
theorem ck45 : CFOk Try.prog CO45 := by
  intro f args L side d L' ks hc hs
  unfold CO45 at hc
  cases hb : Nat.beq f 45 with
  | false => rw [hb] at hc; exact ck17 f args L side d L' ks hc hs
  | true =>
    have := Nat.eq_of_beq_eq_true hb
    subst this
    simp only [hb, cond_true] at hc
    split at hc
    · simp only [Option.some.injEq, Prod.mk.injEq] at hc
      obtain ⟨rfl, rfl, rfl, rfl⟩ := hc
      exact c45 _ (hs _ rfl) L
    · cases hc
theorem c20 (p : Sl Int) (a b : Int) (hp : 0 ≤ a ∧ a < p.l.length ∧ 0 ≤ b ∧ b < p.l.length) : PCalls Try.prog 20 [.sl (.int .u8) p, .int .i64 a, .int .i64 b] (fun d => d = .bool (crB p.l a b)) := by
  refine PCalls.go ok ck45 (c := d20) (rs := r20) Try.func20 rfl (by kernel_rfl) (by kernel_rfl) rfl rfl rfl ?_
  simp (config := { maxSteps := 20000000 }) only [d20, r20, go_nil, go_reg, go_seq, go_ret, go_ops0, go_opsK, go_opsM, keepM_nil, keepM_lo, dropM_nil, dropM_lo, FB, Nat.reducePow, Nat.reduceDiv, Nat.reduceMod, go_opsP, endP, ↓brM_true, ↓brM_false, unS_stp, unS_and, brM_mm, brM_sm, brM_ms, and_goS, bif_ff, bif_tt, unl, wantD, dpure, ev, lk, putD, argsD, nbeqB,  ↓cond_true, ↓cond_false, Option.map_some, sideP, dBin, dIdx, dLoad, dPick, subT, flat, Ty.size, Ty.isAgg, Ty.zero, Ty.D, fnQ, dress, dres1, unl, finDV, frzV, sidesP, DV.kill, decide_true, decide_false, Nat.reduceAdd, Nat.zero_add, beq_self_eq_true, bTF, bFT, Bool.and_self, Bool.and_true, List.getD_cons_zero, eq_self, Nat.reduceLeDiff, Nat.reduceBEq]
  refine ⟨fun _ => ⟨⟨by omega, by omega⟩, by omega, by omega⟩, fun _ _ => ⟨⟨by omega, by omega⟩, by omega, by omega⟩, rfl⟩
def CO20 : CF := fun f args L => bif Nat.beq f 20 then (match args with
  | [.sl (.int .u8) p, .int .i64 a, .int .i64 b] => some (some (0 ≤ a ∧ a < p.l.length ∧ 0 ≤ b ∧ b < p.l.length), .bool (crB p.l a b), L, [])
  | _ => none) else CO45 f args L
theorem ck20 : CFOk Try.prog CO20 := by
  intro f args L side d L' ks hc hs
  unfold CO20 at hc
  cases hb : Nat.beq f 20 with
  | false => rw [hb] at hc; exact ck45 f args L side d L' ks hc hs
  | true =>
    have := Nat.eq_of_beq_eq_true hb
    subst this
    simp only [hb, cond_true] at hc
    split at hc
    · simp only [Option.some.injEq, Prod.mk.injEq] at hc
      obtain ⟨rfl, rfl, rfl, rfl⟩ := hc
      exact c20 _ _ _ (hs _ rfl) L
    · cases hc

theorem fallsT_succ (p : List Int) (n : Nat) : fallsT p (n + 1) = fallsT p n ++ (if p.getD (n + 1) 0 < p.getD n 0 then [(n : Int) + 1] else []) := by
  unfold fallsT
  rw [List.range_succ, List.filter_append, List.map_append]
  congr 1
  by_cases h : p.getD (n + 1) 0 < p.getD n 0
  · rw [if_pos h, List.filter_cons_of_pos (by simpa using h)]; rfl
  · rw [if_neg h, List.filter_cons_of_neg (by simpa using h)]; rfl
theorem fallsT_len (p : List Int) (n : Nat) : (fallsT p n).length ≤ n := by
  unfold fallsT
  rw [List.length_map]
  exact Nat.le_trans (List.length_filter_le _ _) (by simp)

theorem c38 (p : Sl Int) (hp : p.l.length < 1000) : PCalls Try.prog 38 [.sl (.int .u8) p] (fun d => d = .sl (.int .i64) ⟨fallsL p.l, some (fallsL p.l).length⟩) := by
  refine PCalls.go ok ck20 (c := d38) (rs := r38) Try.func38 rfl (by kernel_rfl) (by kernel_rfl) rfl rfl rfl ?_
  simp (config := { maxSteps := 20000000 }) only [d38, r38, go_reg, go_seq, go_block, go_loop, go_ops0, go_opsG2, go_opsP, endP, gh1, wantD, dpure, ev, lk, putD, newO, argsD, nbeqB,  ↓cond_true, ↓cond_false, Option.map_some, sideP, Ty.D, Nat.reduceAdd, beq_self_eq_true, true_and]
  refine DWc.loopG ok ck20 (α := Nat) (fun i => ⟨[(4, .int .i64 ((i : Int) + 1)), (3, .osl 3 (.int .i64) 0 (fallsT p.l i).length none), (0, .sl (.int .u8) p)], ⟨4, 0, [(3, .arr (.int .i64) (fallsT p.l i))]⟩⟩) (fun i => i ≤ p.l.length - 1) (fun i => p.l.length - i) 0 ?_ ?_ ?_
  · refine DEnt.of ?_; simp only [entD, entS, entO, Loc.kill, lk, lkO, Loc.kill, nbeqB,  ↓cond_true, ↓cond_false, DV.kill, geN, beq_self_eq_true, Nat.ble, eq_self, and_true, true_and, and_self, Nat.zero_le, Nat.reduceBEq, DV.int.injEq, true_and, and_true, eq_self]
    exact ⟨⟨rfl, rfl⟩, rfl⟩
  · simp
  · intro i hi
    simp only [l38_0, go_nil, go_skip, go_reg, go_seq, go_cond, go_block, go_exit, go_ret, go_gh, go_codeX, go_ops0, go_opsK, keepM_nil, keepM_lo, FB, Nat.reducePow, Nat.reduceDiv, Nat.reduceMod, go_opsG1, go_opsP, go_opsE, go_opsC, go_blkN, go_blkX, go_rndN, go_rndX, unS_and, unl, callD, nilqD, eff1, eApp, gh1, frzP, frzOne, List.map_cons, List.map_nil, wantD, dpure, ev, evs, lk, putD, killT, memN, List.any_cons, List.any_nil, Bool.or_false, lkO, stO, rmO, newO, renew, killO, Loc.kill, nbeqB,  ↓cond_true, ↓cond_false, Option.map_some, sideP, lenD, dBin, dIdx, dLoad, elB, elemsOf, asTy, unflat, DV.cellA, DV.cell, subT, flat, Ty.size, Ty.isAgg, Ty.zero, Ty.D, fnQ, dress, dres1, unl, finDV, frzV, sidesP, DV.kill, decide_true, decide_false, Nat.reduceAdd, Nat.zero_add, beq_self_eq_true, Bool.and_self, if_true, Nat.ble, List.length_cons, List.length_nil, List.getD_cons_zero, dite_true, eq_self, List.drop_zero, List.take_succ_cons, true_and, Nat.reduceLeDiff, Nat.le_refl, and_self, List.take_nil, Nat.reduceBEq, Bool.or_self, CO20, CO45, brB_eq, decide_eq_true_eq, decide_eq_false_iff_not, Int.not_lt, true_and, eq_self]
    have hf := fallsT_len p.l i
    have e1 : IntKind.i64.wrap ((i : Int) + 1 - 1) = i := by rw [wrap64' (by omega)]; omega
    have e2 : IntKind.i64.wrap ((i : Int) + 1 + 1) = ((i + 1 : Nat) : Int) + 1 := by rw [wrap64' (by omega)]; omega
    have e3 : ((i : Int) + 1).toNat = i + 1 := by omega
    rw [e1, e2, e3, Int.toNat_natCast]
    refine ⟨fun h => ⟨by omega, by omega, fun h2 => ⟨by omega, i + 1, by omega, by omega, ?_⟩, fun h2 => ⟨i + 1, by omega, by omega, ?_⟩⟩, fun h => ?_⟩
    · have e := fallsT_succ p.l i
      rw [if_pos h2] at e
      refine DEnt.of ?_; simp only [entD, entS, entO, Loc.kill, lk, lkO, Loc.kill, nbeqB,  ↓cond_true, ↓cond_false, DV.kill, geN, beq_self_eq_true, Nat.ble, eq_self, and_true, true_and, and_self, Nat.zero_le, Nat.reduceBEq, true_and, and_true, eq_self]
      rw [e, List.take_length, List.length_append]
      exact ⟨rfl, rfl⟩
    · have e := fallsT_succ p.l i
      rw [if_neg (by omega), List.append_nil] at e
      refine DEnt.of ?_; simp only [entD, entS, entO, Loc.kill, lk, lkO, Loc.kill, nbeqB,  ↓cond_true, ↓cond_false, DV.kill, geN, beq_self_eq_true, Nat.ble, eq_self, and_true, true_and, and_self, Nat.zero_le, Nat.reduceBEq, true_and, and_true, eq_self]
      rw [e]
      exact ⟨rfl, rfl⟩
    · have : i = p.l.length - 1 := by omega
      subst this
      unfold fallsL
      rw [List.take_length]
      exact ⟨by omega, rfl⟩
def CO38 : CF := fun f args L => bif Nat.beq f 38 then (match args with
  | [.sl (.int .u8) p] => some (some (p.l.length < 1000), .sl (.int .i64) ⟨fallsL p.l, some (fallsL p.l).length⟩, L, [])
  | _ => none) else CO20 f args L
theorem ck38 : CFOk Try.prog CO38 := by
  intro f args L side d L' ks hc hs
  unfold CO38 at hc
  cases hb : Nat.beq f 38 with
  | false => rw [hb] at hc; exact ck20 f args L side d L' ks hc hs
  | true =>
    have := Nat.eq_of_beq_eq_true hb
    subst this
    simp only [hb, cond_true] at hc
    split at hc
    · simp only [Option.some.injEq, Prod.mk.injEq] at hc
      obtain ⟨rfl, rfl, rfl, rfl⟩ := hc
      exact c38 _ (hs _ rfl) L
    · cases hc
theorem c18 (p : Sl Int) (hp : Perm p.l) : PCalls Try.prog 18 [.sl (.int .u8) p] (fun d => d = .tup [.sl (.int .i64) ⟨fallsL p.l, some (fallsL p.l).length⟩, .int .i64 0]) := by
  refine PCalls.go ok ck38 (c := d18) (rs := r18) Try.func18 rfl (by kernel_rfl) (by kernel_rfl) rfl rfl rfl ?_
  simp (config := { maxSteps := 20000000 }) only [d18, r18, go_nil, go_skip, go_reg, go_seq, go_cond, go_ret, go_gh, go_codeR, go_ops0, go_opsK, keepM_nil, keepM_lo, FB, Nat.reducePow, Nat.reduceDiv, Nat.reduceMod, go_opsP, go_opsC, endP, brB_not, brB_dec, unS_and, unl, callD, gh1, wantD, dpure, ev, evs, lk, putD, killT, argsD, nbeqB,  ↓cond_true, ↓cond_false, Option.map_some, sideP, dBin, Ty.D, fnQ, dress, dres1, unl, finDV, frzV, frzVs, sidesP, DV.kill, DV.killL, decide_true, decide_false, beq_self_eq_true, List.append_nil, eq_self, and_true, true_and, Nat.reduceLeDiff, and_self, Nat.reduceBEq, CO38, CO30, CO42, CO43, CO39, CO14, CO8, CO9, CO24, CO25, CO26, CO27, CO12, CO40, CO15, CO36, CO37, CO16, CO17, CO45, CO20]
  have h1 := hp.chk
  have h3 := hp.len
  refine ⟨by omega, fun _ => by omega, fun q => absurd h1 q⟩
def CO18 : CF := fun f args L => bif Nat.beq f 18 then (match args with
  | [.sl (.int .u8) p] => some (some (Perm p.l), .tup [.sl (.int .i64) ⟨fallsL p.l, some (fallsL p.l).length⟩, .int .i64 0], L, [])
  | _ => none) else CO38 f args L
theorem ck18 : CFOk Try.prog CO18 := by
  intro f args L side d L' ks hc hs
  unfold CO18 at hc
  cases hb : Nat.beq f 18 with
  | false => rw [hb] at hc; exact ck38 f args L side d L' ks hc hs
  | true =>
    have := Nat.eq_of_beq_eq_true hb
    subst this
    simp only [hb, cond_true] at hc
    split at hc
    · simp only [Option.some.injEq, Prod.mk.injEq] at hc
      obtain ⟨rfl, rfl, rfl, rfl⟩ := hc
      exact c18 _ (hs _ rfl) L
    · cases hc
theorem c19 (p : Sl Int) (hp : Perm p.l) : PCalls Try.prog 19 [.sl (.int .u8) p] (fun d => d = .tup [.sl (.int .i64) ⟨fallsL (backS p.l).l, some (fallsL (backS p.l).l).length⟩, .int .i64 0]) := by
  refine PCalls.go ok ck18 (c := d19) (rs := r19) Try.func19 rfl (by kernel_rfl) (by kernel_rfl) rfl rfl rfl ?_
  simp (config := { maxSteps := 20000000 }) only [d19, r19, go_nil, go_skip, go_reg, go_seq, go_cond, go_ret, go_gh, go_codeR, go_ops0, go_opsK, keepM_nil, keepM_lo, FB, Nat.reducePow, Nat.reduceDiv, Nat.reduceMod, go_opsP, go_opsC, endP, brB_not, brB_dec, unS_and, unl, callD, gh1, wantD, dpure, ev, evs, lk, putD, killT, argsD, nbeqB,  ↓cond_true, ↓cond_false, Option.map_some, sideP, dBin, Ty.D, fnQ, dress, dres1, unl, finDV, frzV, frzVs, sidesP, DV.kill, DV.killL, decide_true, decide_false, beq_self_eq_true, List.append_nil, eq_self, and_true, true_and, Nat.reduceLeDiff, and_self, Nat.reduceBEq, CO18, CO30, CO42, CO43, CO39, CO14, CO8, CO9, CO24, CO25, CO26, CO27, CO12, CO40, backS_len, CO15, CO36, CO37, CO16, CO17, CO45, CO20, CO38]
  have h1 := hp.chk
  have h3 := hp.len
  refine ⟨by omega, fun _ => ⟨hp, by omega⟩, fun q => absurd h1 q⟩
def CO19 : CF := fun f args L => bif Nat.beq f 19 then (match args with
  | [.sl (.int .u8) p] => some (some (Perm p.l), .tup [.sl (.int .i64) ⟨fallsL (backS p.l).l, some (fallsL (backS p.l).l).length⟩, .int .i64 0], L, [])
  | _ => none) else CO18 f args L
theorem ck19 : CFOk Try.prog CO19 := by
  intro f args L side d L' ks hc hs
  unfold CO19 at hc
  cases hb : Nat.beq f 19 with
  | false => rw [hb] at hc; exact ck18 f args L side d L' ks hc hs
  | true =>
    have := Nat.eq_of_beq_eq_true hb
    subst this
    simp only [hb, cond_true] at hc
    split at hc
    · simp only [Option.some.injEq, Prod.mk.injEq] at hc
      obtain ⟨rfl, rfl, rfl, rfl⟩ := hc
      exact c19 _ (hs _ rfl) L
    · cases hc
theorem c21a (a : List Int) (c : Nat) (b : Sl Int) (hp : a.length < 1000000 ∧ b.l.length < 1000000) : PCalls Try.prog 21 [.sl (.int .i64) ⟨a, some c⟩, .sl (.int .i64) b] (fun d => d = .bool (decide (a = b.l ∧ c = a.length))) := by
  refine PCalls.go ok ck19 (c := d21) (rs := r21) Try.func21 rfl (by kernel_rfl) (by kernel_rfl) rfl rfl rfl ?_
  simp (config := { maxSteps := 20000000 }) only [d21, r21, go_nil, go_skip, go_reg, go_seq, go_cond, go_block, go_loop, go_ret, go_codeR, go_ops0, go_opsK, go_opsM, keepM_nil, keepM_lo, dropM_nil, dropM_lo, FB, Nat.reducePow, Nat.reduceDiv, Nat.reduceMod, go_opsP, endP, ↓brB_true, ↓brB_false, brB_not, brB_dec, unS_stp, brM_mm, bif_ff, bif_tt, unl, wantD, dpure, ev, lk, putD, argsD, nbeqB,  ↓cond_true, ↓cond_false, Option.map_some, sideP, lenD, capD, dBin, dPick, Ty.D, fnQ, dress, dres1, unl, finDV, frzV, sidesP, DV.kill, decide_true, decide_false, Nat.zero_add, beq_self_eq_true, bTF, Bool.and_true, eq_self, Nat.reduceLeDiff, Nat.reduceBEq]
  rw [brB_eq]
  refine ⟨fun h => ?_, fun h => ?_⟩
  · have : ¬ (a = b.l ∧ c = a.length) := by
      rintro ⟨h1, h2⟩
      subst h2
      rw [h1] at h
      simp at h
    simp [this]
  · have h : a.length = b.l.length ∧ c = a.length := by
      simp only [Bool.or_eq_false_iff, decide_eq_true_eq, Bool.not_eq_false'] at h
      omega
    refine DWc.loopG ok ck19 (α := Nat) (fun i => ⟨[(5, .int .i64 (i : Int)), (0, .sl (.int .i64) ⟨a, some c⟩), (1, .sl (.int .i64) b)], ⟨3, 0, []⟩⟩) (fun i => i ≤ a.length ∧ ∀ j, j < i → a.getD j 0 = b.l.getD j 0) (fun i => a.length - i) 0 ?_ ?_ ?_
    · refine DEnt.of ?_; simp only [entD, entS, entO, lk, nbeqB,  ↓cond_true, ↓cond_false, Ty.D, DV.kill, beq_self_eq_true, eq_self, and_true, true_and, and_self, Nat.zero_le, Nat.reduceBEq, DV.int.injEq, true_and, and_true, eq_self]
      rfl
    · exact ⟨Nat.zero_le _, fun j hj => by omega⟩
    · intro i hi
      simp only [l21_0, go_nil, go_skip, go_reg, go_seq, go_cond, go_block, go_exit, go_ret, go_codeX, go_codeR, go_ops0, go_opsK, keepM_nil, keepM_lo, FB, Nat.reducePow, Nat.reduceDiv, Nat.reduceMod, go_opsP, go_blkN, go_blkX, go_blkR, go_rndN, go_rndX, go_rndR, unS_and, unl, wantD, dpure, ev, lk, putD, nbeqB,  ↓cond_true, ↓cond_false, Option.map_some, sideP, lenD, dBin, dIdx, dLoad, subT, flat, Ty.size, Ty.isAgg, Ty.zero, Ty.D, fnQ, dress, dres1, unl, finDV, frzV, sidesP, DV.kill, decide_true, decide_false, beq_self_eq_true, Bool.and_self, List.getD_cons_zero, eq_self, Nat.reduceLeDiff, Nat.reduceBEq, brB_eq, decide_eq_true_eq, decide_eq_false_iff_not, Bool.not_eq_true', Bool.not_eq_false', Int.not_lt, Int.toNat_natCast, DV.bool.injEq, eq_self]
      refine ⟨fun h1 => ⟨by omega, by omega, fun h2 => ?_, fun h2 => ⟨i + 1, by omega, ⟨by omega, fun j hj => ?_⟩, ?_⟩⟩, fun h1 => ?_⟩
      · have : ¬ a = b.l := by rintro rfl; exact absurd rfl h2
        simp [this]
      · rcases Nat.lt_or_ge j i with hji | hji
        · exact hi.2 j hji
        · have : j = i := by omega
          subst this; exact h2
      · refine DEnt.of ?_; simp only [entD, entS, entO, lk, nbeqB,  ↓cond_true, ↓cond_false, DV.kill, beq_self_eq_true, eq_self, and_true, true_and, and_self, Nat.zero_le, Nat.reduceBEq, DV.int.injEq, true_and, and_true, eq_self]
        rw [wrap64' (by omega)]; rfl
      · have e : a = b.l := by
          refine List.ext_getElem h.1 fun j h2 h3 => ?_
          have := hi.2 j (by omega)
          simpa [h2, h3] using this
        simp [e, h.2]

def eqL (a b : List Int) (c : Nat) : Bool := decide (a = b ∧ c = a.length)
theorem c21 (a b : Sl Int) (h : a.cap ≠ none ∧ a.l.length < 1000000 ∧ b.l.length < 1000000) : PCalls Try.prog 21 [.sl (.int .i64) a, .sl (.int .i64) b] (fun d => d = .bool (eqL a.l b.l (a.cap.getD 0))) := by
  obtain ⟨a, c⟩ := a
  cases c with
  | none => exact absurd rfl h.1
  | some c => exact c21a a c b h.2

def CO21 : CF := fun f args L => bif Nat.beq f 21 then (match args with
  | [.sl (.int .i64) a, .sl (.int .i64) b] => some (some (a.cap ≠ none ∧ a.l.length < 1000000 ∧ b.l.length < 1000000), .bool (eqL a.l b.l (a.cap.getD 0)), L, [])
  | _ => none) else CO19 f args L
theorem ck21 : CFOk Try.prog CO21 := by
  intro f args L side d L' ks hc hs
  unfold CO21 at hc
  cases hb : Nat.beq f 21 with
  | false => rw [hb] at hc; exact ck19 f args L side d L' ks hc hs
  | true =>
    have := Nat.eq_of_beq_eq_true hb
    subst this
    simp only [hb, cond_true] at hc
    split at hc
    · simp only [Option.some.injEq, Prod.mk.injEq] at hc
      obtain ⟨rfl, rfl, rfl, rfl⟩ := hc
      exact c21 _ _ (hs _ rfl) L
    · cases hc
end Go.Proofs.Ytpchlfmlolkeeaa

namespace Go.Proofs.Ytpchlfmlolkeeaa
open Go Go.RowKit Go.Am
set_option linter.unusedSimpArgs false
set_option linter.unusedVariables false
set_option maxRecDepth 20000
set_option maxHeartbeats 4000000

theorem crB_lt {p : List Int} {a b : Nat} (h : a < b) : crB p a b = crosses p (a, b) := by
  unfold crB crosses
  have h1 : ((a : Int) < b) := by omega
  have h2 : ¬ ((b : Int) < a) := by omega
  simp [h1, h2]


theorem drop_cons {α : Type} {l r : List α} {x d : α} {k : Nat} (h : l.drop k = x :: r) : k < l.length ∧ l.getD k d = x ∧ l.drop (k + 1) = r := by
  have hk : k < l.length := Classical.byContradiction fun q => by rw [List.drop_eq_nil_of_le (by omega)] at h; cases h
  rw [List.drop_eq_getElem_cons hk] at h
  injection h with h1 h2
  exact ⟨hk, by simp [hk, h1], h2⟩
def fnd (p : List Int) (x : Int) (i : Nat) : Int := if idxOf p x < i then idxOf p x else 0
theorem fnd_hit {p : List Int} (hp : Perm p) {i : Nat} (hi : i < p.length) {x : Int} (h : p.getD i 0 = x) : fnd p x (i + 1) = i := by
  subst h
  unfold fnd
  rw [hp.idx hi, if_pos (by omega)]
theorem fnd_miss {p : List Int} {i : Nat} {x : Int} (hx : x ∈ p) (h : ¬ p.getD i 0 = x) : fnd p x (i + 1) = fnd p x i := by
  unfold fnd
  have h1 := idxOf_mem hx
  have h2 := idxOf_bd p x
  have : idxOf p x ≠ i := fun e => by
    rw [e, Int.toNat_natCast] at h1
    exact h h1.2
  by_cases h3 : idxOf p x < i
  · rw [if_pos h3, if_pos (by omega)]
  · rw [if_neg h3, if_neg (by omega)]
theorem fnd_end {p : List Int} {x : Int} (hx : x ∈ p) : fnd p x p.length = idxOf p x := by
  unfold fnd
  have := idxOf_mem hx
  have := idxOf_bd p x
  rw [if_pos (by omega)]
theorem fnd_bd {p : List Int} {x : Int} (hx : x ∈ p) (i : Nat) (h : 0 < p.length) : 0 ≤ fnd p x i ∧ fnd p x i < p.length := by
  unfold fnd
  have := idxOf_mem hx
  have := idxOf_bd p x
  split <;> omega
theorem crB_idx {p : List Int} (hp : Perm p) {i : Nat} (hi : i + 1 < p.length) : crB p (idxOf p ((i : Int) + 1)) (idxOf p ((i : Int) + 1 + 1)) = decide ((backS p).l.getD (i + 1) 0 < (backS p).l.getD i 0) := by
  have e1 : (backS p).l.getD i 0 = idxOf p ((i : Int) + 1) + 1 := tab_get (by omega)
  have e2 : (backS p).l.getD (i + 1) 0 = idxOf p ((i : Int) + 1 + 1) + 1 := tab_get (by omega)
  have m1 := idxOf_mem (hp.all i (by omega))
  have m2 := idxOf_mem (hp.all (i + 1) hi)
  have e3 : ((i + 1 : Nat) : Int) + 1 = (i : Int) + 1 + 1 := by omega
  rw [e3] at m2
  rw [e1, e2]
  unfold crB
  rw [m1.2, m2.2]
  by_cases h : idxOf p ((i : Int) + 1 + 1) < idxOf p ((i : Int) + 1)
  · have h1 : ¬ idxOf p ((i : Int) + 1) < idxOf p ((i : Int) + 1 + 1) := by omega
    have h2 : idxOf p ((i : Int) + 1 + 1) + 1 < idxOf p ((i : Int) + 1) + 1 := by omega
    simp [h, h1]
    omega
  · simp [h]
    omega
theorem invL_bd {p : List Int} (h : p.length ≤ 8) (k : Nat) : (0 ≤ ((invL p).getD k ((0 : Int), (0 : Int), ())).1 ∧ ((invL p).getD k ((0 : Int), (0 : Int), ())).1 ≤ 8) ∧ 0 ≤ ((invL p).getD k ((0 : Int), (0 : Int), ())).2.1 ∧ ((invL p).getD k ((0 : Int), (0 : Int), ())).2.1 ≤ 8 := by
  have key : ∀ v ∈ invL p, (0 ≤ v.1 ∧ v.1 ≤ 8) ∧ 0 ≤ v.2.1 ∧ v.2.1 ≤ 8 := by
    intro v hv
    unfold invL at hv
    obtain ⟨y, hy, rfl⟩ := List.mem_map.1 hv
    have := prs_bd (Nat.le_refl _) (List.mem_filter.1 hy).1
    unfold prV
    simp only
    omega
  by_cases hk : k < (invL p).length
  · have e : (invL p).getD k ((0 : Int), (0 : Int), ()) = (invL p)[k] := by simp [hk]
    rw [e]; exact key _ (List.getElem_mem hk)
  · have e : (invL p).getD k ((0 : Int), (0 : Int), ()) = (0, 0, ()) := by simp [Nat.le_of_not_lt hk]
    rw [e]; simp
theorem getD_bd {p : List Int} (h : Perm p) (k : Nat) : 0 ≤ p.getD k 0 ∧ p.getD k 0 ≤ 8 := by
  by_cases hk : k < p.length
  · have := h.get hk; have := h.len; omega
  · have e : p.getD k 0 = 0 := by simp [Nat.le_of_not_lt hk]
    rw [e]; omega
theorem fnd_zero {p : List Int} {x : Int} (hx : x ∈ p) : fnd p x 0 = 0 := by
  unfold fnd
  have := idxOf_mem hx
  rw [if_neg (by omega)]
theorem fallsT_step (p : List Int) (i : Nat) (c : Bool) (h : c = decide (p.getD (i + 1) 0 < p.getD i 0)) : fallsT p (i + 1) = fallsT p i ++ (if c = true then [(i : Int) + 1] else []) := by
  rw [fallsT_succ, h]
  by_cases h2 : p.getD (i + 1) 0 < p.getD i 0
  · rw [if_pos h2, if_pos (decide_eq_true h2)]
  · rw [if_neg h2, if_neg (by simpa using h2)]

theorem c4 (p : Sl Int) (hp : U8s p.l ∧ p.l.length ≤ 140737488351232) : PCalls Try.prog 4 [.sl (.int .u8) p] (fun d => d = .bool true) := by
  refine PCalls.go ok ck21 (c := d4) (rs := r4) Try.func4 rfl (by kernel_rfl) (by kernel_rfl) rfl rfl rfl ?_
  simp (config := { maxSteps := 20000000 }) only [d4, r4, go_skip, go_reg, go_seq, go_cond, go_block, go_loop, go_ops0, go_opsK, go_opsM, keepM_nil, keepM_lo, dropM_nil, dropM_lo, FB, Nat.reducePow, Nat.reduceDiv, Nat.reduceMod, go_opsP, go_opsC, endP, ↓brB_false, ↓brM_false, unS_stp, unS_and, unl, callD, wantD, dpure, ev, evs, lk, putD, killT, argsD, nbeqB,  ↓cond_true, ↓cond_false, Option.map_some, sideP, lenD, capD, dBin, dPick, Ty.D, unl, decide_true, decide_false, beq_self_eq_true, eq_self, List.getElem?_cons_zero, List.getElem?_cons_succ, Nat.reduceLeDiff, Bool.not_true, Nat.reduceBEq, CO21, CO15, CO8, CO9, CO36, CO37, CO16, CO17, CO45, CO20, CO38, CO18, CO19]
  obtain ⟨u1, u2⟩ := hp
  have hP := ofS_perm p.l
  refine ⟨u1, hP, hP, hP, hP, ?_⟩
  generalize ofS p.l = P at *
  clear u1 u2
  have hl := hP.len
  refine DWc.loopG ok ck21 (α := Nat × Nat) (fun x => ⟨[(13, .int .i64 ((P.l.length - x.1 : Nat) : Int)), (12, .int .i64 (x.2 : Int)), (10, .sl (.int .i64) ⟨fallsL (backS P.l).l, some (fallsL (backS P.l).l).length⟩), (8, .sl (.int .i64) ⟨fallsL P.l, some (fallsL P.l).length⟩), (4, .sl PT2 ⟨invL P.l, some (invL P.l).length⟩), (3, .sl (.int .u8) P)], ⟨3, 0, []⟩⟩)
    (fun x => x.1 ≤ P.l.length ∧ x.2 ≤ (invL P.l).length ∧ (invL P.l).drop x.2 = ((prs P.l.length x.1).filter (crosses P.l)).map prV) (fun x => x.1) (P.l.length, 0) ?_ ?_ ?_
  · refine DEnt.of ?_; simp only [entD, entS, entO, lk, nbeqB,  ↓cond_true, ↓cond_false, Ty.D, DV.kill, beq_self_eq_true, eq_self, and_true, true_and, and_self, Nat.zero_le, Nat.reduceBEq, DV.int.injEq, true_and, and_true, eq_self]
    exact ⟨by omega, rfl⟩
  · exact ⟨Nat.le_refl _, Nat.zero_le _, rfl⟩
  · rintro ⟨m, k⟩ ⟨h1, h2, h3⟩
    simp (config := { maxSteps := 20000000 }) only [l4_0, go_nil, go_skip, go_reg, go_seq, go_cond, go_block, go_loop, go_exit, go_codeX, go_ops0, go_opsK, keepM_nil, keepM_lo, FB, Nat.reducePow, Nat.reduceDiv, Nat.reduceMod, go_opsG2, go_opsP, go_blkX, go_rndX, unS_and, gh1, wantD, dpure, ev, lk, putD, newO, nbeqB,  ↓cond_true, ↓cond_false, Option.map_some, sideP, lenD, dBin, Ty.D, decide_true, decide_false, Nat.reduceAdd, beq_self_eq_true, eq_self, true_and, Nat.reduceLeDiff, Nat.reduceBEq, brB_eq, decide_eq_true_eq, decide_eq_false_iff_not, Int.not_lt, true_and, eq_self]
    simp only at h1 h2 h3
    refine ⟨fun h4 => ?_, fun h4 => ?_⟩
    · obtain ⟨m, rfl⟩ : ∃ j, m = j + 1 := ⟨m - 1, by omega⟩
      rw [wrap64' (by omega)]
      refine DWc.loopG ok ck21 (α := Nat × Nat) (fun x => ⟨[(14, .int .i64 (x.1 : Int)), (13, .int .i64 ((P.l.length - (m + 1) : Nat) : Int)), (12, .int .i64 (x.2 : Int)), (10, .sl (.int .i64) ⟨fallsL (backS P.l).l, some (fallsL (backS P.l).l).length⟩), (8, .sl (.int .i64) ⟨fallsL P.l, some (fallsL P.l).length⟩), (4, .sl PT2 ⟨invL P.l, some (invL P.l).length⟩), (3, .sl (.int .u8) P)], ⟨3, 0, []⟩⟩)
        (fun x => P.l.length - (m + 1) + 1 ≤ x.1 ∧ x.1 ≤ P.l.length ∧ x.2 ≤ (invL P.l).length ∧ (invL P.l).drop x.2 = ((rowP P.l.length (P.l.length - (m + 1)) x.1 ++ prs P.l.length m).filter (crosses P.l)).map prV) (fun x => P.l.length - x.1) (P.l.length - (m + 1) + 1, k) ?_ ?_ ?_
      · refine DEnt.of ?_; simp only [entD, entS, entO, lk, nbeqB,  ↓cond_true, ↓cond_false, Ty.D, DV.kill, beq_self_eq_true, eq_self, and_true, true_and, and_self, Nat.zero_le, Nat.reduceBEq, DV.int.injEq, true_and, and_true, eq_self]
        omega
      · exact ⟨Nat.le_refl _, by omega, h2, h3⟩
      · rintro ⟨b, k⟩ ⟨g1, g2, g3, g4⟩
        simp only at g1 g2 g3 g4
        have hk : (invL P.l).length ≤ 64 := invL_len _ hl.2
        have bd := invL_bd hl.2 k
        have e1 : IntKind.i64.wrap ((b : Int) + 1) = (b : Int) + 1 := wrap64' (by omega)
        have e2 : IntKind.i64.wrap ((k : Int) + 1) = (k : Int) + 1 := wrap64' (by omega)
        have e3 : IntKind.i64.wrap (((P.l.length - (m + 1) : Nat) : Int) + 1) = ((P.l.length - (m + 1) : Nat) : Int) + 1 := wrap64' (by omega)
        have e4 : IntKind.i64.wrap ((invL P.l).getD k ((0 : Int), (0 : Int), ())).1 = ((invL P.l).getD k ((0 : Int), (0 : Int), ())).1 := wrap64' (by omega)
        have e5 : IntKind.i64.wrap ((invL P.l).getD k ((0 : Int), (0 : Int), ())).2.1 = ((invL P.l).getD k ((0 : Int), (0 : Int), ())).2.1 := wrap64' (by omega)
        simp (config := { maxSteps := 20000000 }) only [e1, e2, e3, e4, e5, l4_1, go_nil, go_skip, go_reg, go_seq, go_cond, go_block, go_exit, go_ret, go_codeX, go_codeR, go_ops0, go_opsK, go_opsM, keepM_nil, keepM_lo, dropM_nil, dropM_lo, FB, Nat.reducePow, Nat.reduceDiv, Nat.reduceMod, go_opsP, go_opsC, go_blkN, go_blkX, go_blkR, go_rndN, go_rndX, go_rndR, ↓brB_true, ↓brB_false, ↓brM_true, ↓brM_false, unS_stp, unS_and, unS_False, brM_mm, brM_ms, bif_ff, bif_tt, unl, callD, wantD, dpure, ev, evs, lk, putD, killT, nbeqB,  ↓cond_true, ↓cond_false, Option.map_some, sideP, lenD, dBin, dIdx, dLoad, dPick, dFldA, subT, flat, Ty.size, Ty.isAgg, Ty.zero, Ty.D, fnQ, dress, dres1, unl, finDV, frzV, sidesP, DV.kill, decide_true, decide_false, Nat.reduceAdd, Nat.zero_add, Nat.add_zero, beq_self_eq_true, bTF, bFT, Bool.and_self, Bool.and_true, Bool.false_eq_true, Bool.and_false, Nat.ble, Nat.blt, List.getD_cons_zero, eq_self, Nat.reduceSub, Nat.reduceLeDiff, Nat.succ_eq_add_one, Nat.reduceBEq, CO21, CO20, CO38, CO18, CO19, brB_eq, Bool.or_eq_false_iff, decide_eq_true_eq, decide_eq_false_iff_not, Bool.not_eq_true', Bool.not_eq_false', Bool.or_eq_true, Int.not_lt, Int.not_le, Int.toNat_natCast, DV.bool.injEq, eq_self]
        refine ⟨fun g5 => ⟨⟨by omega, by omega, by omega, g5⟩, fun g6 => ?_, fun g6 => ?_⟩, fun g5 => ?_⟩
        · rw [crB_lt (by omega)] at g6
          rw [rowP_cons (by omega), List.cons_append, List.filter_cons_of_neg (by rw [g6]; simp)] at g4
          refine ⟨(b + 1, k), by omega, ⟨by omega, by omega, g3, g4⟩, ?_⟩
          refine DEnt.of ?_; simp only [entD, entS, entO, lk, nbeqB,  ↓cond_true, ↓cond_false, DV.kill, beq_self_eq_true, eq_self, and_true, true_and, and_self, Nat.zero_le, Nat.reduceBEq, DV.int.injEq, true_and, and_true, eq_self]
          rfl
        · rw [crB_lt (by omega)] at g6
          rw [rowP_cons (by omega), List.cons_append, List.filter_cons_of_pos g6, List.map_cons] at g4
          obtain ⟨q1, q2, q3⟩ := drop_cons (d := ((0 : Int), (0 : Int), ())) g4
          rw [q2]
          refine ⟨fun _ => by omega, fun _ => by omega, fun q => ?_, fun _ => ⟨(b + 1, k + 1), by omega, ⟨by omega, by omega, by omega, q3⟩, ?_⟩⟩
          · rcases q with (q | q) | q
            · omega
            · exact q rfl
            · exact q rfl
          · refine DEnt.of ?_; simp only [entD, entS, entO, lk, nbeqB,  ↓cond_true, ↓cond_false, DV.kill, beq_self_eq_true, eq_self, and_true, true_and, and_self, Nat.zero_le, Nat.reduceBEq, DV.int.injEq, true_and, and_true, eq_self]
            exact ⟨rfl, rfl⟩
        · have : b = P.l.length := by omega
          subst this
          rw [rowP_nil (Nat.le_refl _), List.nil_append] at g4
          refine ⟨(m, k), by omega, ⟨by omega, g3, g4⟩, ?_⟩
          refine DEnt.of ?_; simp only [entD, entS, entO, lk, nbeqB,  ↓cond_true, ↓cond_false, DV.kill, beq_self_eq_true, eq_self, and_true, true_and, and_self, Nat.zero_le, Nat.reduceBEq, DV.int.injEq, true_and, and_true, eq_self]
          omega
    · have hm : m = 0 := by omega
      subst hm
      have hk : k = (invL P.l).length := by
        have h5 : (invL P.l).drop k = [] := h3
        have := List.drop_eq_nil_iff.1 h5
        omega
      subst hk
      clear h1 h2 h3 h4
      have hB := backS_perm hP
      have hBl := backS_len P.l
      refine DWc.loopG ok ck21 (α := Nat) (fun i => ⟨[(17, .int .i64 ((i : Int) + 1)), (16, .osl 4 (.int .i64) 0 (fallsT (backS P.l).l i).length none), (15, .osl 3 (.int .i64) 0 (fallsT P.l i).length none), (12, .int .i64 ((invL P.l).length : Int)), (10, .sl (.int .i64) ⟨fallsL (backS P.l).l, some (fallsL (backS P.l).l).length⟩), (8, .sl (.int .i64) ⟨fallsL P.l, some (fallsL P.l).length⟩), (4, .sl PT2 ⟨invL P.l, some (invL P.l).length⟩), (3, .sl (.int .u8) P)],
          ⟨5, 0, [(4, .arr (.int .i64) (fallsT (backS P.l).l i)), (3, .arr (.int .i64) (fallsT P.l i))]⟩⟩) (fun i => i ≤ P.l.length - 1) (fun i => P.l.length - i) 0 ?_ ?_ ?_
      · refine DEnt.of ?_; simp only [entD, entS, entO, Loc.kill, lk, lkO, Loc.kill, nbeqB,  ↓cond_true, ↓cond_false, Ty.D, DV.kill, geN, beq_self_eq_true, Nat.ble, eq_self, and_true, true_and, and_self, Nat.zero_le, Nat.reduceBEq, DV.int.injEq, true_and, and_true, eq_self]
        exact ⟨⟨rfl, rfl, rfl⟩, rfl, rfl⟩
      · exact Nat.zero_le _
      · intro i hi
        have f1 := fallsT_len P.l i
        have f2 := fallsT_len (backS P.l).l i
        have e1 : IntKind.i64.wrap ((i : Int) + 1 - 1) = (i : Int) := by rw [wrap64' (by omega)]; omega
        have e2 : IntKind.i64.wrap ((i : Int) + 1 + 1) = (i : Int) + 1 + 1 := wrap64' (by omega)
        simp (config := { maxSteps := 20000000 }) only [e1, l4_2, go_nil, go_skip, go_reg, go_seq, go_cond, go_block, go_loop, go_exit, go_ret, go_codeX, go_ops0, go_opsK, go_opsM, keepM_nil, keepM_lo, dropM_nil, dropM_lo, FB, Nat.reducePow, Nat.reduceDiv, Nat.reduceMod, go_opsG1, go_opsP, go_opsE, go_opsC, go_blkX, go_rndX, ↓brM_true, ↓brM_false, unS_stp, unS_and, unS_False, brM_mm, brM_sm, bif_ff, unl, callD, nilqD, eff1, eApp, gh1, frzP, frzOne, List.map_cons, List.map_nil, wantD, dpure, ev, evs, lk, putD, killT, memN, List.any_cons, List.any_nil, Bool.or_false, lkO, stO, rmO, newO, renew, killO, Loc.kill, nbeqB,  ↓cond_true, ↓cond_false, Option.map_some, sideP, lenD, dBin, dPick, elB, elemsOf, asTy, unflat, DV.cellA, DV.cell, Ty.D, fnQ, dress, dres1, unl, finDV, frzV, sidesP, DV.kill, decide_true, decide_false, Nat.reduceAdd, Nat.zero_add, beq_self_eq_true, bFT, Bool.and_self, Bool.and_true, Bool.false_eq_true, if_true, Option.getD_some, Nat.ble, List.length_cons, List.length_nil, dite_true, eq_self, List.drop_zero, List.take_succ_cons, true_and, Nat.reduceLeDiff, Nat.le_refl, Bool.and_eq_true, and_self, List.take_nil, Nat.reduceBEq, Bool.or_self, CO21, CO15, CO36, CO37, CO16, CO17, CO45, CO20, CO38, CO18, CO19, brB_eq, decide_eq_true_eq, decide_eq_false_iff_not, Bool.and_eq_true, Int.not_lt, DV.bool.injEq, true_and, eq_self]
        have m1 : i + 1 < P.l.length → ((i : Int) + 1) ∈ P.l ∧ ((i : Int) + 1 + 1) ∈ P.l := fun q => ⟨hP.all i (by omega), hP.all (i + 1) q⟩
        have m2 := fallsT_succ P.l i
        have m3 := fallsT_succ (backS P.l).l i
        refine ⟨fun h => ⟨⟨by omega, by omega, by omega, h⟩, fun h2 => ⟨by omega, ?_⟩, fun h2 => ?_⟩, fun h => ?_⟩
        all_goals try have hx1 := (m1 (by omega)).1
        all_goals try have hx2 := (m1 (by omega)).2
        all_goals try rw [show ((i : Int) + 1) = ((i + 1 : Nat) : Int) by omega, crB_lt (by omega), crosses] at h2
        all_goals try simp only [decide_eq_true_eq, decide_eq_false_iff_not] at h2
        · refine DWc.loopG ok ck21 (α := Nat) (fun j => ⟨[(20, .int .i64 (j : Int)), (19, .int .i64 (fnd P.l ((i : Int) + 1 + 1) j)), (18, .int .i64 (fnd P.l ((i : Int) + 1) j)), (17, .int .i64 ((i : Int) + 1)), (16, .osl 4 (.int .i64) 0 (fallsT (backS P.l).l i).length none), (15, .osl 3 (.int .i64) 0 (fallsT P.l (i + 1)).length none), (12, .int .i64 ((invL P.l).length : Int)), (10, .sl (.int .i64) ⟨fallsL (backS P.l).l, some (fallsL (backS P.l).l).length⟩), (8, .sl (.int .i64) ⟨fallsL P.l, some (fallsL P.l).length⟩), (4, .sl PT2 ⟨invL P.l, some (invL P.l).length⟩), (3, .sl (.int .u8) P)],
            ⟨5, 0, [(4, .arr (.int .i64) (fallsT (backS P.l).l i)), (3, .arr (.int .i64) (fallsT P.l (i + 1)))]⟩⟩) (fun j => j ≤ P.l.length) (fun j => P.l.length - j) 0 ?_ ?_ ?_
          · refine DEnt.of ?_; simp only [entD, entS, entO, Loc.kill, lk, lkO, Loc.kill, nbeqB,  ↓cond_true, ↓cond_false, Ty.D, DV.kill, geN, beq_self_eq_true, Nat.ble, eq_self, and_true, true_and, and_self, Nat.zero_le, Nat.reduceBEq, DV.int.injEq, true_and, and_true, eq_self]
            rw [if_pos h2] at m2
            rw [m2, fnd_zero hx1, fnd_zero hx2, List.take_length, List.length_append]
            exact ⟨⟨rfl, rfl, rfl, rfl⟩, rfl⟩
          · exact Nat.zero_le _
          · intro j hj
            have bd := getD_bd hP j
            have c1 : IntKind.i64.wrap (P.l.getD j 0) = P.l.getD j 0 := wrap64' (by omega)
            have c2 : IntKind.i64.wrap ((j : Int) + 1) = (j : Int) + 1 := wrap64' (by omega)
            simp (config := { maxSteps := 20000000 }) only [c1, c2, e2, l4_3, go_nil, go_skip, go_reg, go_seq, go_cond, go_block, go_exit, go_codeX, go_ops0, go_opsK, keepM_nil, keepM_lo, FB, Nat.reducePow, Nat.reduceDiv, Nat.reduceMod, go_opsP, go_opsE, go_opsC, go_blkN, go_blkX, go_rndN, go_rndX, unS_and, callD, nilqD, eff1, eApp, List.map_cons, List.map_nil, wantD, dpure, ev, evs, lk, putD, killT, memN, List.any_cons, List.any_nil, Bool.or_false, lkO, stO, newO, renew, killO, Loc.kill, nbeqB,  ↓cond_true, ↓cond_false, Option.map_some, sideP, lenD, dBin, dIdx, dLoad, elB, elemsOf, asTy, unflat, DV.cellA, DV.cell, subT, flat, Ty.size, Ty.isAgg, Ty.zero, Ty.D, DV.kill, decide_true, decide_false, Nat.reduceAdd, Nat.zero_add, beq_self_eq_true, Bool.and_self, if_true, Nat.ble, List.length_cons, List.length_nil, List.getD_cons_zero, dite_true, eq_self, List.drop_zero, List.take_succ_cons, true_and, Nat.reduceLeDiff, Nat.le_refl, List.take_nil, Nat.reduceBEq, Bool.or_self, CO21, CO20, CO38, CO18, CO19, brB_eq, decide_eq_true_eq, decide_eq_false_iff_not, Int.not_lt, Int.toNat_natCast, true_and, eq_self]
            refine ⟨fun g1 => ⟨⟨by omega, g1⟩, fun g2 => ⟨⟨by omega, g1⟩, fun g3 => ⟨j + 1, by omega, by omega, ?_⟩, fun g3 => ⟨j + 1, by omega, by omega, ?_⟩⟩, fun g2 => ⟨⟨by omega, g1⟩, fun g3 => ⟨j + 1, by omega, by omega, ?_⟩, fun g3 => ⟨j + 1, by omega, by omega, ?_⟩⟩⟩, fun g1 => ?_⟩
            · refine DEnt.of ?_; simp only [entD, entS, entO, Loc.kill, lk, lkO, Loc.kill, nbeqB,  ↓cond_true, ↓cond_false, DV.kill, geN, beq_self_eq_true, Nat.ble, eq_self, and_true, true_and, and_self, Nat.zero_le, Nat.reduceBEq, DV.int.injEq, true_and, and_true, eq_self]
              rw [fnd_hit hP (by omega) g2, fnd_hit hP (by omega) g3]; omega
            · refine DEnt.of ?_; simp only [entD, entS, entO, Loc.kill, lk, lkO, Loc.kill, nbeqB,  ↓cond_true, ↓cond_false, DV.kill, geN, beq_self_eq_true, Nat.ble, eq_self, and_true, true_and, and_self, Nat.zero_le, Nat.reduceBEq, DV.int.injEq, true_and, and_true, eq_self]
              rw [fnd_hit hP (by omega) g2, fnd_miss hx2 g3]; omega
            · refine DEnt.of ?_; simp only [entD, entS, entO, Loc.kill, lk, lkO, Loc.kill, nbeqB,  ↓cond_true, ↓cond_false, DV.kill, geN, beq_self_eq_true, Nat.ble, eq_self, and_true, true_and, and_self, Nat.zero_le, Nat.reduceBEq, DV.int.injEq, true_and, and_true, eq_self]
              rw [fnd_miss hx1 g2, fnd_hit hP (by omega) g3]; omega
            · refine DEnt.of ?_; simp only [entD, entS, entO, Loc.kill, lk, lkO, Loc.kill, nbeqB,  ↓cond_true, ↓cond_false, DV.kill, geN, beq_self_eq_true, Nat.ble, eq_self, and_true, true_and, and_self, Nat.zero_le, Nat.reduceBEq, DV.int.injEq, true_and, and_true, eq_self]
              rw [fnd_miss hx1 g2, fnd_miss hx2 g3]; omega
            · have : j = P.l.length := by omega
              subst this
              have b1 := fnd_bd hx1 P.l.length (by omega)
              have b2 := fnd_bd hx2 P.l.length (by omega)
              refine ⟨⟨b1.1, b1.2, b2.1, b2.2⟩, ?_⟩
              rw [fnd_end hx1, fnd_end hx2, crB_idx hP (by omega)]
              simp only [decide_eq_true_eq, decide_eq_false_iff_not]
              refine ⟨fun g2 => ⟨by omega, i + 1, by omega, by omega, ?_⟩, fun g2 => ⟨i + 1, by omega, by omega, ?_⟩⟩
              · rw [if_pos g2] at m3
                refine DEnt.of ?_; simp only [entD, entS, entO, Loc.kill, lk, lkO, Loc.kill, nbeqB,  ↓cond_true, ↓cond_false, DV.kill, geN, beq_self_eq_true, Nat.ble, eq_self, and_true, true_and, and_self, Nat.zero_le, Nat.reduceBEq, DV.int.injEq, true_and, and_true, eq_self]
                rw [m3, List.take_length, List.length_append]
                exact ⟨⟨by omega, rfl⟩, rfl⟩
              · rw [if_neg g2, List.append_nil] at m3
                refine DEnt.of ?_; simp only [entD, entS, entO, Loc.kill, lk, lkO, Loc.kill, nbeqB,  ↓cond_true, ↓cond_false, DV.kill, geN, beq_self_eq_true, Nat.ble, eq_self, and_true, true_and, and_self, Nat.zero_le, Nat.reduceBEq, DV.int.injEq, true_and, and_true, eq_self]
                rw [m3]
                exact ⟨⟨by omega, rfl⟩, rfl⟩
        · refine DWc.loopG ok ck21 (α := Nat) (fun j => ⟨[(20, .int .i64 (j : Int)), (19, .int .i64 (fnd P.l ((i : Int) + 1 + 1) j)), (18, .int .i64 (fnd P.l ((i : Int) + 1) j)), (17, .int .i64 ((i : Int) + 1)), (16, .osl 4 (.int .i64) 0 (fallsT (backS P.l).l i).length none), (15, .osl 3 (.int .i64) 0 (fallsT P.l (i + 1)).length none), (12, .int .i64 ((invL P.l).length : Int)), (10, .sl (.int .i64) ⟨fallsL (backS P.l).l, some (fallsL (backS P.l).l).length⟩), (8, .sl (.int .i64) ⟨fallsL P.l, some (fallsL P.l).length⟩), (4, .sl PT2 ⟨invL P.l, some (invL P.l).length⟩), (3, .sl (.int .u8) P)],
            ⟨5, 0, [(4, .arr (.int .i64) (fallsT (backS P.l).l i)), (3, .arr (.int .i64) (fallsT P.l (i + 1)))]⟩⟩) (fun j => j ≤ P.l.length) (fun j => P.l.length - j) 0 ?_ ?_ ?_
          · refine DEnt.of ?_; simp only [entD, entS, entO, Loc.kill, lk, lkO, Loc.kill, nbeqB,  ↓cond_true, ↓cond_false, Ty.D, DV.kill, geN, beq_self_eq_true, Nat.ble, eq_self, and_true, true_and, and_self, Nat.zero_le, Nat.reduceBEq, DV.int.injEq, true_and, and_true, eq_self]
            rw [if_neg h2, List.append_nil] at m2
            rw [m2, fnd_zero hx1, fnd_zero hx2]
            exact ⟨⟨rfl, rfl, rfl, rfl⟩, rfl⟩
          · exact Nat.zero_le _
          · intro j hj
            have bd := getD_bd hP j
            have c1 : IntKind.i64.wrap (P.l.getD j 0) = P.l.getD j 0 := wrap64' (by omega)
            have c2 : IntKind.i64.wrap ((j : Int) + 1) = (j : Int) + 1 := wrap64' (by omega)
            simp (config := { maxSteps := 20000000 }) only [c1, c2, e2, l4_3, go_nil, go_skip, go_reg, go_seq, go_cond, go_block, go_exit, go_codeX, go_ops0, go_opsK, keepM_nil, keepM_lo, FB, Nat.reducePow, Nat.reduceDiv, Nat.reduceMod, go_opsP, go_opsE, go_opsC, go_blkN, go_blkX, go_rndN, go_rndX, unS_and, callD, nilqD, eff1, eApp, List.map_cons, List.map_nil, wantD, dpure, ev, evs, lk, putD, killT, memN, List.any_cons, List.any_nil, Bool.or_false, lkO, stO, newO, renew, killO, Loc.kill, nbeqB,  ↓cond_true, ↓cond_false, Option.map_some, sideP, lenD, dBin, dIdx, dLoad, elB, elemsOf, asTy, unflat, DV.cellA, DV.cell, subT, flat, Ty.size, Ty.isAgg, Ty.zero, Ty.D, DV.kill, decide_true, decide_false, Nat.reduceAdd, Nat.zero_add, beq_self_eq_true, Bool.and_self, if_true, Nat.ble, List.length_cons, List.length_nil, List.getD_cons_zero, dite_true, eq_self, List.drop_zero, List.take_succ_cons, true_and, Nat.reduceLeDiff, Nat.le_refl, List.take_nil, Nat.reduceBEq, Bool.or_self, CO21, CO20, CO38, CO18, CO19, brB_eq, decide_eq_true_eq, decide_eq_false_iff_not, Int.not_lt, Int.toNat_natCast, true_and, eq_self]
            refine ⟨fun g1 => ⟨⟨by omega, g1⟩, fun g2 => ⟨⟨by omega, g1⟩, fun g3 => ⟨j + 1, by omega, by omega, ?_⟩, fun g3 => ⟨j + 1, by omega, by omega, ?_⟩⟩, fun g2 => ⟨⟨by omega, g1⟩, fun g3 => ⟨j + 1, by omega, by omega, ?_⟩, fun g3 => ⟨j + 1, by omega, by omega, ?_⟩⟩⟩, fun g1 => ?_⟩
            · refine DEnt.of ?_; simp only [entD, entS, entO, Loc.kill, lk, lkO, Loc.kill, nbeqB,  ↓cond_true, ↓cond_false, DV.kill, geN, beq_self_eq_true, Nat.ble, eq_self, and_true, true_and, and_self, Nat.zero_le, Nat.reduceBEq, DV.int.injEq, true_and, and_true, eq_self]
              rw [fnd_hit hP (by omega) g2, fnd_hit hP (by omega) g3]; omega
            · refine DEnt.of ?_; simp only [entD, entS, entO, Loc.kill, lk, lkO, Loc.kill, nbeqB,  ↓cond_true, ↓cond_false, DV.kill, geN, beq_self_eq_true, Nat.ble, eq_self, and_true, true_and, and_self, Nat.zero_le, Nat.reduceBEq, DV.int.injEq, true_and, and_true, eq_self]
              rw [fnd_hit hP (by omega) g2, fnd_miss hx2 g3]; omega
            · refine DEnt.of ?_; simp only [entD, entS, entO, Loc.kill, lk, lkO, Loc.kill, nbeqB,  ↓cond_true, ↓cond_false, DV.kill, geN, beq_self_eq_true, Nat.ble, eq_self, and_true, true_and, and_self, Nat.zero_le, Nat.reduceBEq, DV.int.injEq, true_and, and_true, eq_self]
              rw [fnd_miss hx1 g2, fnd_hit hP (by omega) g3]; omega
            · refine DEnt.of ?_; simp only [entD, entS, entO, Loc.kill, lk, lkO, Loc.kill, nbeqB,  ↓cond_true, ↓cond_false, DV.kill, geN, beq_self_eq_true, Nat.ble, eq_self, and_true, true_and, and_self, Nat.zero_le, Nat.reduceBEq, DV.int.injEq, true_and, and_true, eq_self]
              rw [fnd_miss hx1 g2, fnd_miss hx2 g3]; omega
            · have : j = P.l.length := by omega
              subst this
              have b1 := fnd_bd hx1 P.l.length (by omega)
              have b2 := fnd_bd hx2 P.l.length (by omega)
              refine ⟨⟨b1.1, b1.2, b2.1, b2.2⟩, ?_⟩
              rw [fnd_end hx1, fnd_end hx2, crB_idx hP (by omega)]
              simp only [decide_eq_true_eq, decide_eq_false_iff_not]
              refine ⟨fun g2 => ⟨by omega, i + 1, by omega, by omega, ?_⟩, fun g2 => ⟨i + 1, by omega, by omega, ?_⟩⟩
              · rw [if_pos g2] at m3
                refine DEnt.of ?_; simp only [entD, entS, entO, Loc.kill, lk, lkO, Loc.kill, nbeqB,  ↓cond_true, ↓cond_false, DV.kill, geN, beq_self_eq_true, Nat.ble, eq_self, and_true, true_and, and_self, Nat.zero_le, Nat.reduceBEq, DV.int.injEq, true_and, and_true, eq_self]
                rw [m3, List.take_length, List.length_append]
                exact ⟨⟨by omega, rfl⟩, rfl⟩
              · rw [if_neg g2, List.append_nil] at m3
                refine DEnt.of ?_; simp only [entD, entS, entO, Loc.kill, lk, lkO, Loc.kill, nbeqB,  ↓cond_true, ↓cond_false, DV.kill, geN, beq_self_eq_true, Nat.ble, eq_self, and_true, true_and, and_self, Nat.zero_le, Nat.reduceBEq, DV.int.injEq, true_and, and_true, eq_self]
                rw [m3]
                exact ⟨⟨by omega, rfl⟩, rfl⟩
        · have : i = P.l.length - 1 := by omega
          subst this
          have : fallsT (backS P.l).l (P.l.length - 1) = fallsL (backS P.l).l := by unfold fallsL; rw [hBl]
          rw [this] at f2 ⊢
          have h3 : fallsT P.l (P.l.length - 1) = fallsL P.l := rfl
          rw [h3] at f1 ⊢
          rw [List.take_length, List.take_length]
          refine ⟨⟨by simp, by omega, by omega⟩, fun _ => ⟨by simp, by omega, by omega⟩, by simp [eqL], by simp [eqL]⟩
def CO4 : CF := fun f args L => bif Nat.beq f 4 then (match args with
  | [.sl (.int .u8) p] => some (some (U8s p.l ∧ p.l.length ≤ 140737488351232), .bool true, L, [])
  | _ => none) else CO21 f args L
theorem ck4 : CFOk Try.prog CO4 := by
  intro f args L side d L' ks hc hs
  unfold CO4 at hc
  cases hb : Nat.beq f 4 with
  | false => rw [hb] at hc; exact ck21 f args L side d L' ks hc hs
  | true =>
    have := Nat.eq_of_beq_eq_true hb
    subst this
    simp only [hb, cond_true] at hc
    split at hc
    · simp only [Option.some.injEq, Prod.mk.injEq] at hc
      obtain ⟨rfl, rfl, rfl, rfl⟩ := hc
      exact c4 _ (hs _ rfl) L
    · cases hc
end Go.Proofs.Ytpchlfmlolkeeaa

