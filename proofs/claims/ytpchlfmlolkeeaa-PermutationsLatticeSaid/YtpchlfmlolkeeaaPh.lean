/-
  Texts that belong together: Pf5, Pf6.
-/
import Derived.Test.YtpchlfmlolkeeaaPg
import Derived.Test.YtpchlfmlolkeeaaD34
set_option linter.unusedSimpArgs false
set_option linter.unusedVariables false
namespace Go.Proofs.Ytpchlfmlolkeeaa
open Go Go.RowKit Go.Am
set_option linter.unusedSimpArgs false
set_option linter.unusedVariables false
set_option maxRecDepth 20000
set_option maxHeartbeats 4000000

/-- Whether all pairs that cross in p cross in q. -/
def belP (p q : List Int) (y : Nat × Nat) : Bool := !(decide (p.getD y.2 0 < p.getD y.1 0) && decide (q.getD y.1 0 < q.getD y.2 0))
def belB (p q : List Int) : Bool := (prs p.length p.length).all (belP p q)

theorem c22a (p q : Sl Int) (hp : Perm p.l ∧ Perm q.l ∧ q.l.length = p.l.length) : PCalls Try.prog 22 [.sl (.int .u8) p, .sl (.int .u8) q] (fun d => d = .tup [.lit (belB p.l q.l), .int .i64 0]) := by
  refine PCalls.go ok ck21 (c := d22) (rs := r22) Try.func22 rfl (by kernel_rfl) (by kernel_rfl) rfl rfl rfl ?_
  simp (config := { maxSteps := 20000000 }) only [d22, r22, go_nil, go_skip, go_reg, go_seq, go_cond, go_block, go_ret, go_rfn, go_codeR, go_ops0, go_opsK, keepM_nil, keepM_lo, FB, Nat.reducePow, Nat.reduceDiv, Nat.reduceMod, go_opsP, go_opsE, go_opsC, endP, brB_not, brB_dec, unS_and, callD, nilqD, eff1, eStore, wantD, dpure, ev, evs, lk, putD, killT, lkO, stO, newO, setO, argsD, nbeqB,  ↓cond_true, ↓cond_false, Option.map_some, sideP, lenD, dBin, dLoad, DV.cellA, DV.cell, setAllD, Ty.D, fnQ, dress, dres1, finDV, frzV, frzVs, sidesP, DV.kill, DV.killL, decide_true, decide_false, Nat.reduceAdd, Nat.zero_add, beq_self_eq_true, Bool.and_self, List.append_nil, Nat.ble, List.length_cons, List.length_nil, List.all_cons, List.all_nil, eq_self, List.getElem?_cons_zero, List.set_cons_zero, Nat.reduceLeDiff, Nat.reduceBEq, CO21, CO15, CO30, CO42, CO43, CO39, CO14, CO8, CO9, CO24, CO25, CO26, CO27, CO40, CO36, CO37, CO16, CO17, CO45, CO20, CO38, CO18, CO19]
  obtain ⟨hp, hq, hpq⟩ := hp
  have h1 := hp.chk
  have h2 := hq.chk
  have hl := hp.len
  have h3 : (if chk p.l ≠ 0 then chk p.l else if chk q.l ≠ 0 then chk q.l else if p.l.length ≠ q.l.length then 5 else 0) = 0 := by
    rw [if_neg (by omega), if_neg (by omega), if_neg (by omega)]
  refine ⟨⟨by omega, by omega⟩, fun _ => ?_, fun q => absurd h3 q⟩
  refine DWc.rangeG ok ck21 (it51 p.l.length (by omega)) (X := Unit) 0 [(17, .clo 51 [] [.fptr (.int .i64) (p.l.length : Int)]), (5, .bptr 6 0), (4, .bptr 5 0), (3, .bptr 4 0), (2, .bptr 3 0)]
    (fun _ => ⟨7, 0, [(6, .box [.int .i64 0]), (5, .box [.lit false]), (4, .box [.sl (.int .u8) q]), (3, .box [.sl (.int .u8) p])]⟩)
    (fun rest _ => belB p.l q.l = rest.all (belP p.l q.l) ∧ ∀ y ∈ rest, y.1 < p.l.length ∧ y.2 < p.l.length) () rfl ?_ ?_ ?_ ?_ ?_ ?_
  · refine DEnt.of ?_; simp only [entD, entS, entO, Loc.kill, lk, lkO, Loc.kill, nbeqB,  ↓cond_true, ↓cond_false, DV.kill, DV.killL, geN, beq_self_eq_true, Nat.ble, eq_self, and_self, Nat.zero_le, Nat.reduceBEq, eq_self]
  · intro x
    simp only [rngOk, ownOk, nnM, nnT, noE, Loc.nn, DV.nn, DV.nnL, lowT, hasB, isB, DV.bd, DV.bdL, List.filter_cons, List.filter_nil, Option.isNone_none, Option.isNone_some, FB, bif_ff, lk, List.any_cons, List.any_nil, Bool.or_false, lkO, nbeqB,  ↓cond_true, ↓cond_false, beq_self_eq_true, Bool.and_self, if_true, Nat.ble, Nat.blt, List.all_cons, List.all_nil, eq_self, Bool.not_false, Nat.succ_eq_add_one, Nat.reduceBEq, Bool.or_true, Bool.or_self]
  · intro y; exact ⟨rfl, rfl⟩
  · exact ⟨rfl, fun y hy => prs_bd (Nat.le_refl _) hy⟩
  · intro x hx
    simp only [go_nil, go_reg, go_seq, go_ret, go_ops0, go_opsE, go_blkN, nilqD, eff1, eStore, wantD, ev, lk, putD, killT, lkO, stO, setO, nbeqB,  ↓cond_true, ↓cond_false, Option.map_some, sideP, dLoad, DV.cellA, DV.cell, setAllD, fnQ, dress, dres1, finDV, frzV, frzVs, sidesP, DV.kill, DV.killL, Nat.zero_add, beq_self_eq_true, Bool.and_self, List.append_nil, Nat.ble, List.length_cons, List.length_nil, List.all_cons, List.all_nil, eq_self, List.getElem?_cons_zero, List.set_cons_zero, and_true, Nat.reduceBEq, DV.tup.injEq, List.cons.injEq, and_true, eq_self]
    rw [hx.1]; rfl
  · intro y rest x hx
    have hy := hx.2 y (List.mem_cons_self ..)
    simp (config := { maxSteps := 20000000 }) only [midQ, rngQ, setD, shT, lowT, List.filter_cons, List.filter_nil, go_nil, go_skip, go_reg, go_seq, go_cond, go_block, go_ret, go_codeR, go_ops0, go_opsK, go_opsM, keepM_nil, keepM_hi, keepM_lo, dropM_nil, dropM_hi, dropM_lo, FB, Nat.reducePow, Nat.reduceDiv, Nat.reduceMod, go_opsP, go_opsE, go_blkN, go_blkR, ↓brB_true, ↓brB_false, unS_stp, unS_and, brM_mm, brM_sm, and_goS, bif_ff, unl, nilqD, eff1, eStore, List.map_cons, List.map_nil, wantD, dpure, ev, lk, putD, killT, lkO, stO, setO, nbeqB,  ↓cond_true, ↓cond_false, Option.map_some, sideP, dBin, dIdx, dLoad, dPick, DV.cellA, DV.cell, setAllD, subT, flat, Ty.size, Ty.isAgg, Ty.zero, Ty.D, fnQ, dress, dres1, unl, finDV, frzV, frzVs, DV.kill, DV.killL, decide_true, decide_false, Nat.reduceAdd, Nat.zero_add, beq_self_eq_true, bFT, Bool.and_self, Bool.and_true, if_true, List.append_nil, List.nil_append, List.cons_append, Nat.ble, Nat.blt, List.length_cons, List.length_nil, List.all_cons, List.all_nil, List.getD_cons_zero, eq_self, List.getElem?_cons_zero, List.set_cons_zero, and_true, Nat.reduceLeDiff, Bool.and_eq_true, Nat.succ_eq_add_one, Nat.reduceBEq, brB_eq, Bool.and_eq_false_imp, decide_eq_true_eq, decide_eq_false_iff_not, Bool.and_eq_true, Int.not_lt, Int.toNat_natCast, DV.tup.injEq, List.cons.injEq, and_true, eq_self]
    have e0 : belB p.l q.l = (belP p.l q.l y && rest.all (belP p.l q.l)) := hx.1
    refine ⟨by omega, by omega, fun _ => ⟨by omega, by omega⟩, fun h => ?_, fun h => ?_⟩
    · refine ⟨[(5, .bptr 6 0), (4, .bptr 5 0)], ⟨7, 0, [(6, .box [.int .i64 0]), (5, .box [.lit false]), (4, .box [.sl (.int .u8) q]), (3, .box [.sl (.int .u8) p])]⟩, ?_, ?_, ?_⟩
      · refine DEnt.of ?_; simp only [entD, entS, entO, Loc.kill, List.map_cons, List.map_nil, lk, lkO, Loc.kill, nbeqB,  ↓cond_true, ↓cond_false, DV.kill, DV.killL, geN, Nat.reduceAdd, beq_self_eq_true, Nat.ble, eq_self, and_self, Nat.zero_le, Nat.reduceBEq, eq_self]
      · simp only [outOk, ownOk, nnM, nnT, isN, Loc.nn, DV.nn, DV.nnL, Option.isNone_none, lkO, nbeqB,  ↓cond_false, beq_self_eq_true, Bool.and_self, Nat.ble, Nat.blt, List.all_cons, List.all_nil, eq_self, Bool.not_false, Nat.reduceBEq]
      · have e1 : belP p.l q.l y = false := by simp only [belP, h.1, h.2, decide_true, Bool.and_self, Bool.not_true]
        rw [e1, Bool.false_and] at e0
        simp only [lk, lkO, nbeqB,  ↓cond_true, ↓cond_false, Option.map_some, frzV, sidesP, DV.kill, beq_self_eq_true, List.append_nil, eq_self, List.getElem?_cons_zero, and_true, Nat.reduceBEq, and_true, eq_self]
        rw [e0]
    · refine ⟨(), ⟨?_, fun z hz => hx.2 z (List.mem_cons_of_mem _ hz)⟩, ?_⟩
      · have e1 : belP p.l q.l y = true := by
          unfold belP
          rw [Bool.not_eq_true', Bool.and_eq_false_imp]
          intro h4
          have h5 := h (of_decide_eq_true h4)
          exact decide_eq_false (by omega)
        rw [e1, Bool.true_and] at e0
        exact e0
      · refine DEnt.of ?_; simp only [entD, entS, entO, Loc.kill, lk, lkO, Loc.kill, nbeqB,  ↓cond_true, ↓cond_false, DV.kill, DV.killL, geN, beq_self_eq_true, Nat.ble, eq_self, and_self, Nat.zero_le, Nat.reduceBEq, eq_self]

theorem c22 (p q : Sl Int) (hp : Perm p.l ∧ Perm q.l ∧ q.l.length = p.l.length) : PCalls Try.prog 22 [.sl (.int .u8) p, .sl (.int .u8) q] (fun d => d = .tup [.bool (belB p.l q.l), .int .i64 0]) := (c22a p q hp).unlit2

def CO22 : CF := fun f args L => bif Nat.beq f 22 then (match args with
  | [.sl (.int .u8) p, .sl (.int .u8) q] => some (some (Perm p.l ∧ Perm q.l ∧ q.l.length = p.l.length), .tup [.bool (belB p.l q.l), .int .i64 0], L, [])
  | _ => none) else CO21 f args L
theorem ck22 : CFOk Try.prog CO22 := by
  intro f args L side d L' ks hc hs
  unfold CO22 at hc
  cases hb : Nat.beq f 22 with
  | false => rw [hb] at hc; exact ck21 f args L side d L' ks hc hs
  | true =>
    have := Nat.eq_of_beq_eq_true hb
    subst this
    simp only [hb, cond_true] at hc
    split at hc
    · simp only [Option.some.injEq, Prod.mk.injEq] at hc
      obtain ⟨rfl, rfl, rfl, rfl⟩ := hc
      exact c22 _ _ (hs _ rfl) L
    · cases hc

def halfS (n : Nat) : Sl Int := tab n fun i => (n : Int) - i
theorem halfS_len (n : Nat) : (halfS n).l.length = n := by simp [halfS]

theorem c23 (p q : Sl Int) (hp : Perm p.l ∧ Perm q.l ∧ q.l.length = p.l.length ∧ belB p.l q.l = true) : PCalls Try.prog 23 [.sl (.int .u8) p, .sl (.int .u8) q] (fun d => d = .tup [.sl (.int .u8) (thenS (backS p.l).l q.l), .int .i64 0]) := by
  refine PCalls.go ok ck22 (c := d23) (rs := r23) Try.func23 rfl (by kernel_rfl) (by kernel_rfl) rfl rfl rfl ?_
  simp (config := { maxSteps := 20000000 }) only [d23, r23, go_nil, go_skip, go_reg, go_seq, go_cond, go_block, go_ret, go_gh, go_codeR, go_ops0, go_opsK, keepM_nil, keepM_lo, FB, Nat.reducePow, Nat.reduceDiv, Nat.reduceMod, go_opsP, go_opsC, go_blkN, go_blkR, endP, ↓brB_false, brB_not, ↓brM_false, unS_and, unl, callD, gh1, wantD, dpure, ev, evs, lk, putD, killT, argsD, nbeqB,  ↓cond_true, ↓cond_false, Option.map_some, sideP, dBin, Ty.D, fnQ, dress, dres1, unl, finDV, frzV, frzVs, sidesP, DV.kill, DV.killL, decide_true, decide_false, Nat.zero_add, beq_self_eq_true, List.append_nil, eq_self, List.getElem?_cons_zero, List.getElem?_cons_succ, and_true, true_and, Nat.reduceLeDiff, Bool.not_true, Bool.not_false, and_self, Nat.reduceBEq, CO22, CO15, CO39, CO14, CO8, CO9, CO24, CO25, CO26, CO27, CO40, CO36, CO37, CO16, CO17, CO45, CO20, CO38, CO18, CO19, backS_len, CO21]
  obtain ⟨h1, h2, h3, h4⟩ := hp
  rw [h4, brB_true]
  exact ⟨⟨h1, h2, h3⟩, h1, backS_perm h1, h3⟩
def CO23 : CF := fun f args L => bif Nat.beq f 23 then (match args with
  | [.sl (.int .u8) p, .sl (.int .u8) q] => some (some (Perm p.l ∧ Perm q.l ∧ q.l.length = p.l.length ∧ belB p.l q.l = true), .tup [.sl (.int .u8) (thenS (backS p.l).l q.l), .int .i64 0], L, [])
  | _ => none) else CO22 f args L
theorem ck23 : CFOk Try.prog CO23 := by
  intro f args L side d L' ks hc hs
  unfold CO23 at hc
  cases hb : Nat.beq f 23 with
  | false => rw [hb] at hc; exact ck22 f args L side d L' ks hc hs
  | true =>
    have := Nat.eq_of_beq_eq_true hb
    subst this
    simp only [hb, cond_true] at hc
    split at hc
    · simp only [Option.some.injEq, Prod.mk.injEq] at hc
      obtain ⟨rfl, rfl, rfl, rfl⟩ := hc
      exact c23 _ _ (hs _ rfl) L
    · cases hc
theorem c46 (n i : Int) (hp : 1 ≤ n ∧ n ≤ 8 ∧ 0 ≤ i ∧ i < n) : PCalls Try.prog 46 [.int .i64 i, .fptr (.int .i64) n] (fun d => d = .int .u8 (n - i)) := by
  refine PCalls.go ok ck23 (c := d46) (rs := r46) Try.func46 rfl (by kernel_rfl) (by kernel_rfl) rfl rfl rfl ?_
  simp (config := { maxSteps := 20000000 }) only [d46, r46, go_nil, go_reg, go_seq, go_ret, go_ops0, go_opsK, keepM_nil, keepM_lo, FB, Nat.reducePow, Nat.reduceDiv, Nat.reduceMod, go_opsP, endP, unl, wantD, dpure, ev, lk, putD, argsD, nbeqB,  ↓cond_true, ↓cond_false, Option.map_some, sideP, dBin, dLoad, subT, flat, Ty.size, Ty.isAgg, fnQ, dress, dres1, unl, finDV, frzV, sidesP, DV.kill, decide_true, decide_false, Nat.zero_add, beq_self_eq_true, Bool.and_self, List.getD_cons_zero, eq_self, Nat.reduceLeDiff, Nat.reduceBEq]
  rw [wrap64' (by omega), wrapU8 (by omega)]
theorem c29 (n : Nat) (hp : 1 ≤ n ∧ n ≤ 8) : PCalls Try.prog 29 [.int .i64 (n : Int)] (fun d => d = .tup [.sl (.int .u8) (halfS n), .int .i64 0]) := by
  refine PCalls.go ok ck23 (c := d29) (rs := r29) Try.func29 rfl (by kernel_rfl) (by kernel_rfl) rfl rfl rfl ?_
  simp (config := { maxSteps := 20000000 }) only [d29, r29, go_nil, go_skip, go_reg, go_seq, go_cond, go_ret, go_gh, go_codeR, go_ops0, go_opsK, keepM_nil, keepM_lo, FB, Nat.reducePow, Nat.reduceDiv, Nat.reduceMod, go_opsG7, go_opsP, go_opsE, go_opsC, endP, brB_not, brB_dec, unS_and, tgtD, unl, callD, nilqD, eff1, gh1, wantD, dpure, ev, evs, lk, putD, killT, lkO, rmO, newO, argsD, nbeqB,  ↓cond_true, ↓cond_false, Option.map_some, sideP, dBin, dLoad, asTy, unflat, DV.cellA, DV.cell, subT, flat, Ty.size, Ty.isAgg, Ty.D, fnQ, dress, dres1, unl, finDV, frzV, frzVs, sidesP, DV.kill, DV.killL, decide_true, decide_false, Nat.reduceAdd, beq_self_eq_true, Bool.and_self, if_true, List.append_nil, Nat.ble, List.getD_cons_zero, eq_self, true_and, Nat.reduceLeDiff, Nat.reduceBEq, CO23, CO15, CO50, CO35, CO30, CO42, CO43, CO39, CO14, CO8, CO9, CO24, CO25, CO26, CO27, CO12, CO40, CO36, CO37, CO16, CO17, CO45, CO20, CO38, CO18, CO19, CO21, CO22, CO0]
  have h3 : (if (n : Int) < 1 then (1 : Int) else if 8 < (n : Int) then 3 else 0) = 0 := by rw [if_neg (by omega), if_neg (by omega)]
  refine ⟨fun _ => ?_, fun q => absurd h3 q⟩
  refine goI_pure (c33 n 46 [] [.fptr (.int .i64) (n : Int)] (fun i => (n : Int) - i) (by omega) rfl rfl (fun i hi => c46 n i (by omega))) ?_
  rintro _ rfl
  simp only [go_nil, go_ret, go_gh, go_ops0, go_opsK, keepM_nil, keepM_lo, FB, Nat.reducePow, Nat.reduceDiv, Nat.reduceMod, go_opsP, unl, gh1, wantD, dpure, ev, lk, putD, nbeqB,  ↓cond_true, ↓cond_false, Option.map_some, sideP, Ty.D, fnQ, dress, dres1, unl, finDV, frzV, frzVs, sidesP, DV.kill, DV.killL, decide_false, beq_self_eq_true, List.append_nil, eq_self, and_true, true_and, Nat.reduceLeDiff, Nat.reduceBEq, Int.toNat_natCast, DV.tup.injEq, List.cons.injEq, true_and, and_true, eq_self]
  rfl

/-- The first place at which a list falls. -/
def isFD (l : List Int) (k : Nat) : Prop := k + 1 < l.length ∧ l.getD (k + 1) 0 < l.getD k 0 ∧ ∀ i, i < k → l.getD i 0 < l.getD (i + 1) 0
/-- Greedy words. -/
inductive GW : List Int → List Int → List Int → Prop where
  | nil (l : List Int) : GW l [] l
  | cons {l w l' : List Int} {k : Nat} : isFD l k → GW (swp l k) w l' → GW l (((k : Int) + 1) :: w) l'
theorem GW.snoc {l w l' : List Int} {k : Nat} (h : GW l w l') (hk : isFD l' k) : GW l (w ++ [(k : Int) + 1]) (swp l' k) := by
  induction h with
  | nil l => exact .cons hk (.nil _)
  | cons h1 _ ih => exact .cons h1 (ih hk)
theorem GW.perm {l w l' : List Int} (h : GW l w l') : l'.Perm l := by
  induction h with
  | nil => exact List.Perm.refl _
  | cons h1 _ ih => exact ih.trans (swp_perm _ _ h1.1)
theorem GW.inv {l w l' : List Int} (h : GW l w l') : nInv l' + w.length = nInv l := by
  induction h with
  | nil => simp
  | cons h1 _ ih =>
    have := nInv_swp _ _ h1.1 h1.2.1
    simp only [List.length_cons]
    omega
theorem swp_get (l : List Int) (k i : Nat) (hk : k + 1 < l.length) (hi : i < k) : (swp l k).getD i 0 = l.getD i 0 := by
  have h1 : ¬ k + 1 = i := by omega
  have h2 : ¬ k = i := by omega
  simp [swp, h1, h2]
theorem sorted_inv : ∀ l : List Int, (∀ i, i + 1 < l.length → l.getD i 0 < l.getD (i + 1) 0) → nInv l = 0 ∧ ∀ x, l.head? = some x → ∀ y ∈ l, x ≤ y
  | [], _ => ⟨rfl, fun x h => by cases h⟩
  | [x], _ => ⟨rfl, fun a h y hy => by simp at h hy; omega⟩
  | x :: y :: l, h => by
    have h0 : x < y := by simpa using h 0 (by simp)
    obtain ⟨h1, h2⟩ := sorted_inv (y :: l) (fun i hi => by simpa using h (i + 1) (by simpa using hi))
    have h3 := h2 y rfl
    refine ⟨?_, fun a ha z hz => ?_⟩
    · simp only [nInv] at h1 ⊢
      rw [h1, Nat.add_zero, List.countP_eq_zero]
      intro z hz
      have := h3 z hz
      simp; omega
    · simp at ha
      subst ha
      rcases List.mem_cons.1 hz with rfl | hz
      · exact Int.le_refl _
      · have := h3 z hz; omega
theorem nodup_lt {l p : List Int} (h : l.Perm p) (hp : Perm p) {i : Nat} (hi : i + 1 < l.length) (hn : ¬ l.getD (i + 1) 0 < l.getD i 0) : l.getD i 0 < l.getD (i + 1) 0 := by
  have nd : l.Nodup := h.nodup_iff.2 hp.nodup
  have h1 : l.getD i 0 = l[i] := by simp [show i < l.length by omega]
  have h2 : l.getD (i + 1) 0 = l[i + 1] := by simp [hi]
  have : l[i] ≠ l[i + 1] := fun e => by
    have := (List.getElem_inj nd).1 e
    omega
  omega


theorem c28 (p : Sl Int) (hp : Perm p.l) : PCalls Try.prog 28 [.sl (.int .u8) p] (fun d => ∃ w l', GW p.l w l' ∧ (∀ i, i + 1 < l'.length → l'.getD i 0 < l'.getD (i + 1) 0) ∧ d = .tup [.sl (.int .i64) ⟨w, some w.length⟩, .int .i64 0]) := by
  refine PCalls.go ok ck23 (c := d28) (rs := r28) Try.func28 rfl (by kernel_rfl) (by kernel_rfl) rfl rfl rfl ?_
  simp (config := { maxSteps := 20000000 }) only [d28, r28, go_nil, go_skip, go_reg, go_seq, go_cond, go_ret, go_gh, go_codeR, go_ops0, go_opsK, keepM_nil, keepM_lo, FB, Nat.reducePow, Nat.reduceDiv, Nat.reduceMod, go_opsG2, go_opsP, go_opsC, endP, brB_not, brB_dec, unS_and, tgtD, unl, callD, gh1, wantD, dpure, ev, evs, lk, putD, killT, newO, argsD, nbeqB,  ↓cond_true, ↓cond_false, Option.map_some, sideP, dBin, Ty.D, fnQ, dress, dres1, unl, finDV, frzV, frzVs, sidesP, DV.kill, DV.killL, decide_true, decide_false, Nat.reduceAdd, beq_self_eq_true, List.append_nil, eq_self, true_and, Nat.reduceLeDiff, Nat.reduceBEq, CO23, CO15, CO50, CO35, CO30, CO42, CO43, CO39, CO14, CO8, CO9, CO24, CO25, CO26, CO27, CO12, CO40, CO36, CO37, CO16, CO17, CO45, CO20, CO38, CO18, CO19, CO21, CO22, CO0]
  have h1 := hp.chk
  have hl := hp.len
  refine ⟨by omega, fun _ => ?_, fun q => absurd h1 q⟩
  refine goI_in ok ck23 (c := d44) (rs := r44) Try.func44 rfl (by kernel_rfl) (by kernel_rfl) rfl rfl ?_
  simp (config := { maxSteps := 20000000 }) only [d44, r44, inQ, dresL, shT, unT, go_nil, go_skip, go_reg, go_seq, go_cond, go_block, go_loop, go_ret, go_gh, go_codeR, go_ops0, go_opsK, keepM_nil, keepM_hi, keepM_lo, FB, Nat.reducePow, Nat.reduceDiv, Nat.reduceMod, go_opsP, go_opsE, unS_and, unl, nilqD, eff1, eApp, gh1, List.map_cons, List.map_nil, wantD, dpure, ev, evs, lk, putD, killT, memN, List.any_cons, List.any_nil, Bool.or_false, lkO, stO, newO, renew, killO, Loc.kill, argsD, nbeqB,  ↓cond_true, ↓cond_false, Option.map_some, sideP, lenD, elB, elemsOf, Ty.D, dres1, unl, finDV, sidesP, DV.kill, decide_true, decide_false, Nat.reduceAdd, Nat.zero_add, beq_self_eq_true, Bool.and_self, if_true, List.nil_append, List.cons_append, Nat.ble, List.length_nil, dite_true, eq_self, true_and, Nat.reduceSub, Nat.reduceLeDiff, Nat.le_refl, List.take_nil, Nat.reduceBEq, Bool.or_self]
  intro b hb
  have hb0 : b = false := by cases b with
    | false => rfl
    | true => exact absurd (hb rfl) (by omega)
  subst hb0
  rw [brB_false]
  refine ⟨by omega, ?_⟩
  have hu : ∀ l : List Int, l.Perm p.l → ∀ i, 0 ≤ l.getD i 0 ∧ l.getD i 0 ≤ 8 := by
    intro l hlp i
    by_cases hi : i < l.length
    · have : l.getD i 0 = l[i] := by simp [hi]
      rw [this]
      have := hp.bd _ (hlp.mem_iff.1 (List.getElem_mem hi))
      omega
    · have e : l.getD i 0 = 0 := by simp [Nat.le_of_not_lt hi]
      rw [e]; omega
  refine DWc.loopG ok ck23 (α := Nat × List Int × List Int) (fun x => ⟨[(7, .int .i64 (x.1 : Int)), (6, .osl 4 (.int .u8) 0 p.l.length none), (5, .osl 3 (.int .i64) 0 x.2.2.length none)], ⟨5, 0, [(4, .arr (.int .u8) x.2.1), (3, .arr (.int .i64) x.2.2)]⟩⟩)
    (fun x => x.1 + 1 ≤ p.l.length ∧ GW p.l x.2.2 x.2.1 ∧ ∀ i, i < x.1 → x.2.1.getD i 0 < x.2.1.getD (i + 1) 0) (fun x => nInv x.2.1 * (p.l.length + 1) + (p.l.length - x.1)) (0, p.l, []) ?_ ?_ ?_
  · refine DEnt.of ?_; simp only [entD, entS, entO, Loc.kill, lk, lkO, Loc.kill, nbeqB,  ↓cond_true, ↓cond_false, DV.kill, geN, beq_self_eq_true, Nat.ble, List.length_nil, eq_self, and_true, true_and, and_self, Nat.zero_le, Nat.reduceBEq, DV.int.injEq, true_and, and_true, eq_self]
    exact ⟨rfl, rfl⟩
  · exact ⟨hl.1, .nil _, fun i hi => absurd hi (Nat.not_lt_zero _)⟩
  · rintro ⟨k, l, w⟩ ⟨k1, k2, k3⟩
    simp only at k1 k2 k3
    have ll : l.length = p.l.length := k2.perm.length_eq
    have lw : w.length ≤ 64 := by have := k2.inv; rw [← invL_nInv p.l] at this; have := invL_len p.l hl.2; omega
    have e1 : IntKind.i64.wrap ((k : Int) + 1) = (k : Int) + 1 := wrap64' (by omega)
    have e2 : IntKind.i64.wrap ((k : Int) - 2) = (k : Int) - 2 := wrap64' (by omega)
    have e3 : IntKind.i64.wrap (max ((k : Int) - 2) (-1) + 1) = ((k - 1 : Nat) : Int) := by rw [wrap64' (by omega)]; omega
    have e4 : ((k : Int) + 1).toNat = k + 1 := by omega
    simp (config := { maxSteps := 20000000 }) only [e1, e2, e3, e4, l28_0, go_nil, go_skip, go_reg, go_seq, go_cond, go_block, go_exit, go_ret, go_gh, go_codeX, go_ops0, go_opsK, keepM_nil, keepM_lo, FB, Nat.reducePow, Nat.reduceDiv, Nat.reduceMod, go_opsG1, go_opsP, go_opsE, go_opsC, go_blkN, go_blkX, go_rndN, go_rndX, unS_and, unl, callD, nilqD, eff1, eStore, eApp, gh1, frzP, frzOne, List.map_cons, List.map_nil, wantD, dpure, ev, evs, lk, putD, killT, memN, List.any_cons, List.any_nil, Bool.or_false, lkO, stO, rmO, newO, setO, renew, killO, Loc.kill, nbeqB,  ↓cond_true, ↓cond_false, Option.map_some, sideP, lenD, dBin, dIdx, dLoad, elB, elemsOf, asTy, unflat, DV.cellA, DV.cell, setAllD, dMm, dMmGo, subT, flat, Ty.size, Ty.isAgg, Ty.zero, Ty.D, fnQ, dress, dres1, unl, finDV, frzV, frzVs, sidesP, DV.kill, DV.killL, decide_true, decide_false, Nat.reduceAdd, Nat.zero_add, beq_self_eq_true, Bool.and_self, if_true, List.append_nil, Nat.ble, List.length_cons, List.length_nil, List.all_cons, List.all_nil, List.getD_cons_zero, dite_true, eq_self, reduceCtorEq, List.set_cons_zero, List.drop_zero, List.take_succ_cons, and_true, true_and, Nat.reduceLeDiff, Nat.le_refl, Ty.int.injEq, and_self, Int.reduceNeg, List.take_nil, Nat.reduceBEq, Bool.or_self, CO23, CO45, CO20, CO38, CO18, CO19, CO21, CO22, brB_eq, decide_eq_true_eq, decide_eq_false_iff_not, Int.not_lt, Int.toNat_natCast, DV.tup.injEq, List.cons.injEq, true_and, and_true, eq_self]
    have sw : l.length = p.l.length := ll
    refine ⟨fun g1 => ⟨by omega, by omega, by omega, by omega, fun g2 => ⟨by omega, by omega, by omega, by omega, ?_⟩, fun g2 => ?_⟩, fun g1 => ?_⟩
    · have fd : isFD l k := ⟨by omega, g2, k3⟩
      have hinv := nInv_swp l k fd.1 g2
      refine ⟨⟨by omega, by omega⟩, by omega, ⟨by omega, by omega⟩, by rw [List.length_set]; omega, by omega, (k - 1, swp l k, w ++ [(k : Int) + 1]), ?_, ⟨by omega, k2.snoc fd, fun i hi => ?_⟩, ?_⟩
      · simp only
        rw [← hinv, Nat.add_mul, Nat.one_mul]
        omega
      · have hi : i < k - 1 := hi
        have h2 := k3 i (by omega)
        rw [← swp_get l k i fd.1 (by omega), ← swp_get l k (i + 1) fd.1 (by omega)] at h2
        exact h2
      · refine DEnt.of ?_; simp only [entD, entS, entO, Loc.kill, lk, lkO, Loc.kill, nbeqB,  ↓cond_true, ↓cond_false, DV.kill, geN, beq_self_eq_true, Nat.ble, eq_self, and_true, true_and, Nat.zero_le, Nat.reduceBEq, true_and, and_true, eq_self]
        rw [List.take_length, List.length_append]
        exact ⟨rfl, rfl, rfl⟩
    · refine ⟨(k + 1, l, w), ?_, ⟨by omega, k2, fun i hi => ?_⟩, ?_⟩
      · simp only; omega
      · rcases Nat.lt_or_ge i k with q | q
        · exact k3 i q
        · have : i = k := by omega
          subst this
          exact nodup_lt k2.perm hp (by omega) (by omega)
      · refine DEnt.of ?_; simp only [entD, entS, entO, Loc.kill, lk, lkO, Loc.kill, nbeqB,  ↓cond_true, ↓cond_false, DV.kill, geN, beq_self_eq_true, Nat.ble, eq_self, and_true, true_and, and_self, Nat.zero_le, Nat.reduceBEq, DV.int.injEq, true_and, and_true, eq_self]
        rfl
    · rw [List.take_length]
      exact ⟨by omega, w, l, k2, fun i hi => k3 i (by omega), rfl⟩

end Go.Proofs.Ytpchlfmlolkeeaa

namespace Go.Proofs.Ytpchlfmlolkeeaa
open Go Go.RowKit Go.Am
set_option linter.unusedSimpArgs false
set_option linter.unusedVariables false
set_option maxRecDepth 20000
set_option maxHeartbeats 4000000

theorem thenS_perm {p q : List Int} (hp : Perm p) (hq : Perm q) (hl : q.length = p.length) : Perm (thenS p q).l := by
  have tl := thenS_len p q
  have get : ∀ i, i < p.length → (thenS p q).l.getD i 0 = q.getD (p.getD i 0 - 1).toNat 0 := fun i hi => thenS_get hi
  have lt : ∀ i, i < p.length → (p.getD i 0 - 1).toNat < q.length := fun i hi => by have := hp.get hi; omega
  refine ⟨by rw [tl]; exact hp.len, fun x hx => ?_, fun i hi => ?_, ?_⟩
  · obtain ⟨i, hi, rfl⟩ := List.getElem_of_mem hx
    rw [tl] at hi
    have e : (thenS p q).l[i] = (thenS p q).l.getD i 0 := by simp [tl, hi]
    rw [e, get i hi, tl, ← hl]
    exact hq.get (lt i hi)
  · rw [tl] at hi
    have m1 := idxOf_mem (hq.all i (by omega))
    have b1 := idxOf_bd q ((i : Int) + 1)
    have m2 := idxOf_mem (hp.all (idxOf q ((i : Int) + 1)).toNat (by omega))
    have b2 := idxOf_bd p (((idxOf q ((i : Int) + 1)).toNat : Int) + 1)
    generalize hk : (idxOf p (((idxOf q ((i : Int) + 1)).toNat : Int) + 1)).toNat = k at m2
    have hkl : k < p.length := by omega
    have := get k hkl
    rw [m2.2] at this
    have e : ((((idxOf q ((i : Int) + 1)).toNat : Nat) : Int) + 1 - 1).toNat = (idxOf q ((i : Int) + 1)).toNat := by omega
    rw [e, m1.2] at this
    have e2 : (thenS p q).l.getD k 0 = (thenS p q).l[k]'(by rw [tl]; exact hkl) := by simp [tl, hkl]
    rw [← this, e2]
    exact List.getElem_mem _
  · unfold thenS tab
    simp only
    rw [List.nodup_iff_pairwise_ne, List.pairwise_map]
    refine List.Pairwise.imp_of_mem (fun {a b} ha hb hab e => ?_) (List.pairwise_lt_range (n := p.length))
    have ha := List.mem_range.1 ha
    have hb := List.mem_range.1 hb
    have h1 := hq.idx (lt a ha)
    have h2 := hq.idx (lt b hb)
    rw [e] at h1
    have h3 := hp.idx ha
    have h4 := hp.idx hb
    have g1 := hp.get ha
    have g2 := hp.get hb
    have : p.getD a 0 = p.getD b 0 := by omega
    rw [this] at h3
    omega
theorem halfS_get {n i : Nat} (h : i < n) : (halfS n).l.getD i 0 = (n : Int) - i := tab_get h
theorem halfS_perm {n : Nat} (h : 1 ≤ n ∧ n ≤ 8) : Perm (halfS n).l := by
  have tl := halfS_len n
  refine ⟨by rw [tl]; exact h, fun x hx => ?_, fun i hi => ?_, ?_⟩
  · rw [tl]
    simp only [halfS, tab, List.mem_map, List.mem_range] at hx
    obtain ⟨j, hj, rfl⟩ := hx
    omega
  · rw [tl] at hi
    simp only [halfS, tab, List.mem_map, List.mem_range]
    exact ⟨n - 1 - i, by omega, by omega⟩
  · simp only [halfS, tab]
    rw [List.nodup_iff_pairwise_ne, List.pairwise_map]
    exact List.Pairwise.imp_of_mem (fun {a b} ha hb hab e => by omega) (List.pairwise_lt_range (n := n))
theorem bel_half (p : List Int) : belB p (halfS p.length).l = true := by
  unfold belB
  rw [List.all_eq_true]
  intro y hy
  have h1 := prs_lt hy
  have h2 := prs_bd (Nat.le_refl _) hy
  unfold belP
  rw [halfS_get h2.1, halfS_get h2.2]
  have : ¬ ((p.length : Int) - y.1 < (p.length : Int) - y.2) := by omega
  simp [this]
theorem half_count {p : List Int} (hp : Perm p) : nInv p + nInv (thenS (backS p).l (halfS p.length).l).l = (prs p.length p.length).length := by
  rw [nInv_rest hp, ← invL_nInv]
  unfold invL
  rw [List.length_map, ← List.countP_eq_length_filter]
  have e : (prs p.length p.length).countP (dis p (halfS p.length).l) = (prs p.length p.length).countP fun y => !crosses p y := by
    refine List.countP_congr fun y hy => ?_
    have h1 := prs_lt hy
    have h2 := prs_bd (Nat.le_refl _) hy
    unfold dis crosses
    rw [halfS_get h2.1, halfS_get h2.2]
    have c1 : (p.length : Int) - y.2 < (p.length : Int) - y.1 := by omega
    have c2 : ¬ ((p.length : Int) - y.1 < (p.length : Int) - y.2) := by omega
    have c3 : p.getD y.1 0 ≠ p.getD y.2 0 := fun e => by
      have g1 := hp.idx h2.1
      have g2 := hp.idx h2.2
      rw [e] at g1
      omega
    simp only [c1, c2, decide_true, decide_false, Bool.and_true, Bool.and_false, Bool.or_false, decide_eq_true_eq, Bool.not_eq_true', decide_eq_false_iff_not]
    omega
  rw [e]
  have := List.length_eq_countP_add_countP (crosses p) (l := prs p.length p.length)
  simp only [Bool.not_eq_true] at this
  rw [this]
  congr 1
  refine List.countP_congr fun y _ => ?_
  simp
theorem sorted_get {l : List Int} {n : Nat} (hl : l.length = n) (hb : ∀ x ∈ l, 1 ≤ x ∧ x ≤ n) (hs : ∀ i, i + 1 < l.length → l.getD i 0 < l.getD (i + 1) 0) {j : Nat} (hj : j < n) : l.getD j 0 = (j : Int) + 1 := by
  have bd : ∀ i, i < n → 1 ≤ l.getD i 0 ∧ l.getD i 0 ≤ n := fun i hi => by
    have : l.getD i 0 = l[i]'(by omega) := by simp [hl, hi]
    rw [this]; exact hb _ (List.getElem_mem _)
  have up : ∀ i, i < n → (i : Int) + 1 ≤ l.getD i 0 := by
    intro i
    induction i with
    | zero => intro hi; have := bd 0 hi; omega
    | succ i ih => intro hi; have := ih (by omega); have := hs i (by omega); omega
  have down : ∀ t i, i + t + 1 = n → l.getD i 0 ≤ (i : Int) + 1 := by
    intro t
    induction t with
    | zero => intro i hi; have := bd i (by omega); omega
    | succ t ih => intro i hi; have := ih (i + 1) (by omega); have := hs i (by omega); omega
  have := up j hj
  have := down (n - 1 - j) j (by omega)
  omega

theorem c7 (p : Sl Int) (hp : U8s p.l ∧ p.l.length ≤ 140737488351232) : PCalls Try.prog 7 [.sl (.int .u8) p] (fun d => d = .bool true) := by
  refine PCalls.go ok ck23 (c := d7) (rs := r7) Try.func7 rfl (by kernel_rfl) (by kernel_rfl) rfl rfl rfl ?_
  simp (config := { maxSteps := 20000000 }) only [d7, r7, go_reg, go_seq, go_ops0, go_opsK, keepM_nil, keepM_lo, FB, Nat.reducePow, Nat.reduceDiv, Nat.reduceMod, go_opsP, go_opsC, endP, unS_and, tgtD, callD, wantD, dpure, ev, evs, lk, putD, killT, argsD, nbeqB,  ↓cond_true, ↓cond_false, Option.map_some, sideP, Ty.D, decide_false, beq_self_eq_true, eq_self, Nat.reduceLeDiff, Nat.reduceBEq, CO23, CO15, CO50, CO35, CO30, CO42, CO43, CO39, CO14, CO8, CO9, CO24, CO25, CO26, CO27, CO12, CO40, CO36, CO37, CO16, CO17, CO45, CO20, CO38, CO18, CO19, CO21, CO22, CO0]
  obtain ⟨u1, u2⟩ := hp
  have hP := ofS_perm p.l
  refine ⟨u1, ?_⟩
  generalize ofS p.l = P at *
  clear u1 u2
  have hl := hP.len
  refine goI_pure (c28 P hP) ?_
  rintro _ ⟨w, l', hw, hs, rfl⟩
  have hw2 : w.length = (invL P.l).length := by have := hw.inv; rw [(sorted_inv l' hs).1] at this; rw [invL_nInv]; omega
  simp (config := { maxSteps := 20000000 }) only [hw2, go_skip, go_reg, go_seq, go_cond, go_block, go_loop, go_ops0, go_opsK, go_opsM, keepM_nil, keepM_lo, dropM_nil, dropM_lo, FB, Nat.reducePow, Nat.reduceDiv, Nat.reduceMod, go_opsP, go_opsE, go_opsC, ↓brB_false, ↓brM_false, unS_stp, unS_and, unl, callD, nilqD, eff1, eApp, List.map_cons, List.map_nil, wantD, dpure, ev, evs, lk, putD, killT, memN, List.any_cons, List.any_nil, Bool.or_false, lkO, stO, newO, renew, killO, Loc.kill, nbeqB,  ↓cond_true, ↓cond_false, Option.map_some, sideP, lenD, capD, dBin, dPick, elB, elemsOf, Ty.D, unl, DV.kill, decide_true, decide_false, Nat.reduceAdd, Nat.zero_add, beq_self_eq_true, Bool.and_self, if_true, Nat.ble, List.length_nil, dite_true, eq_self, List.getElem?_cons_zero, List.getElem?_cons_succ, true_and, Nat.reduceLeDiff, Bool.not_true, Nat.le_refl, List.take_nil, Nat.reduceBEq, CO23, CO17, CO45, CO20, CO38, CO18, CO19, CO21, CO22]
  have hlp := hw.perm
  have ln : l'.length = P.l.length := hlp.length_eq
  have iv : (invL P.l).length ≤ 64 := invL_len _ hl.2
  refine ⟨hP, by omega, ?_⟩
  refine DWc.loopG ok ck23 (α := Nat × List Int) (fun x => ⟨[(9, .int .i64 (x.1 : Int)), (8, .osl 3 (.int .u8) 0 P.l.length none), (6, .int .i64 ((invL P.l).length : Int)), (4, .sl (.int .i64) ⟨w, some (invL P.l).length⟩), (3, .sl (.int .u8) P)], ⟨4, 0, [(3, .arr (.int .u8) x.2)]⟩⟩)
    (fun x => x.1 ≤ w.length ∧ x.2.length = P.l.length ∧ GW x.2 (w.drop x.1) l') (fun x => w.length - x.1) (0, P.l) ?_ ?_ ?_
  · refine DEnt.of ?_; simp only [entD, entS, entO, Loc.kill, lk, lkO, Loc.kill, nbeqB,  ↓cond_true, ↓cond_false, Ty.D, DV.kill, geN, beq_self_eq_true, Nat.ble, eq_self, and_true, true_and, and_self, Nat.zero_le, Nat.reduceBEq, DV.int.injEq, true_and, and_true, eq_self]
    exact ⟨rfl, rfl⟩
  · exact ⟨Nat.zero_le _, rfl, hw⟩
  · rintro ⟨i, l⟩ ⟨h1, h2, h3⟩
    simp only at h1 h2 h3
    have e1 : IntKind.i64.wrap ((i : Int) + 1) = (i : Int) + 1 := wrap64' (by omega)
    simp (config := { maxSteps := 20000000 }) only [l7_0, go_nil, go_skip, go_reg, go_seq, go_cond, go_block, go_loop, go_exit, go_codeX, go_ops0, go_opsK, keepM_nil, keepM_lo, FB, Nat.reducePow, Nat.reduceDiv, Nat.reduceMod, go_opsP, go_blkX, go_rndX, unS_and, wantD, dpure, ev, lk, putD, nbeqB,  ↓cond_true, ↓cond_false, Option.map_some, sideP, lenD, dBin, Ty.D, decide_true, decide_false, beq_self_eq_true, eq_self, Nat.reduceLeDiff, Nat.reduceBEq, brB_eq, decide_eq_true_eq, decide_eq_false_iff_not, Int.not_lt, eq_self]
    refine ⟨fun g1 => ?_, fun g1 => ?_⟩
    · have hil : i < w.length := by omega
      rw [List.drop_eq_getElem_cons hil] at h3
      generalize hc : w[i] = c at h3
      have hcg : w.getD i 0 = c := by simp [hil, hc]
      cases h3 with
      | @cons _ _ _ k0 fd h3 =>
      refine DWc.loopG ok ck23 (α := Nat) (fun k => ⟨[(10, .int .i64 (k : Int)), (9, .int .i64 (i : Int)), (8, .osl 3 (.int .u8) 0 P.l.length none), (6, .int .i64 ((invL P.l).length : Int)), (4, .sl (.int .i64) ⟨w, some (invL P.l).length⟩), (3, .sl (.int .u8) P)], ⟨4, 0, [(3, .arr (.int .u8) l)]⟩⟩)
        (fun k => k ≤ k0) (fun k => k0 - k) 0 ?_ ?_ ?_
      · refine DEnt.of ?_; simp only [entD, entS, entO, Loc.kill, lk, lkO, Loc.kill, nbeqB,  ↓cond_true, ↓cond_false, Ty.D, DV.kill, geN, beq_self_eq_true, Nat.ble, eq_self, and_true, true_and, and_self, Nat.zero_le, Nat.reduceBEq, DV.int.injEq, true_and, and_true, eq_self]
        rfl
      · exact Nat.zero_le _
      · intro k hk
        have fd1 := fd.1
        have e2 : IntKind.i64.wrap ((k : Int) + 1) = (k : Int) + 1 := wrap64' (by omega)
        have e3 : ((k : Int) + 1).toNat = k + 1 := by omega
        simp (config := { maxSteps := 20000000 }) only [e1, e2, e3, l7_1, go_nil, go_skip, go_reg, go_seq, go_cond, go_block, go_exit, go_ret, go_codeX, go_codeR, go_ops0, go_opsK, go_opsM, keepM_nil, keepM_lo, dropM_nil, dropM_lo, FB, Nat.reducePow, Nat.reduceDiv, Nat.reduceMod, go_opsP, go_opsE, go_blkN, go_blkX, go_blkR, go_rndN, go_rndX, go_rndR, ↓brB_true, ↓brB_false, unS_stp, unS_and, unS_False, brM_mm, brM_sm, brM_ms, and_goS, bif_ff, bif_tt, unl, nilqD, eff1, eStore, wantD, dpure, ev, lk, putD, killT, lkO, stO, setO, nbeqB,  ↓cond_true, ↓cond_false, Option.map_some, sideP, lenD, dBin, dIdx, dLoad, dPick, asTy, unflat, DV.cellA, DV.cell, setAllD, subT, flat, Ty.size, Ty.isAgg, Ty.zero, Ty.D, fnQ, dress, dres1, unl, finDV, frzV, sidesP, DV.kill, decide_true, decide_false, Nat.zero_add, beq_self_eq_true, bTF, bFT, Bool.and_self, Bool.and_true, Bool.false_eq_true, if_true, Nat.ble, List.length_cons, List.length_nil, List.all_cons, List.all_nil, List.getD_cons_zero, dite_true, eq_self, List.set_cons_zero, Nat.reduceLeDiff, Bool.and_eq_true, Nat.reduceBEq, brB_eq, Bool.or_eq_false_iff, Bool.and_eq_false_imp, decide_eq_true_eq, decide_eq_false_iff_not, Bool.not_eq_true', Bool.not_eq_false', Bool.and_eq_true, Bool.or_eq_true, Int.not_lt, Int.not_le, Int.toNat_natCast, DV.bool.injEq, eq_self]
        refine ⟨fun _ => ⟨by omega, by omega, by omega, by omega⟩, fun g2 => ?_, fun g2 => ?_⟩
        · have : k ≠ k0 := fun e => by subst e; have := fd.2.1; omega
          refine ⟨k + 1, by omega, by omega, ?_⟩
          refine DEnt.of ?_; simp only [entD, entS, entO, Loc.kill, lk, lkO, Loc.kill, nbeqB,  ↓cond_true, ↓cond_false, DV.kill, geN, beq_self_eq_true, Nat.ble, eq_self, and_true, true_and, and_self, Nat.zero_le, Nat.reduceBEq, DV.int.injEq, true_and, and_true, eq_self]
          rfl
        · have hkk : k = k0 := by
            rcases Nat.lt_or_ge k k0 with q | q
            · have := fd.2.2 k q; have := g2 (by omega); omega
            · omega
          subst hkk
          rw [hcg]
          refine ⟨fun _ => by omega, fun q => ?_, fun _ => ⟨by omega, by omega, by omega, by omega, by omega, by omega, by omega, by rw [List.length_set]; omega, (i + 1, swp l k), by omega, ⟨by omega, by rw [swp_len]; exact h2, h3⟩, ?_⟩⟩
          · rcases q with q | q
            · omega
            · exact q rfl
          · refine DEnt.of ?_; simp only [entD, entS, entO, Loc.kill, lk, lkO, Loc.kill, nbeqB,  ↓cond_true, ↓cond_false, DV.kill, geN, beq_self_eq_true, Nat.ble, eq_self, and_true, true_and, and_self, Nat.zero_le, Nat.reduceBEq, DV.int.injEq, true_and, and_true, eq_self]
            exact ⟨rfl, rfl⟩
    · have hi : i = w.length := by omega
      subst hi
      rw [List.drop_length] at h3
      cases h3
      refine DWc.loopG ok ck23 (α := Nat) (fun j => ⟨[(11, .int .i64 (j : Int)), (8, .osl 3 (.int .u8) 0 P.l.length none), (6, .int .i64 ((invL P.l).length : Int)), (3, .sl (.int .u8) P)], ⟨4, 0, [(3, .arr (.int .u8) l')]⟩⟩)
        (fun j => j ≤ P.l.length) (fun j => P.l.length - j) 0 ?_ ?_ ?_
      · refine DEnt.of ?_; simp only [entD, entS, entO, Loc.kill, lk, lkO, Loc.kill, nbeqB,  ↓cond_true, ↓cond_false, DV.kill, geN, beq_self_eq_true, Nat.ble, eq_self, and_true, true_and, and_self, Nat.zero_le, Nat.reduceBEq, DV.int.injEq, true_and, and_true, eq_self]
        rfl
      · exact Nat.zero_le _
      · intro j hj
        have sg : j < P.l.length → l'.getD j 0 = (j : Int) + 1 := fun q => sorted_get ln (fun x hx => hP.bd x (hlp.mem_iff.1 hx)) hs q
        have e2 : IntKind.i64.wrap ((j : Int) + 1) = (j : Int) + 1 := wrap64' (by omega)
        have e3 : IntKind.i64.wrap (l'.getD j 0) = l'.getD j 0 := by
          rcases Nat.lt_or_ge j P.l.length with q | q
          · rw [sg q, wrap64' (by omega)]
          · have : l'.getD j 0 = 0 := by simp [ln, q]
            rw [this]; rfl
        simp (config := { maxSteps := 20000000 }) only [e2, e3, l7_2, go_nil, go_skip, go_reg, go_seq, go_cond, go_block, go_exit, go_ret, go_codeX, go_codeR, go_ops0, go_opsK, keepM_nil, keepM_lo, FB, Nat.reducePow, Nat.reduceDiv, Nat.reduceMod, go_opsP, go_opsC, go_blkN, go_blkX, go_blkR, go_rndN, go_rndX, go_rndR, unS_and, unS_False, tgtD, unl, callD, wantD, dpure, ev, evs, lk, putD, lkO, nbeqB,  ↓cond_true, ↓cond_false, Option.map_some, sideP, lenD, dBin, dIdx, dLoad, subT, flat, Ty.size, Ty.isAgg, Ty.zero, Ty.D, fnQ, dress, dres1, unl, finDV, frzV, sidesP, DV.kill, decide_true, decide_false, Nat.zero_add, beq_self_eq_true, Bool.and_self, Bool.false_eq_true, List.getD_cons_zero, dite_true, eq_self, Nat.reduceLeDiff, Nat.reduceBEq, CO23, CO15, CO50, CO35, CO30, CO42, CO43, CO39, CO14, CO8, CO9, CO24, CO25, CO26, CO27, CO12, CO40, CO36, CO37, CO16, CO17, CO45, CO20, CO38, CO18, CO19, CO21, CO22, CO0, brB_eq, decide_eq_true_eq, decide_eq_false_iff_not, Bool.not_eq_true', Bool.not_eq_false', Int.not_lt, Int.toNat_natCast, DV.bool.injEq, eq_self]
        refine ⟨fun g2 => ⟨by omega, by omega, fun q => q (sg (by omega)), fun _ => ⟨j + 1, by omega, by omega, ?_⟩⟩, fun g2 => ?_⟩
        · refine DEnt.of ?_; simp only [entD, entS, entO, Loc.kill, lk, lkO, Loc.kill, nbeqB,  ↓cond_true, ↓cond_false, DV.kill, geN, beq_self_eq_true, Nat.ble, eq_self, and_true, true_and, and_self, Nat.zero_le, Nat.reduceBEq, DV.int.injEq, true_and, and_true, eq_self]
          rfl
        · refine goI_pure (c29 P.l.length hl) ?_
          rintro _ rfl
          simp (config := { maxSteps := 20000000 }) only [go_nil, go_reg, go_seq, go_ret, go_ops0, go_opsK, go_opsM, keepM_nil, keepM_lo, dropM_nil, dropM_lo, FB, Nat.reducePow, Nat.reduceDiv, Nat.reduceMod, go_opsP, go_opsC, ↓brM_true, ↓brM_false, unS_stp, unS_and, unS_False, brM_mm, bif_ff, unl, callD, wantD, dpure, ev, evs, lk, putD, killT, nbeqB,  ↓cond_true, ↓cond_false, Option.map_some, sideP, lenD, dBin, dPick, Ty.D, fnQ, dress, dres1, unl, finDV, frzV, sidesP, DV.kill, decide_true, decide_false, beq_self_eq_true, bFT, Bool.and_true, Bool.false_eq_true, eq_self, List.getElem?_cons_zero, List.getElem?_cons_succ, Nat.reduceLeDiff, Nat.reduceBEq, CO23, CO15, CO36, CO37, CO16, CO17, CO45, CO20, CO38, CO18, CO19, CO21, CO22, decide_eq_true_eq, DV.bool.injEq, eq_self]
          have hH := halfS_perm (n := P.l.length) hl
          have hR := thenS_perm (p := (backS P.l).l) (q := (halfS P.l.length).l) (backS_perm hP) hH (by rw [backS_len, halfS_len])
          have cnt := half_count hP
          rw [← invL_nInv, ← invL_nInv] at cnt
          have two := prs_two P.l.length
          rw [← cnt] at two
          generalize (invL (thenS (backS P.l).l (halfS P.l.length).l).l).length = B at *
          have iv2 : P.l.length * (P.l.length - 1) ≤ 8 * 7 := Nat.mul_le_mul hl.2 (by omega)
          have two' : (P.l.length : Int) * ((P.l.length : Int) - 1) = 2 * (((invL P.l).length : Int) + (B : Int)) := by
            have e : ((P.l.length : Int) - 1) = ((P.l.length - 1 : Nat) : Int) := by omega
            rw [e, ← Int.natCast_mul, ← two]
            omega
          refine ⟨⟨hP, hH, halfS_len _, bel_half _⟩, hR, by omega, ?_⟩
          have w1 : IntKind.i64.wrap ((P.l.length : Int) - 1) = (P.l.length : Int) - 1 := wrap64' (by omega)
          rw [w1, two']
          have w2 : IntKind.i64.wrap (2 * (((invL P.l).length : Int) + (B : Int))) = 2 * (((invL P.l).length : Int) + (B : Int)) := wrap64' (by omega)
          rw [w2, Int.mul_tdiv_cancel_left _ (by omega)]
end Go.Proofs.Ytpchlfmlolkeeaa

